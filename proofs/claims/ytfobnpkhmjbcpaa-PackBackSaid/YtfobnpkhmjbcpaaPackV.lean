/- The walks of package pack: all, Values; the reference's Values. -/
import Derived.Test.YtfobnpkhmjbcpaaPackC
namespace Go.Proofs.Ytfobnpkhmjbcpaa
open Go.RowKit

theorem zero_of {P : Program} {e : TypeId} {size : Nat} {v z : Value} (h : (P.info? e).bind (·.zero) = some z) (hz : z.cells = Array.replicate size v) :
    ∀ i z', P.info? e = some i → i.zero = some z' → z'.cells = Array.replicate size v := by
  intro i z' hi hz'
  rw [hi] at h
  simp only [Option.bind_some] at h
  rw [hz'] at h
  injection h with h
  rw [h, hz]

theorem sliceTyB : SliceTy Try.prog 46 22 1 24 := SliceTy.mk' (z := .slice none 0 0) Try.underlying46 (by kernel_rfl) rfl (by decide)
theorem sliceTyV : SliceTy Try.prog 32 36 8 8 := SliceTy.mk' (z := .agg (zrow 8).toArray) Try.underlying32 (by kernel_rfl) rfl (by decide)

/-- the rows of eight bytes of a row of bytes: k of n laid -/
def rowsOf (b off n k : Nat) : List Value := (List.range n).map fun j => if j < k then .slice (some ⟨b, off + j * 8, none⟩) 8 8 else .slice none 0 0
theorem rowsOf_length (b off n k : Nat) : (rowsOf b off n k).length = n := by simp [rowsOf]
theorem rowsOf_zero (b off n : Nat) : rowsOf b off n 0 = List.replicate n (.slice none 0 0) := by
  apply List.ext_getElem <;> simp [rowsOf]
theorem rowsOf_set (b off n k : Nat) : (rowsOf b off n k).set k (.slice (some ⟨b, off + k * 8, none⟩) 8 8) = rowsOf b off n (k + 1) := by
  apply List.ext_getElem
  · simp [rowsOf]
  · intro i h1 h2
    rw [List.getElem_set]
    simp only [rowsOf, List.getElem_map, List.getElem_range]
    by_cases h : k = i
    · subst h; simp
    · rw [if_neg h]
      by_cases h3 : i < k
      · rw [if_pos h3, if_pos (by omega)]
      · rw [if_neg h3, if_neg (by omega)]
theorem rowsOf_get (b off n k : Nat) (hk : k < n) : (rowsOf b off n n)[k]'(by rw [rowsOf_length]; exact hk) = .slice (some ⟨b, off + k * 8, none⟩) 8 8 := by
  simp [rowsOf, hk]

set_option maxRecDepth 100000 in
set_option maxHeartbeats 1000000 in
theorem all_rows (A : Option Addr) (n c b off : Nat) (L : List UInt8) (w : World) (hA : At w A (rowsOf b off n n)) (hL : At w (some ⟨b, off, none⟩) (bs L)) (hlen : L.length = n * 8) (hb : n ≤ 2000) :
    Calls Try.prog 21 #[.slice A n c] w fun e w' => ∃ v, e = .returned v ∧ w'.ownsRow w.heap.size 5 1 v (n * 8) (bs L) ∧ Below w.heap.size w w' := by
  have HA : Hid (At w A (rowsOf b off n n)) := hA
  have HL : Hid (At w (some ⟨b, off, none⟩) (bs L)) := hL
  have Hlen := Lib.hid hlen
  clear hA hL hlen
  go_enter Try.func21, Try.ntmps21
  go_wp2_with fail
  go_loopw [2, 7] (fun v i wr => ∃ k : Nat, k ≤ n ∧ i = .int .i64 k ∧ Hid (wr.ownsRow w.heap.size 5 1 v (k * 8) (bs (L.take (k * 8)))) ∧ Below w.heap.size w wr) (fun _ i _ => n - (intOf i).toNat)
  case atStart => exact ⟨0, by omega, rfl, by simpa [bs, Hid] using World.ownsRow_nil w w.heap.size 5 1, Below.refl _ _⟩
  case round =>
    obtain ⟨k, hk, rfl, ho, hb⟩ := hrel
    by_cases hlt : k < n
    · obtain ⟨b', off', rfl, hbl, hc⟩ := (HA.out.below hb (Nat.le_refl _)).get (k := k) (by rw [rowsOf_length]; omega)
      rw [rowsOf_get b off n k hlt] at hc
      have hcut : At wr (some ⟨b, off + k * 8, none⟩) (bs ((L.drop (k * 8)).take 8)) := by
        have h := (HL.out.below hb (Nat.le_refl _)).cut (k * 8) 8
        rw [Option.map_some, addr_add] at h
        unfold bs
        rw [List.map_take, List.map_drop]
        exact h
      have hl8 : (bs ((L.drop (k * 8)).take 8)).length = 8 := by
        rw [bs_length]; simp; have := Hlen.out; omega
      have HT := Lib.hid hcut
      have Hl8 := Lib.hid hl8
      have hsz := hb.size
      clear hcut hl8
      go_wp2_with (refine wpList_app_own rfl (.tmp 11) (.tmp 12) bytesTyP rfl w.heap.size u2 (k * 8) (bs (L.take (k * 8))) rfl ho.out _ 8 8 _ rfl HT.out Hl8.out (one_bs _) (by unfold maxLen; omega) (by omega) hsz ?_; intro v2 w2 hown2 hg2 hat2)
      refine ⟨⟨k + 1, by omega, by go_num, ?_, hb.grown hg2 hsz (fun j hj => (ho.out.lt j hj).1)⟩, by simp [intOf]; omega⟩
      rw [← bs_append, ← List.take_add] at hown2
      rw [show (k + 1) * 8 = k * 8 + 8 by omega]
      exact hown2
    · have hkn : k = n := by omega
      rw [hkn] at ho
      clear hkn
      go_wp2_with fail
      go_ret
      refine ⟨_, rfl, ?_, hb⟩
      have h := ho.out
      rw [List.take_of_length_le (by rw [Hlen.out]; exact Nat.le_refl _)] at h
      exact h

set_option maxRecDepth 100000 in
set_option maxHeartbeats 1000000 in
theorem vals_any (A : Option Addr) (n c : Nat) (L : List UInt8) (w : World) (hL : At w A (bs L)) (hlen : L.length = n * 8) (hn2 : n ≤ 2000) :
    Calls Try.prog 18 #[.slice A n c] w fun e w' => ∃ v, e = .returned v ∧ w'.ownsRow w.heap.size 5 1 v (n * 8) (bs L) ∧ Below w.heap.size w w' := by
  obtain ⟨b, off, ho⟩ : ∃ b off, 0 < n → A = some ⟨b, off, none⟩ := by
    by_cases hn : 0 < n
    · obtain ⟨b, off, e, _⟩ := hL (by rw [bs_length]; omega)
      exact ⟨b, off, fun _ => e⟩
    · exact ⟨0, 0, fun h => absurd h hn⟩
  have hL' : At w (some ⟨b, off, none⟩) (bs L) := fun hn => by
    rw [bs_length] at hn
    have := ho (by omega)
    subst this
    exact hL (by rw [bs_length]; exact hn)
  have Ho := Lib.hid ho
  have HL := Lib.hid hL'
  have Hlen := Lib.hid hlen
  clear hL hL' hlen ho
  have Hv0 := Lib.hid (zero_of (P := Try.prog) (e := 22) (size := 1) (v := .slice none 0 0) (z := .slice none 0 0) (by kernel_rfl) rfl)
  go_enter Try.func18, Try.ntmps18
  go_wp2_with (refine wpList_make rfl (.tmp 6) (.tmp 6) sliceTyB rfl (.slice none 0 0) Hv0.out _ _ n n rfl rfl rfl rfl (Nat.le_refl _) (by omega) (by omega) (rowsOf b off n 0) (by rw [Nat.mul_one, rowsOf_zero]) ?_)
  have hB := Blk.new w 22 (rowsOf b off n 0)
  have hbel : Below w.heap.size w (w.alloc (.cells (rowsOf b off n 0).toArray 22)) := (Below.refl _ _).alloc (Nat.le_refl _) _
  go_loopw [10] (fun i wr => ∃ k : Nat, k ≤ n ∧ i = .int .i64 k ∧ Hid (Blk wr w.heap.size 22 (rowsOf b off n k)) ∧ Below w.heap.size w wr) (fun i _ => n - (intOf i).toNat)
  case atStart => exact ⟨0, by omega, rfl, hB, hbel⟩
  case round =>
    obtain ⟨k, hk, rfl, hB, hb⟩ := hrel
    by_cases hlt : k < n
    · obtain rfl := Ho.out (by omega)
      have hc : wr.cell? ⟨w.heap.size, k, none⟩ = some ((rowsOf b off n k)[k]'(by rw [rowsOf_length]; exact hlt)) := by rw [hB.out.cell, List.getElem?_eq_getElem]
      obtain ⟨v0, hv0⟩ : ∃ v, v = (rowsOf b off n k)[k]'(by rw [rowsOf_length]; exact hlt) := ⟨_, rfl⟩
      rw [← hv0] at hc
      have hf := hB.out.frozen k
      clear hv0
      go_wp2_with fail
      refine ⟨⟨k + 1, by omega, by go_num, ?_, hb.setCell (Nat.le_refl _) _⟩, by simp [intOf]; omega⟩
      have h2 := hB.out.set_ k (.slice (some ⟨b, off + k * 8, none⟩) 8 8)
      rw [rowsOf_set] at h2
      exact h2
    · have hkn : k = n := by omega
      rw [hkn] at hB
      clear hkn
      go_wp2_with fail
      refine (all_rows _ n n b off L _ (hB.out.at_ 0 _ (fun j u h => by rw [Nat.zero_add]; exact h)) (HL.out.below hb (Nat.le_refl _)) Hlen.out hn2).mono ?_
      rintro e w2 ⟨v2, rfl, hown2, hb2⟩
      have hsz := hb.size
      go_wp2_with fail
      go_ret
      exact ⟨_, rfl, own_mono hown2 hsz, hb.trans (hb2.mono hsz)⟩

set_option maxRecDepth 100000 in
set_option maxHeartbeats 1000000 in
theorem rvals_any (A : Option Addr) (n c : Nat) (L : List UInt8) (w : World) (hL : At w A (bs L)) (hlen : L.length = n * 8) (hb : n ≤ 2000) :
    Calls Try.prog 19 #[.slice A n c] w fun e w' => ∃ v, e = .returned v ∧ w'.ownsRow w.heap.size 5 1 v (n * 8) (bs L) ∧ Below w.heap.size w w' := by
  have HL : Hid (At w A (bs L)) := hL
  have Hlen := Lib.hid hlen
  clear hL hlen
  go_enter Try.func19, Try.ntmps19
  go_wp2_with fail
  go_loopw [3, 4] (fun v i wr => ∃ k : Nat, k ≤ n ∧ i = .int .i64 k ∧ Hid (wr.ownsRow w.heap.size 5 1 v (k * 8) (bs (L.take (k * 8)))) ∧ Below w.heap.size w wr) (fun _ i _ => n - (intOf i).toNat)
  case atStart => exact ⟨0, by omega, rfl, by simpa [bs, Hid] using World.ownsRow_nil w w.heap.size 5 1, Below.refl _ _⟩
  case round =>
    obtain ⟨k, hk, rfl, ho, hb⟩ := hrel
    by_cases hlt : k < n
    · go_wp2_with fail
      go_loopw [3, 5] (fun v i wr => ∃ j : Nat, j ≤ 8 ∧ i = .int .i64 j ∧ Hid (wr.ownsRow w.heap.size 5 1 v (k * 8 + j) (bs (L.take (k * 8 + j)))) ∧ Below w.heap.size w wr) (fun _ i _ => 8 - (intOf i).toNat)
      case atStart => exact ⟨0, by omega, rfl, ho, hb⟩
      case round =>
        obtain ⟨j, hj, rfl, ho2, hb2⟩ := hrel
        by_cases hlt2 : j < 8
        · obtain ⟨b', off', rfl, hbl, hc⟩ := (HL.out.below hb2 (Nat.le_refl _)).get (k := k * 8 + j) (by rw [bs_length]; have := Hlen.out; omega)
          rw [bs_get L _ (by have := Hlen.out; omega)] at hc
          obtain ⟨x, hx⟩ : ∃ x, x = L[k * 8 + j]'(by have := Hlen.out; omega) := ⟨_, rfl⟩
          rw [← hx, ← Nat.add_assoc] at hc
          have Hx := Lib.hid hx
          clear hx
          have HT := Lib.hid (at_new wr [B8 x] 5 (0, 0))
          have HO := Lib.hid (ho2.out.alloc (.cells [B8 x].toArray 5))
          have hsz := hb2.size
          go_wp2_with (refine wpList_app_own rfl (.tmp 16) (.tmp 23) bytesTyP rfl w.heap.size u3 (k * 8 + j) (bs (L.take (k * 8 + j))) rfl HO.out _ 1 1 _ rfl HT.out rfl (by intro u hu; simp at hu; subst hu; rfl) (by unfold maxLen; omega) (by omega) (by simp; omega) ?_; intro v2 w2 hown2 hg2 hat2)
          refine ⟨⟨j + 1, by omega, by go_num, ?_, (hb2.alloc hsz _).grown hg2 (by simp; omega) (fun j hj => (HO.out.lt j hj).1)⟩, by simp [intOf]; omega⟩
          rw [← Nat.add_assoc, List.take_succ_eq_append_getElem (by have := Hlen.out; omega), ← Hx.out]
          exact own_bytes_more hown2
        · have hj8 : j = 8 := by omega
          rw [hj8] at ho2
          clear hj8
          go_wp2_with fail
          refine ⟨⟨k + 1, by omega, by go_num, ?_, hb2⟩, by simp [intOf]; omega⟩
          rw [show (k + 1) * 8 = k * 8 + 8 by omega]
          exact ho2
    · have hkn : k = n := by omega
      rw [hkn] at ho
      clear hkn
      go_wp2_with fail
      go_ret
      refine ⟨_, rfl, ?_, hb⟩
      have h := ho.out
      rw [List.take_of_length_le (by rw [Hlen.out]; exact Nat.le_refl _)] at h
      exact h
end Go.Proofs.Ytfobnpkhmjbcpaa
