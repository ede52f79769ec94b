/- The walk of package stripe: places. -/
import Derived.Test.YtbleebiffpkcmaaStripeA
import Derived.Test.YtbleebiffpkcmaaMemArr
import Derived.Laws.ComplexArith
namespace Go.Proofs.Ytbleebiffpkcmaa
open Go.RowKit

theorem run_store_complex {P : Program} {w : World} {a : Addr} {m : Mode} (k : FloatKind) (x y : Nat) : (store a (.complex k x y) m).run P w = stored P w a (.complex k x y) m := run_store P w a _ m rfl
attribute [local go_sem] run_store_complex

abbrev Cx (a b : Nat) : Value := .complex .f64 (fl a) (fl b)
theorem cx_zero : Cx 0 0 = .complex .f64 0 0 := by rw [Cx, fl_zero]

namespace St
/-- how many slots of shard s are taken, i stripes and k blocks of the next behind us -/
def used (of : List Int) (i k s : Nat) : Nat := 4 * (of.take i).count (s : Int) + (if of[i]? = some (s : Int) then k else 0)
def shard (of : List Int) (b : Nat) : Nat := (of.getD (b / 4) 0).toNat
def slot (of : List Int) (b : Nat) : Nat := 4 * (of.take (b / 4)).count (of.getD (b / 4) 0) + b % 4
def nx0 (k : Nat) : List Value := (List.range 5).map fun s => if s < k then Cx s 0 else .complex .f64 0 0
def nxt (of : List Int) (i k : Nat) : List Value := (List.range 5).map fun s => Cx s (used of i k s)
def pls (of : List Int) (j : Nat) : List Value := (List.range 32).map fun b => if b < j then Cx (shard of b) (slot of b) else .complex .f64 0 0

theorem nx0_length (k : Nat) : (nx0 k).length = 5 := by simp [nx0]
theorem nxt_length (of : List Int) (i k : Nat) : (nxt of i k).length = 5 := by simp [nxt]
theorem pls_length (of : List Int) (j : Nat) : (pls of j).length = 32 := by simp [pls]
theorem nx0_set (k : Nat) : (nx0 k).set k (Cx k 0) = nx0 (k + 1) := by
  apply List.ext_getElem
  · simp [nx0]
  · intro i h1 h2
    rw [List.getElem_set]
    simp only [nx0, List.getElem_map, List.getElem_range]
    by_cases h : k = i
    · subst h; simp
    · rw [if_neg h]
      by_cases h3 : i < k
      · rw [if_pos h3, if_pos (by omega)]
      · rw [if_neg h3, if_neg (by omega)]
theorem nx0_all (of : List Int) : nx0 5 = nxt of 0 0 := by
  apply List.ext_getElem
  · simp [nx0, nxt]
  · intro i h1 h2
    simp only [nx0_length] at h1
    simp [nx0, nxt, used, h1]
theorem used_turn (of : List Int) (i s : Nat) (hi : i < of.length) : used of i 4 s = used of (i + 1) 0 s := by
  unfold used
  rw [List.take_succ_eq_append_getElem hi, List.count_append, List.getElem?_eq_getElem hi]
  by_cases h : of[i] = (s : Int)
  · simp [h]; omega
  · simp [h]
theorem used_step (of : List Int) (i k S : Nat) (h : of[i]? = some (S : Int)) : used of i k S + 1 = used of i (k + 1) S := by
  unfold used
  rw [if_pos h, if_pos h]; omega
theorem used_other (of : List Int) (i k k' S s : Nat) (h : of[i]? = some (S : Int)) (hs : S ≠ s) : used of i k s = used of i k' s := by
  unfold used
  rw [if_neg (by rw [h]; simp; omega), if_neg (by rw [h]; simp; omega)]
theorem nxt_turn (of : List Int) (i : Nat) (hi : i < of.length) : nxt of i 4 = nxt of (i + 1) 0 := by
  unfold nxt
  apply List.map_congr_left
  intro s _
  rw [used_turn of i s hi]
theorem nxt_set (of : List Int) (i k S : Nat) (h : of[i]? = some (S : Int)) : (nxt of i k).set S (Cx S (used of i k S + 1)) = nxt of i (k + 1) := by
  apply List.ext_getElem
  · simp [nxt]
  · intro j h1 h2
    rw [List.getElem_set]
    simp only [nxt, List.getElem_map, List.getElem_range]
    by_cases e : S = j
    · subst e
      rw [if_pos rfl, used_step of i k S h]
    · rw [if_neg e, used_other of i k (k + 1) S j h e]
theorem pls_set (of : List Int) (i k S : Nat) (hk : k < 4) (h : of[i]? = some (S : Int)) : (pls of (i * 4 + k)).set (i * 4 + k) (Cx S (used of i k S)) = pls of (i * 4 + k + 1) := by
  apply List.ext_getElem
  · simp [pls]
  · intro j h1 h2
    rw [List.getElem_set]
    simp only [pls, List.getElem_map, List.getElem_range]
    by_cases e : i * 4 + k = j
    · subst e
      rw [if_pos rfl, if_pos (by omega)]
      have e1 : (i * 4 + k) / 4 = i := by omega
      have e2 : (i * 4 + k) % 4 = k := by omega
      have e3 : of.getD i 0 = (S : Int) := by simp [List.getD, h]
      unfold shard slot used
      rw [e1, e2, e3, if_pos h]
      rfl
    · rw [if_neg e]
      by_cases h3 : j < i * 4 + k
      · rw [if_pos h3, if_pos (by omega)]
      · rw [if_neg h3, if_neg (by omega)]
end St

theorem okOf_get {of : List Int} (h : St.okOf of = true) (i : Nat) (hi : i < of.length) : ∃ S : Nat, of[i]? = some (S : Int) ∧ S ≤ 4 := by
  have h1 := List.all_eq_true.1 h (of[i]) (List.getElem_mem hi)
  simp only [decide_eq_true_eq] at h1
  refine ⟨(of[i]).toNat, ?_, by omega⟩
  rw [List.getElem?_eq_getElem hi]
  congr 1
  omega
theorem St.used_lt (of : List Int) (i k s : Nat) (h8 : of.length = 8) (hi : i < 8) (hk : k < 4) : St.used of i k s < 36 := by
  unfold St.used
  have := List.count_le_length (a := (s : Int)) (l := of.take i)
  rw [List.length_take] at this
  split <;> omega

set_option maxRecDepth 100000 in
set_option maxHeartbeats 2000000 in
theorem places_any (V : Int) (of : List Int) (w : World) (h8 : of.length = 8) (hok : St.okOf of = true) :
    Calls Try.prog 24 #[.agg (mp V of).toArray] w fun e w' => e = .returned (.agg (St.pls of 32).toArray) ∧ Below w.heap.size w w' := by
  have H8 := Lib.hid h8
  have Hok := Lib.hid hok
  obtain ⟨w1, hw1⟩ : ∃ w1, w1 = ((Bx w V of).alloc (.cells (St.pls of 0).toArray 65)).alloc (.cells (St.nx0 0).toArray 75) := ⟨_, rfl⟩
  have hB1 : Blk w1 w.heap.size 34 (mp V of) := by rw [hw1]; exact ((Blk.new w 34 (mp V of)).alloc _).alloc _
  have hB2 : Blk w1 (w.heap.size + 1) 65 (St.pls of 0) := by
    have := Blk.new (Bx w V of) 65 (St.pls of 0)
    rw [World.size_alloc] at this
    rw [hw1]; exact this.alloc _
  have hB3 : Blk w1 (w.heap.size + 1 + 1) 75 (St.nx0 0) := by
    have := Blk.new ((Bx w V of).alloc (.cells (St.pls of 0).toArray 65)) 75 (St.nx0 0)
    rw [World.size_alloc, World.size_alloc] at this
    rw [hw1]; exact this
  have hb01 : Below w.heap.size w w1 := by rw [hw1]; exact (((Below.refl _ _).alloc (Nat.le_refl _) _).alloc (by simp) _).alloc (by simp; omega) _
  have HB1 := Lib.hid hB1
  have HB2 := Lib.hid hB2
  have HB3 := Lib.hid hB3
  have Hw1 := Lib.hid hw1
  clear hB1 hB2 hB3 hw1 h8 hok
  go_enter Try.func24, Try.ntmps24
  go_wp2_with fail
  change Code.wp _ _ _ _ (((Bx w V of).alloc (.cells (St.pls of 0).toArray 65)).alloc (.cells (St.nx0 0).toArray 75))
  rw [← Hw1.out]
  go_loopw [8] (fun i wr => ∃ k : Nat, k ≤ 5 ∧ i = .int .i64 k ∧ Hid (Blk wr w.heap.size 34 (mp V of)) ∧ Hid (Blk wr (w.heap.size + 1) 65 (St.pls of 0)) ∧ Hid (Blk wr (w.heap.size + 1 + 1) 75 (St.nx0 k)) ∧ Below w.heap.size w wr) (fun i _ => 5 - (intOf i).toNat)
  case atStart => exact ⟨0, by omega, rfl, HB1.out, HB2.out, HB3.out, hb01⟩
  case round =>
    obtain ⟨k, hk, rfl, hM, hO, hN, hb⟩ := hrel
    by_cases hlt : k < 5
    · have hc : wr.cell? ⟨w.heap.size + 1 + 1, k, none⟩ = some ((St.nx0 k)[k]'(by rw [St.nx0_length]; exact hlt)) := by rw [hN.out.cell, List.getElem?_eq_getElem]
      obtain ⟨v0, hv0⟩ : ∃ v, v = (St.nx0 k)[k]'(by rw [St.nx0_length]; exact hlt) := ⟨_, rfl⟩
      rw [← hv0] at hc
      have hf := hN.out.frozen k
      clear hv0
      go_wp2_with fail
      have hset := hN.out.set_ k (Cx k 0)
      rw [St.nx0_set] at hset
      have e0 : Cx k 0 = .complex .f64 (floatOfInt .f64 (k : Int)) 0 := by rw [Cx, fl_zero]; rfl
      rw [e0] at hset
      exact ⟨⟨k + 1, by omega, by go_num, hM.out.far (by simp; omega) _, hO.out.far (by simp) _, hset, hb.setCell (by simp; omega) _⟩, by simp [intOf]; omega⟩
    · have hk5 : k = 5 := by omega
      rw [hk5, St.nx0_all of] at hN
      have hs : (Try.prog.info? 32).map (·.size) = some (is of).length := by rw [List.length_map, H8.out]; kernel_rfl
      have Hs := Lib.hid hs
      have hil : 0 < (is of).length := by rw [List.length_map, H8.out]; omega
      have Hil := Lib.hid hil
      have HMa := Lib.hid (mp_at hM.out)
      clear hk5 hs hil
      go_wp2_with (refine wpList_load_at rfl _ (.tmp 17) rfl w.heap.size 1 rfl (is of) _ HMa.out Hil.out Try.underlying32 rfl Hs.out ?_)
      have hb0 := hb
      clear hb
      go_loopw [19] (fun i wr => ∃ k : Nat, k ≤ 8 ∧ i = .int .i64 k ∧ Hid (Blk wr (w.heap.size + 1) 65 (St.pls of (k * 4))) ∧ Hid (Blk wr (w.heap.size + 1 + 1) 75 (St.nxt of k 0)) ∧ Below w.heap.size w wr) (fun i _ => 8 - (intOf i).toNat)
      case atStart => exact ⟨0, by omega, rfl, hO.out, hN.out, hb0⟩
      case round =>
        obtain ⟨i, hi, rfl, hO, hN, hb⟩ := hrel
        by_cases hlt2 : i < 8
        · obtain ⟨S, hS, hS4⟩ := okOf_get Hok.out i (by rw [H8.out]; exact hlt2)
          have hix := fun w' : World => run_index (P := Try.prog) w' Try.underlying32 Try.underlying3 rfl (by kernel_rfl) (is of) i hlt2 (.int .i64 (S : Int)) (by rw [List.getElem?_map, hS]; rfl)
          have HS := Lib.hid hS
          clear hS
          go_wp2_with fail
          go_loopw [23] (fun j wr => ∃ k : Nat, k ≤ 4 ∧ j = .int .i64 k ∧ Hid (Blk wr (w.heap.size + 1) 65 (St.pls of (i * 4 + k))) ∧ Hid (Blk wr (w.heap.size + 1 + 1) 75 (St.nxt of i k)) ∧ Below w.heap.size w wr) (fun j _ => 4 - (intOf j).toNat)
          case atStart => exact ⟨0, by omega, rfl, hO.out, hN.out, hb⟩
          case round =>
            obtain ⟨k, hk, rfl, hO2, hN2, hb2⟩ := hrel
            by_cases hlt3 : k < 4
            · obtain ⟨U, hU⟩ : ∃ U, U = St.used of i k S := ⟨_, rfl⟩
              have hU36 : U < 36 := by rw [hU]; exact St.used_lt of i k S H8.out hlt2 hlt3
              have hc : wr.cell? ⟨w.heap.size + 1 + 1, S, none⟩ = some (Cx S U) := by
                rw [hN2.out.cell, List.getElem?_eq_getElem (by rw [St.nxt_length]; omega)]
                simp [St.nxt, hU]
              have hc2 : wr.cell? ⟨w.heap.size + 1, i * 4 + k, none⟩ = some ((St.pls of (i * 4 + k))[i * 4 + k]'(by rw [St.pls_length]; omega)) := by rw [hO2.out.cell, List.getElem?_eq_getElem]
              obtain ⟨v0, hv0⟩ : ∃ v, v = (St.pls of (i * 4 + k))[i * 4 + k]'(by rw [St.pls_length]; omega) := ⟨_, rfl⟩
              rw [← hv0] at hc2
              have hf := hN2.out.frozen S
              have hf2 := hO2.out.frozen (i * 4 + k)
              have hadd : ∀ (w' : World) (t : TypeId), (binOp .add t (Cx S U) (.complex .f64 0 4607182418800017408)).run Try.prog w' = .ok (Cx S (U + 1)) w' := fun w' t => by
                refine run_complex_sum w' .add (Or.inl rfl) t .f64 _ _ _ _ _ _ ?_
                have a0 := fl_add0 ⟨S, by omega⟩
                have a1 := fl_add1 ⟨U, by omega⟩
                simp only at a0 a1
                simp [cSumBits, floatBits, a0, a1]
              have hs5 : (S : Int) < 5 := by omega
              have HU := Lib.hid hU
              clear hv0 hU
              go_wp2_with fail
              have hO3 := (hO2.out.set_ (i * 4 + k) (Cx S U)).far (p := ⟨w.heap.size + 1 + 1, S, none⟩) (by simp) (Cx S (U + 1))
              have hN3 := (hN2.out.far (p := ⟨w.heap.size + 1, i * 4 + k, none⟩) (by simp) (Cx S U)).set_ S (Cx S (U + 1))
              rw [HU.out, St.pls_set of i k S hlt3 HS.out, ← HU.out] at hO3
              rw [HU.out, St.nxt_set of i k S HS.out, ← HU.out] at hN3
              exact ⟨⟨k + 1, by omega, by go_num, hO3, hN3, (hb2.setCell (by simp) _).setCell (by simp; omega) _⟩, by simp [intOf]; omega⟩
            · have hk4 : k = 4 := by omega
              rw [hk4, St.nxt_turn of i (by rw [H8.out]; exact hlt2)] at hN2
              rw [hk4] at hO2
              clear hk4
              go_wp2_with fail
              exact ⟨⟨i + 1, by omega, by go_num, by rw [show (i + 1) * 4 = i * 4 + 4 by omega]; exact hO2, hN2, hb2⟩, by simp [intOf]; omega⟩
        · have hi8 : i = 8 := by omega
          rw [hi8] at hO
          have hs2 : (Try.prog.info? 65).map (·.size) = some (St.pls of 32).toArray.size := by rw [List.size_toArray, St.pls_length]; kernel_rfl
          have h1 : (St.pls of 32).toArray.all (·.oneCell') = true := by
            rw [List.all_toArray, List.all_eq_true]
            intro u hu
            obtain ⟨b, _, rfl⟩ := List.mem_map.1 hu
            split <;> rfl
          have Hs2 := Lib.hid hs2
          have Hone := Lib.hid h1
          clear hi8 hs2 h1
          go_wp2_with (first
            | (refine wpList_load_row rfl _ (.tmp 2) rfl (w.heap.size + 1) rfl 65 (St.pls of 32).toArray (0, 0) _ hO.out Try.underlying65 rfl Hs2.out ?_)
            | (refine wpList_store_row rfl _ (.tmp 2) (.tmp 41) rfl (w.heap.size + 1) (St.pls of 32).toArray rfl rfl 65 (St.pls of 32).toArray hO.out Hs2.out rfl Hone.out ?_))
          refine bodyPost_ret (v := .agg (St.pls of 32).toArray) (results_cell_row rfl _ _ (w.heap.size + 1) 65 _ (0, 0) _ rfl (hO.out.row (St.pls of 32)) Try.underlying65 rfl Hs2.out) rfl ⟨rfl, below_setRow hb (by omega) _⟩
end Go.Proofs.Ytbleebiffpkcmaa
