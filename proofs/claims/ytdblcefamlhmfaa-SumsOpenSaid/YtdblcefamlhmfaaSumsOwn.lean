/- The walk of the law SumsOwn. -/
import Derived.Test.YtdblcefamlhmfaaSumsD
namespace Go.Proofs.Ytdblcefamlhmfaa
open Go.RowKit

theorem u8_xor_n8 (a b : UInt8) : bits .xor .u8 (n8 a) (n8 b) = n8 (a ^^^ b) := by
  unfold n8
  rw [u8_xor_nat _ _ a.toNat_lt b.toNat_lt, UInt8.toNat_xor]

/-- rows of the call's own keep away from a turn of another one -/
theorem At.grown {w w' : World} {A : Option Addr} {xs : List Value} {g : Nat} (h : At w A xs) (hg : w.grownBy w' (some g)) (hne : ∀ a, A = some a → a.block ≠ g) : At w' A xs := fun hn => by
  obtain ⟨b, off, rfl, hc⟩ := h hn
  exact ⟨b, off, rfl, fun j u hu => hg.cell (hc j u hu) (by simpa using hne _ rfl)⟩
theorem grown_trans {w w1 w2 : World} {g : Nat} (h1 : w.grownBy w1 (some g)) (h2 : w1.grownBy w2 (some g)) : w.grownBy w2 (some g) :=
  ⟨h2.os.trans h1.os, h2.tape.trans h1.tape, h2.output.trans h1.output, Nat.le_trans h1.size h2.size, fun k hk hne => (h2.block k (Nat.lt_of_lt_of_le hk h1.size) hne).trans (h1.block k hk hne)⟩

set_option maxRecDepth 100000 in
set_option maxHeartbeats 1000000 in
theorem own_main (A : Option Addr) (l : List UInt8) (c : Nat) (y : UInt8) (w : World) (hA : At w A (bs l)) (hc : l.length ≤ c) (h1 : l.length ≤ 20000) :
    Calls Try.prog 6 #[.slice A l.length c, .int .u8 (n8 y)] w fun e w' => e = .returned (.bool true) ∧ Below w.heap.size w w' := by
  have HA : Hid (At w A (bs l)) := hA
  have k1 := convStr w A l.length c l hA rfl
  have y0 := n8_0 y
  have y1 := n8_lt y
  clear hA
  go_enter Try.func6, Try.ntmps6
  go_wp2_with fail
  clear k1
  refine (seal_any A l _ c _ HA.out rfl hc (by omega)).mono ?_
  rintro e w1 ⟨v, rfl, hown, hb1⟩
  obtain ⟨g, cs, rfl, hcs, _, hg, hat⟩ := own_shape hown (by omega)
  have hlen : (Crc.seal_ l).length = l.length + 4 := by simp [Crc.seal_, Crc.tail4_length]
  have htk : (Crc.seal_ l).take ((Crc.seal_ l).length - 4) = l := by rw [hlen]; simp [Crc.seal_]
  have HO := Lib.hid hown
  clear hown
  go_wp2_with fail
  refine (open_yes _ (Crc.seal_ l) _ cs _ hat hlen.symm hcs (by omega) (Crc.okSealed_seal l)).mono ?_
  rintro e w2 ⟨vx, rfl, hownx, hb2⟩
  rw [htk, hlen, Nat.add_sub_cancel] at hownx
  have Hlen := Lib.hid hlen
  clear hat htk hlen
  have hb02 : Below w.heap.size w w2 := hb1.trans (hb2.mono hb1.size)
  obtain ⟨Ax, cx, rfl, _, _, hatx⟩ := own_at hownx
  have hgl : g < w1.heap.size := (HO.out.lt g rfl).2
  have hgx : ∀ a, Ax = some a → a.block ≠ g := by
    rintro a rfl he
    have := (hownx.lt a.block rfl).1
    omega
  have HO2 := Lib.hid (own_below HO.out hb2)
  have HX := Lib.hid hownx
  have Hx := Lib.hid hatx
  clear hownx hatx
  go_wp2_with fail
  have hsz2 := hb02.size
  go_loopw [36] (fun i wr => ∃ (k : Nat) (l' : List UInt8), k ≤ l.length + 4 ∧ i = .int .i64 k ∧ Hid (l'.length = l.length + 4) ∧ Hid (wr.ownsRow w.heap.size 5 1 (.slice (some ⟨g, 0, none⟩) (l.length + 4) cs) (l.length + 4) (bs l')) ∧ Hid (w2.grownBy wr (some g))) (fun i _ => l.length + 4 - (intOf i).toNat)
  case atStart => exact ⟨0, Crc.seal_ l, by omega, rfl, Hlen.out, HO2.out, World.grownBy.refl w2 _⟩
  case round =>
    obtain ⟨k, l', hk, rfl, hl', ho, hgr⟩ := hrel
    by_cases hlt : k < l.length + 4
    · have hcell := ho.out.cellAt k (by omega)
      have hfr := ho.out.frozenAt k
      have hget : (bs l')[k]? = some (B8 (l'[k]'(by rw [hl'.out]; exact hlt))) := by
        rw [List.getElem?_eq_getElem (by rw [bs_length, hl'.out]; exact hlt), bs_get]
      rw [hget] at hcell
      obtain ⟨z, hz⟩ : ∃ z, z = l'[k]'(by rw [hl'.out]; exact hlt) := ⟨_, rfl⟩
      rw [← hz] at hcell
      have z0 := n8_0 z
      have z1 := n8_lt z
      have ex := u8_xor_n8 z y
      clear hget hz
      go_wp2
      go_roundw
      case rel =>
        have hst := ho.out.stored k (B8 (z ^^^ y))
        refine ⟨k + 1, l'.set k (z ^^^ y), by omega, by go_num, by unfold Hid; rw [List.length_set]; exact hl'.out, ?_, grown_trans hgr.out hst.2⟩
        have : bs (l'.set k (z ^^^ y)) = (bs l').set k (B8 (z ^^^ y)) := by unfold bs; rw [List.map_set]
        unfold Hid
        rw [this]
        exact hst.1
      case measure => simp [intOf]; omega
    · have hbr : Below w.heap.size w wr := hb02.grown hgr.out (by omega) (fun k' e => by cases e; exact hg)
      have kx := convStr wr Ax l.length cx l (Hx.out.grown hgr.out hgx) rfl
      have kb := convStr wr A l.length c l (HA.out.below hbr (Nat.le_refl _)) rfl
      go_wp2_with fail
      have HX3 : Hid (wr.ownsRow w1.heap.size 5 1 (.slice Ax l.length cx) l.length (bs l)) := HX.out.kept hgr.out (by
        right
        intro e
        cases Ax with
        | none => cases e
        | some a => exact hgx a rfl (by simpa [Value.ownBlock] using e))
      clear kx kb
      go_loopw [61] (fun i w3 => ∃ (k : Nat) (l' : List UInt8), k ≤ l.length ∧ i = .int .i64 k ∧ Hid (l'.length = l.length) ∧ Hid (w3.ownsRow w1.heap.size 5 1 (.slice Ax l.length cx) l.length (bs l')) ∧ Below w.heap.size w w3) (fun i _ => l.length - (intOf i).toNat)
      case atStart => exact ⟨0, l, by omega, rfl, rfl, HX3.out, hbr⟩
      case round =>
        obtain ⟨k2, l2, hk2, rfl, hl2, ho2, hb3⟩ := hrel
        by_cases hlt2 : k2 < l.length
        · obtain ⟨gx, cx', hv, _, _, hgx2, _⟩ := own_shape ho2.out (by omega)
          injection hv with hv1 hv2 hv3
          subst hv1
          have hcell := ho2.out.cellAt k2 (by omega)
          have hfr := ho2.out.frozenAt k2
          have hget : (bs l2)[k2]? = some (B8 (l2[k2]'(by rw [hl2.out]; exact hlt2))) := by
            rw [List.getElem?_eq_getElem (by rw [bs_length, hl2.out]; exact hlt2), bs_get]
          rw [hget] at hcell
          obtain ⟨z, hz⟩ : ∃ z, z = l2[k2]'(by rw [hl2.out]; exact hlt2) := ⟨_, rfl⟩
          rw [← hz] at hcell
          have z0 := n8_0 z
          have z1 := n8_lt z
          have ex := u8_xor_n8 z y
          clear hget hz
          go_wp2
          go_roundw
          case rel =>
            have hst := ho2.out.stored k2 (B8 (z ^^^ y))
            refine ⟨k2 + 1, l2.set k2 (z ^^^ y), by omega, by go_num, by unfold Hid; rw [List.length_set]; exact hl2.out, ?_, hb3.setCell (by have := hb1.size; simp; omega) _⟩
            have : bs (l2.set k2 (z ^^^ y)) = (bs l2).set k2 (B8 (z ^^^ y)) := by unfold bs; rw [List.map_set]
            unfold Hid
            rw [this]
            exact hst.1
          case measure => simp [intOf]; omega
        · have kb := convStr wr A l.length c l (HA.out.below hb3 (Nat.le_refl _)) rfl
          go_wp2_with fail
          refine (wakes1_any _).mono ?_
          rintro e w5 ⟨rfl, hb5⟩
          go_wp2_with fail
          go_ret
          exact ⟨rfl, hb3.trans (hb5.mono hb3.size)⟩

set_option maxRecDepth 100000 in
set_option maxHeartbeats 1000000 in
theorem own_great (A : Option Addr) (n c : Nat) (x : Int) (w : World) (h : 20000 < n) :
    Calls Try.prog 6 #[.slice A n c, .int .u8 x] w fun e w' => e = .returned (.bool true) ∧ Below w.heap.size w w' := by
  go_enter Try.func6, Try.ntmps6
  go_wp2_with fail
  refine (wakes1_any _).mono ?_
  rintro e w5 ⟨rfl, hb5⟩
  go_wp2_with fail
  go_ret
  exact ⟨rfl, hb5⟩
end Go.Proofs.Ytdblcefamlhmfaa
