/- The walks of package sums: Seal, Open. -/
import Derived.Test.YtcaejcdmkihmbaaSumsB
import Derived.Test.YtcaejcdmkihmbaaMemApp
import Derived.Test.YtcaejcdmkihmbaaRegion
import Derived.Deep.QuietTactic
import Derived.BigQuiet
import Derived.Test.YtcaejcdmkihmbaaRowsAid
namespace Go.Proofs.Ytcaejcdmkihmbaa
open Go.RowKit

theorem bytesTy : SliceTy Try.prog 22 5 1 1 := SliceTy.mk' (z := .int .u8 0) Try.underlying22 (by kernel_rfl) rfl (by decide)

theorem tail4_cells (s : BitVec 32) : bs (Crc.tail4 s) = [.int .u8 (n32 s % 256), .int .u8 (n32 s / 256 % 256), .int .u8 (n32 s / 65536 % 256), .int .u8 (n32 s / 16777216 % 256)] := by
  have key : ∀ k : Nat, n8 ⟨(s >>> (8 * k)).setWidth 8⟩ = n32 s / ((2 ^ (8 * k) : Nat) : Int) % 256 := by
    intro k
    unfold n8 n32
    have : (⟨(s >>> (8 * k)).setWidth 8⟩ : UInt8).toNat = (s.toNat / 2 ^ (8 * k)) % 256 := by
      show ((s >>> (8 * k)).setWidth 8).toNat = _
      rw [BitVec.toNat_setWidth, BitVec.toNat_ushiftRight, Nat.shiftRight_eq_div_pow]
    rw [this]
    simp
  have k0 := key 0
  have k1 := key 1
  have k2 := key 2
  have k3 := key 3
  simp only [Nat.mul_zero, BitVec.ushiftRight_zero, Nat.pow_zero] at k0
  have z : ((1 : Nat) : Int) = 1 := rfl
  rw [z, Int.ediv_one] at k0
  have e1 : (2 ^ (8 * 1) : Nat) = 256 := by decide
  have e2 : (2 ^ (8 * 2) : Nat) = 65536 := by decide
  have e3 : (2 ^ (8 * 3) : Nat) = 16777216 := by decide
  rw [e1] at k1
  rw [e2] at k2
  rw [e3] at k3
  unfold bs Crc.tail4
  simp only [List.map_cons, List.map_nil]
  rw [← k0]
  refine congr (congrArg List.cons rfl) ?_
  refine congr (congrArg List.cons (congrArg (Value.int .u8) k1)) ?_
  refine congr (congrArg List.cons (congrArg (Value.int .u8) k2)) ?_
  exact congr (congrArg List.cons (congrArg (Value.int .u8) k3)) rfl

set_option maxRecDepth 100000 in
set_option maxHeartbeats 400000 in
theorem seal_any (A : Option Addr) (l : List UInt8) (n c : Nat) (w : World) (hA : At w A (bs l)) (hn : n = l.length) (hc : n ≤ c) (hb : n ≤ 1000000) :
    Calls Try.prog 23 #[.slice A n c] w fun e w' => ∃ v, e = .returned v ∧ w'.ownsRow w.heap.size 5 1 v (l.length + 4) (bs (Crc.seal_ l)) ∧ Below w.heap.size w w' := by
  subst hn
  have HA : Hid (At w A (bs l)) := hA
  clear hA
  go_enter Try.func23, Try.ntmps23
  go_wp2_with fail
  refine (sum_any _ l _ c _ HA.out rfl (by omega)).mono ?_
  rintro e w1 ⟨rfl, hb1⟩
  have s0 := n32_0 (Crc.sum l)
  have hT : At (w1.alloc (.cells (bs (Crc.tail4 (Crc.sum l))).toArray 5)) (some ⟨w1.heap.size, 0, none⟩) (bs (Crc.tail4 (Crc.sum l))) := (Blk.new w1 _ _).at_ 0 _ (by simp)
  rw [tail4_cells] at hT
  have hA1 := (HA.out.below hb1 (Nat.le_refl _)).alloc (.cells (bs (Crc.tail4 (Crc.sum l))).toArray 5)
  rw [tail4_cells] at hA1
  have HT := Lib.hid hT
  have HA1 := Lib.hid hA1
  clear hT hA1
  go_wp2_with (refine wpList_app_full rfl (.tmp 11) (.tmp 23) bytesTy rfl A l.length (bs l) rfl HA1.out (by rw [bs_length]; omega) _ 4 4 _ rfl HT.out rfl ?h1 (by omega) (by unfold maxLen; omega) (by omega) ?_)
  case h1 => rw [← tail4_cells]; exact one_bs _
  intro v w2 hown hg
  go_wp2
  go_ret
  refine ⟨v, rfl, ?_, (hb1.alloc hb1.size _).grown hg (by have := hb1.size; simp; omega) (by simp)⟩
  have := own_mono hown (base' := w.heap.size) (by have := hb1.size; omega)
  rw [← tail4_cells, ← bs_append] at this
  exact this

set_option maxRecDepth 100000 in
set_option maxHeartbeats 400000 in
theorem open_short (A : Option Addr) (l : List UInt8) (n c : Nat) (w : World) (hn : n = l.length) (hs : l.length < 4) :
    Calls Try.prog 26 #[.slice A n c] w fun e w' => e = .returned (.tuple #[.slice none 0 0, .bool false]) ∧ Below w.heap.size w w' := by
  subst hn
  have hlt : ((l.length : Int) - 4 < 0) := by omega
  have hd : decide ((l.length : Int) - 4 < 0) = true := by simpa using hlt
  go_enter Try.func26, Try.ntmps26
  go_wp2_with fail
  go_quiet (fail)
  go_wp2
  go_ret2
  exact ⟨rfl, below_dn (Below.refl _ _) _⟩

set_option maxRecDepth 100000 in
set_option maxHeartbeats 1000000 in
theorem open_bad (A : Option Addr) (p q : List UInt8) (n c : Nat) (w : World) (hA : At w A (bs (p ++ q))) (hq : q.length = 4) (hn : n = p.length + 4) (hc : p.length + 4 ≤ c) (hb : p.length ≤ 900000) (hbad : ¬ Crc.tail4 (Crc.sum p) = q) :
    Calls Try.prog 26 #[.slice A n c] w fun e w' => e = .returned (.tuple #[.slice none 0 0, .bool false]) ∧ Below w.heap.size w w' := by
  subst hn
  have htest : (!(str (Crc.tail4 (Crc.sum p))).toList == (str q).toList) = true := by rw [str_beq]; simp [hbad]
  obtain ⟨b, off, rfl, hbl, _⟩ := hA.all (by rw [bs_length, List.length_append]; omega)
  have hlt : ¬ ((p.length : Int) < 0) := by omega
  have hd : decide ((p.length : Int) < 0) = false := by simp
  have b1 : (0 : Int) ≤ (p.length : Int) := by omega
  have b2 : (p.length : Int) ≤ (c : Int) := by omega
  have b3 : (p.length : Int) ≤ (p.length : Int) + 4 := by omega
  have b4 : ¬ (c = p.length) := by omega
  have hA1 : At w (some ⟨b, off, none⟩) (bs p ++ bs q) := by rw [← bs_append]; exact hA
  have hcv : ∀ (w' : World) (k : Nat), Below w.heap.size w w' → (convert 22 9 (.slice (some ⟨b, off + p.length, none⟩) 4 k)).run Try.prog w' = .ok (.string (str q)) w' := by
    intro w' k hb'
    have h2 := hA1.right
    rw [bs_length] at h2
    exact convStr w' _ 4 k q (h2.below hb' (Nat.le_refl _)) (by rw [hq])
  have HA := Lib.hid hA1.left
  have Hq := Lib.hid hq
  clear hA hq hA1
  go_enter Try.func26, Try.ntmps26
  go_wp2_with fail
  refine region_mask (S := fun w' => Below w.heap.size w w') [true, true, true, true, true, true, true, false, true, false, false, true, true, true, true, false, false] (by kernel_rfl) (by kernel_rfl) (Below.refl _ _).drew ?_
  simp only [sel_tt, sel_tf, sel_ft, sel_ff, sel_n2]
  iterate 12
    refine still_step (v := ?_) (by rfl) (fun w' hS' => ?_) ?_
    rotate_left
    focus (go_simp <;> with_reducible rfl)
    simp only [Act.put, List.setIfInBounds_toArray, List.set_cons_zero, List.set_cons_succ]
  refine still_nil ?_
  refine chain_step (by rfl) (fun K hK => ?_)
  go_simp
  refine (seal_any _ p _ _ _ (HA.out.below (Below.refl _ _).drew (Nat.le_refl _)) rfl (by omega) (by omega)).mono ?_
  rintro e w2 ⟨v, rfl, hown, hbw⟩
  obtain ⟨g, c2, rfl, hc2, hm2, hg2, hAt2⟩ := own_shape hown (by omega)
  have hbb : Below w.heap.size w w2 := (Below.refl _ _).drew.trans hbw
  have b5 : (p.length : Int) ≤ (c2 : Int) := by omega
  have b6 : ¬ (c2 = p.length) := by omega
  have hcv2 : ∀ k : Nat, (convert 22 9 (.slice (some ⟨g, p.length, none⟩) 4 k)).run Try.prog w2 = .ok (.string (str (Crc.tail4 (Crc.sum p)))) w2 := by
    intro k
    have h2 : At w2 (some ⟨g, 0, none⟩) (bs p ++ bs (Crc.tail4 (Crc.sum p))) := by rw [← bs_append]; exact hAt2
    have h3 := h2.right0
    rw [bs_length] at h3
    exact convStr w2 _ 4 k _ h3 rfl
  clear hAt2 hown
  refine hK.out _ _ hbb ?_
  clear hK K
  refine chain_step (by rfl) (fun K hK => ?_)
  go_simp
  refine hK.out _ _ hbb ?_
  clear hK K
  refine chain_step (by rfl) (fun K hK => ?_)
  go_simp
  refine hK.out _ _ hbb ?_
  clear hK K
  refine chain_step (by rfl) (fun K hK => ?_)
  go_simp
  refine hK.out _ _ hbb ?_
  clear hK K
  refine chain_step (by rfl) (fun K hK => ?_)
  go_simp
  refine hK.out _ _ hbb ?_
  clear hK K
  refine chain_end ?_
  go_wp2_with fail
  go_ret2
  exact ⟨rfl, hbb⟩

set_option maxRecDepth 100000 in
set_option maxHeartbeats 1000000 in
theorem open_good (A : Option Addr) (p q : List UInt8) (n c : Nat) (w : World) (hA : At w A (bs (p ++ q))) (hq : q.length = 4) (hn : n = p.length + 4) (hc : p.length + 4 ≤ c) (hb : p.length ≤ 900000) (hbad : Crc.tail4 (Crc.sum p) = q) :
    Calls Try.prog 26 #[.slice A n c] w fun e w' => ∃ v, e = .returned (.tuple #[v, .bool true]) ∧ w'.ownsRow w.heap.size 5 1 v p.length (bs p) ∧ Below w.heap.size w w' := by
  subst hn
  have htest : (!(str (Crc.tail4 (Crc.sum p))).toList == (str q).toList) = false := by rw [str_beq]; simp [hbad]
  obtain ⟨b, off, rfl, hbl, _⟩ := hA.all (by rw [bs_length, List.length_append]; omega)
  have hlt : ¬ ((p.length : Int) < 0) := by omega
  have hd : decide ((p.length : Int) < 0) = false := by simp
  have b1 : (0 : Int) ≤ (p.length : Int) := by omega
  have b2 : (p.length : Int) ≤ (c : Int) := by omega
  have b3 : (p.length : Int) ≤ (p.length : Int) + 4 := by omega
  have b4 : ¬ (c = p.length) := by omega
  have hA1 : At w (some ⟨b, off, none⟩) (bs p ++ bs q) := by rw [← bs_append]; exact hA
  have Hbad := Lib.hid hbad
  clear hbad
  have hcv : ∀ (w' : World) (k : Nat), Below w.heap.size w w' → (convert 22 9 (.slice (some ⟨b, off + p.length, none⟩) 4 k)).run Try.prog w' = .ok (.string (str q)) w' := by
    intro w' k hb'
    have h2 := hA1.right
    rw [bs_length] at h2
    exact convStr w' _ 4 k q (h2.below hb' (Nat.le_refl _)) (by rw [hq])
  have HA := Lib.hid hA1.left
  have Hq := Lib.hid hq
  clear hA hq hA1
  go_enter Try.func26, Try.ntmps26
  go_wp2_with fail
  refine region_mask (S := fun w' => Below w.heap.size w w') [true, true, true, true, true, true, true, false, true, false, false, true, true, true, true, false, false] (by kernel_rfl) (by kernel_rfl) (Below.refl _ _).drew ?_
  simp only [sel_tt, sel_tf, sel_ft, sel_ff, sel_n2]
  iterate 12
    refine still_step (v := ?_) (by rfl) (fun w' hS' => ?_) ?_
    rotate_left
    focus (go_simp <;> with_reducible rfl)
    simp only [Act.put, List.setIfInBounds_toArray, List.set_cons_zero, List.set_cons_succ]
  refine still_nil ?_
  refine chain_step (by rfl) (fun K hK => ?_)
  go_simp
  refine (seal_any _ p _ _ _ (HA.out.below (Below.refl _ _).drew (Nat.le_refl _)) rfl (by omega) (by omega)).mono ?_
  rintro e w2 ⟨v, rfl, hown, hbw⟩
  obtain ⟨g, c2, rfl, hc2, hm2, hg2, hAt2⟩ := own_shape hown (by omega)
  have hbb : Below w.heap.size w w2 := (Below.refl _ _).drew.trans hbw
  have b5 : (p.length : Int) ≤ (c2 : Int) := by omega
  have b6 : ¬ (c2 = p.length) := by omega
  have hcv2 : ∀ k : Nat, (convert 22 9 (.slice (some ⟨g, p.length, none⟩) 4 k)).run Try.prog w2 = .ok (.string (str (Crc.tail4 (Crc.sum p)))) w2 := by
    intro k
    have h2 : At w2 (some ⟨g, 0, none⟩) (bs p ++ bs (Crc.tail4 (Crc.sum p))) := by rw [← bs_append]; exact hAt2
    have h3 := h2.right0
    rw [bs_length] at h3
    exact convStr w2 _ 4 k _ h3 rfl
  clear hAt2 hown
  refine hK.out _ _ hbb ?_
  clear hK K
  refine chain_step (by rfl) (fun K hK => ?_)
  go_simp
  refine hK.out _ _ hbb ?_
  clear hK K
  refine chain_step (by rfl) (fun K hK => ?_)
  go_simp
  refine hK.out _ _ hbb ?_
  clear hK K
  refine chain_step (by rfl) (fun K hK => ?_)
  go_simp
  refine hK.out _ _ hbb ?_
  clear hK K
  refine chain_step (by rfl) (fun K hK => ?_)
  go_simp
  refine hK.out _ _ hbb ?_
  clear hK K
  refine chain_end ?_
  have HA2 : Hid (At w2 (some ⟨b, off, none⟩) (bs p)) := HA.out.below hbb (Nat.le_refl _)
  have hsz := hbb.size
  go_wp2_with (refine wpList_app_own rfl (.const (.slice none 0 0)) (.tmp 27) bytesTy rfl w.heap.size (.slice none 0 0) 0 [] rfl (World.ownsRow_nil _ _ _ _) (some ⟨b, off, none⟩) p.length c (bs p) rfl HA2.out (by rw [bs_length]; omega) (one_bs _) (by unfold maxLen; omega) (by omega) hsz ?_; intro v3 w3 hown3 hg3 hat3)
  go_ret2
  refine ⟨v3, rfl, by simpa using hown3, hbb.grown hg3 hsz (by simp [Value.ownBlock])⟩

theorem split4 (l : List UInt8) (h : 4 ≤ l.length) : ∃ p q, l = p ++ q ∧ q.length = 4 ∧ l.length = p.length + 4 ∧ l.take (l.length - 4) = p ∧ l.drop (l.length - 4) = q := by
  refine ⟨l.take (l.length - 4), l.drop (l.length - 4), (List.take_append_drop _ _).symm, by simp; omega, by simp; omega, rfl, rfl⟩

theorem open_no (A : Option Addr) (l : List UInt8) (n c : Nat) (w : World) (hA : At w A (bs l)) (hn : n = l.length) (hc : n ≤ c) (hb : n ≤ 900000) (hok : Crc.okSealed l = false) :
    Calls Try.prog 26 #[.slice A n c] w fun e w' => e = .returned (.tuple #[.slice none 0 0, .bool false]) ∧ Below w.heap.size w w' := by
  subst hn
  rcases Nat.lt_or_ge l.length 4 with h | h
  · exact open_short A l _ c w rfl h
  · obtain ⟨p, q, e, hq, hl, ht, hd⟩ := split4 l h
    refine open_bad A p q _ c w (by rw [← e]; exact hA) hq hl (by omega) (by omega) ?_
    unfold Crc.okSealed at hok
    rw [ht, hd] at hok
    simp only [h, decide_true, Bool.true_and, beq_eq_false_iff_ne] at hok
    exact fun e => hok e.symm

theorem open_yes (A : Option Addr) (l : List UInt8) (n c : Nat) (w : World) (hA : At w A (bs l)) (hn : n = l.length) (hc : n ≤ c) (hb : n ≤ 900000) (hok : Crc.okSealed l = true) :
    Calls Try.prog 26 #[.slice A n c] w fun e w' => ∃ v, e = .returned (.tuple #[v, .bool true]) ∧ w'.ownsRow w.heap.size 5 1 v (l.length - 4) (bs (l.take (l.length - 4))) ∧ Below w.heap.size w w' := by
  subst hn
  have h := Crc.okSealed_length hok
  obtain ⟨p, q, e, hq, hl, ht, hd⟩ := split4 l h
  rw [ht, show l.length - 4 = p.length by omega]
  refine open_good A p q _ c w (by rw [← e]; exact hA) hq hl (by omega) (by omega) ?_
  unfold Crc.okSealed at hok
  rw [ht, hd] at hok
  simp only [h, decide_true, Bool.true_and, beq_iff_eq] at hok
  exact hok.symm
end Go.Proofs.Ytcaejcdmkihmbaa
