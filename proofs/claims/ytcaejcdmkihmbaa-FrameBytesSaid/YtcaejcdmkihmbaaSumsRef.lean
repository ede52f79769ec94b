/- The walks of the document's answer for sums: remainder, Join, Sum, Seal, Open. -/
import Derived.Test.YtcaejcdmkihmbaaSumsC
namespace Go.Proofs.Ytcaejcdmkihmbaa
open Go.RowKit

theorem low_bit (y : BitVec 32) : bits .and .u32 (n32 y) 1 = if y.getLsbD 0 then 1 else 0 := by
  have h1 : bits .and .u32 (n32 y) 1 = n32 (y &&& 1#32) := u32_and_bv y 1#32
  rw [h1, BitVec.and_one_eq_setWidth_ofBool_getLsbD]
  cases y.getLsbD 0 <;> decide
theorem step_odd (y : BitVec 32) (h : y.getLsbD 0 = true) : bits .xor .u32 (n32 y / 2) 3988292384 = n32 (Crc.step y) := by
  have h3 : n32 y / (2 : Int) = n32 (y >>> 1) := n32_shr y 1 2 rfl
  have h4 : (3988292384 : Int) = n32 (0xEDB88320#32) := by decide
  rw [h3, h4, u32_xor_bv]; unfold Crc.step; rw [h]; rfl
theorem step_ev (y : BitVec 32) (h : y.getLsbD 0 = false) : n32 y / 2 = n32 (Crc.step y) := by
  have h3 : n32 y / (2 : Int) = n32 (y >>> 1) := n32_shr y 1 2 rfl
  rw [h3]; unfold Crc.step; rw [h]; simp

set_option maxRecDepth 100000 in
set_option maxHeartbeats 400000 in
theorem remainder_any (r : BitVec 32) (b : UInt8) (w : World) : Calls Try.prog 31 #[.int .u32 (n32 r), .int .u8 (n8 b)] w fun e w' => e = .returned (.int .u32 (n32 (Crc.byte r b))) ∧ w = w' := by
  have hr0 := n32_0 r
  have g0 := n8_0 b
  have g1 := n8_lt b
  have e1 := u32_xor_byte r b
  go_enter Try.func31, Try.ntmps31
  go_wp2
  have hbyte := Crc.byte_steps r b
  generalize r ^^^ BitVec.setWidth 32 b.toBitVec = x at *
  have Hb := Lib.hid hbyte
  clear hbyte e1
  go_loop [0, 5] (fun s i => ∃ k : Nat, k ≤ 8 ∧ i = .int .i64 k ∧ ∃ y : BitVec 32, s = .int .u32 (n32 y) ∧ Hid (Crc.steps (8 - k) y = Crc.byte r b)) (fun _ i => 8 - (intOf i).toNat)
  case atStart => exact ⟨0, by omega, rfl, x, rfl, Hb.out.symm⟩
  case round =>
    obtain ⟨k, hk, rfl, y, rfl, hy⟩ := hrel
    have hy0 := n32_0 y
    have hl := low_bit y
    by_cases hlt : k < 8
    · cases hbit : y.getLsbD 0 with
      | true =>
        have e2 := step_odd y hbit
        rw [hbit] at hl
        have hl2 : bits .and .u32 (n32 y) 1 = 1 := hl
        clear hl hbit
        go_wp2
        go_round
        case rel => exact ⟨k + 1, by omega, by go_num, Crc.step y, rfl, by unfold Hid; rw [← hy.out, show 8 - k = (8 - (k + 1)) + 1 by omega]; rfl⟩
        case measure => simp [intOf]; omega
      | false =>
        have e2 := step_ev y hbit
        rw [hbit] at hl
        have hl2 : bits .and .u32 (n32 y) 1 = 0 := hl
        clear hl hbit
        go_wp2
        go_round
        case rel => exact ⟨k + 1, by omega, by go_num, Crc.step y, rfl, by unfold Hid; rw [← hy.out, show 8 - k = (8 - (k + 1)) + 1 by omega]; rfl⟩
        case measure => simp [intOf]; omega
    · clear hl
      go_wp2
      go_ret
      have hk8 : k = 8 := by omega
      exact ⟨by rw [← hy.out, hk8]; rfl, rfl⟩

set_option maxRecDepth 100000 in
set_option maxHeartbeats 400000 in
theorem rjoin_any (x : Int) (s : BitVec 32) (A : Option Addr) (l : List UInt8) (n c : Nat) (w : World) (hx : x = n32 s) (hA : At w A (bs l)) (hn : n = l.length) (hb : n ≤ 140737488351232) :
    Calls Try.prog 21 #[.int .u32 x, .slice A n c] w fun e w' => e = .returned (.int .u32 (n32 (Crc.join s l))) ∧ w = w' := by
  subst hx hn
  have HA : Hid (At w A (bs l)) := hA
  have hr0 := n32_0 s
  have e0 := compl_bv s
  clear hA
  go_enter Try.func21, Try.ntmps21
  go_wp2
  go_loop [5, 6] (fun s' i => ∃ k : Nat, k ≤ l.length ∧ i = .int .i64 k ∧ s' = .int .u32 (n32 (Crc.crc (~~~ s) (l.take k)))) (fun _ i => l.length - (intOf i).toNat)
  case atStart => exact ⟨0, by omega, rfl, rfl⟩
  case round =>
    obtain ⟨k, hk, rfl, rfl⟩ := hrel
    by_cases hlt : k < l.length
    · obtain ⟨b, off, rfl, hbl, hc⟩ := HA.out.get (k := k) (by rw [bs_length]; exact hlt)
      rw [bs_get l k hlt] at hc
      have hstep : Crc.crc (~~~ s) (l.take (k + 1)) = Crc.byte (Crc.crc (~~~ s) (l.take k)) l[k] := by
        rw [List.take_succ_eq_append_getElem hlt, Crc.crc_append]; rfl
      obtain ⟨z, hz⟩ : ∃ z, z = l[k] := ⟨_, rfl⟩
      rw [← hz] at hc hstep
      have Hs := Lib.hid hstep
      have Hz := Lib.hid hz
      clear hz hstep
      go_wp2_with fail
      refine (remainder_any (Crc.crc (~~~ s) (l.take k)) z _).mono ?_
      rintro e w' ⟨rfl, rfl⟩
      go_wp2
      go_round
      case rel => exact ⟨k + 1, by omega, by go_num, by rw [Hs.out]⟩
      case measure => simp [intOf]; omega
    · have hkl : l.take k = l := List.take_of_length_le (by omega)
      have Hk := Lib.hid hkl
      clear hkl
      have e1 := compl_bv (Crc.crc (~~~ s) (l.take k))
      have j1 := n32_0 (Crc.crc (~~~ s) (l.take k))
      go_wp2
      all_goals
        go_ret
        exact ⟨by first | (rw [Hk.out]; rfl) | (have := Hk.out; simp [this, Crc.join]), rfl⟩

set_option maxRecDepth 100000 in
set_option maxHeartbeats 400000 in
theorem rsum_any (A : Option Addr) (l : List UInt8) (n c : Nat) (w : World) (hA : At w A (bs l)) (hn : n = l.length) (hb : n ≤ 140737488351232) :
    Calls Try.prog 9 #[.slice A n c] w fun e w' => e = .returned (.int .u32 (n32 (Crc.sum l))) ∧ w = w' := by
  subst hn
  go_enter Try.func9, Try.ntmps9
  go_wp2_with fail
  refine (rjoin_any _ 0#32 A l _ c _ (by decide) hA rfl hb).mono ?_
  rintro e w1 ⟨rfl, rfl⟩
  go_wp2_with fail
  go_ret
  exact ⟨rfl, rfl⟩

set_option maxRecDepth 100000 in
set_option maxHeartbeats 400000 in
theorem rseal_any (A : Option Addr) (l : List UInt8) (n c : Nat) (w : World) (hA : At w A (bs l)) (hn : n = l.length) (hb : n ≤ 1000000) :
    Calls Try.prog 25 #[.slice A n c] w fun e w' => ∃ v, e = .returned v ∧ w'.ownsRow w.heap.size 5 1 v (l.length + 4) (bs (Crc.seal_ l)) ∧ Below w.heap.size w w' := by
  subst hn
  have HA : Hid (At w A (bs l)) := hA
  clear hA
  go_enter Try.func25, Try.ntmps25
  go_wp2_with fail
  refine (rsum_any _ l _ c _ HA.out rfl (by omega)).mono ?_
  rintro e w' ⟨rfl, rfl⟩
  have s0 := n32_0 (Crc.sum l)
  go_wp2_with (first
    | (refine wpList_app_own rfl (.tmp 7) (.tmp 8) bytesTy rfl w.heap.size (.slice none 0 0) 0 [] rfl (World.ownsRow_nil _ _ _ _) A l.length c (bs l) rfl HA.out (by rw [bs_length]; omega) (one_bs _) (by unfold maxLen; omega) (by omega) (Nat.le_refl _) ?_
       intro v3 w3 hown3 hg3 hat3
       have hb3 : Below w.heap.size w w3 := (Below.refl _ _).grown hg3 (Nat.le_refl _) (by simp [Value.ownBlock])
       have hT : At (w3.alloc (.cells (bs (Crc.tail4 (Crc.sum l))).toArray 5)) (some ⟨w3.heap.size, 0, none⟩) (bs (Crc.tail4 (Crc.sum l))) := at_new w3 _ _ _
       have hown4 := hown3.alloc (.cells (bs (Crc.tail4 (Crc.sum l))).toArray 5)
       have h1 := one_bs (Crc.tail4 (Crc.sum l))
       rw [tail4_cells] at hT hown4 h1
       have HT := Lib.hid hT
       have HO := Lib.hid hown4
       have H1 := Lib.hid h1
       clear hT hown4 hown3 h1
       have hsz := hb3.size)
    | (refine wpList_app_own rfl (.tmp 10) (.tmp 22) bytesTy rfl w.heap.size v3 (0 + l.length) ([] ++ bs l) rfl HO.out _ 4 4 _ rfl HT.out rfl H1.out (by unfold maxLen; omega) (by omega) (by simp; omega) ?_
       intro v4 w4 hown4 hg4 hat4))
  go_ret
  refine ⟨v4, rfl, ?_, ?_⟩
  · have : w4.ownsRow w.heap.size 5 1 v4 (0 + l.length + 4) ([] ++ bs l ++ bs (Crc.tail4 (Crc.sum l))) := by rw [tail4_cells]; exact hown4
    rw [Nat.zero_add, List.nil_append, ← bs_append] at this
    exact this
  · refine (hb3.alloc hsz _).grown hg4 (by simp; omega) (fun k hk => ?_)
    have hlt := HO.out.lt k hk
    omega

set_option maxRecDepth 100000 in
set_option maxHeartbeats 400000 in
theorem ropen_short (A : Option Addr) (l : List UInt8) (n c : Nat) (w : World) (hn : n = l.length) (hs : l.length < 4) :
    Calls Try.prog 28 #[.slice A n c] w fun e w' => e = .returned (.tuple #[.slice none 0 0, .bool false]) ∧ Below w.heap.size w w' := by
  subst hn
  have hlt : ((l.length : Int) < 4) := by omega
  go_enter Try.func28, Try.ntmps28
  go_wp2_with fail
  go_ret2
  exact ⟨rfl, Below.refl _ _⟩

theorem tail4_n8 (s : BitVec 32) : ∃ t0 t1 t2 t3 : UInt8, Crc.tail4 s = [t0, t1, t2, t3] ∧ n32 s % 256 = n8 t0 ∧ n32 s / 256 % 256 = n8 t1 ∧ n32 s / 65536 % 256 = n8 t2 ∧ n32 s / 16777216 % 256 = n8 t3 := by
  have h := tail4_cells s
  refine ⟨_, _, _, _, rfl, ?_⟩
  unfold Crc.tail4 bs at h
  simp only [List.map_cons, List.map_nil, List.cons.injEq, Value.int.injEq, true_and, and_true] at h
  exact ⟨h.1.symm, h.2.1.symm, h.2.2.1.symm, h.2.2.2.symm⟩
theorem n8_inj {a b : UInt8} (h : n8 a = n8 b) : a = b := by unfold n8 at h; exact UInt8.toNat_inj.1 (by omega)
theorem n8_beq (a b : UInt8) : (n8 a == n8 b) = decide (a = b) := by
  rw [Bool.eq_iff_iff]; simp; exact ⟨n8_inj, fun h => by rw [h]⟩

theorem n8_ne {a b : UInt8} (h : a ≠ b) : (n8 a == n8 b) = false ∧ (n8 a != n8 b) = true := by
  have : (n8 a == n8 b) = false := by rw [n8_beq]; exact decide_eq_false h
  exact ⟨this, by rw [bne, this]; rfl⟩

set_option maxRecDepth 100000 in
set_option maxHeartbeats 4000000 in
theorem ropen_bad (A : Option Addr) (p : List UInt8) (q0 q1 q2 q3 : UInt8) (n c : Nat) (w : World) (hA : At w A (bs (p ++ [q0, q1, q2, q3]))) (hn : n = p.length + 4) (hc : p.length + 4 ≤ c) (hb : p.length ≤ 900000) (hbad : ¬ Crc.tail4 (Crc.sum p) = [q0, q1, q2, q3]) :
    Calls Try.prog 28 #[.slice A n c] w fun e w' => e = .returned (.tuple #[.slice none 0 0, .bool false]) ∧ Below w.heap.size w w' := by
  subst hn
  obtain ⟨b, off, rfl, hbl, hcell⟩ := hA.all (by rw [bs_length, List.length_append]; simp)
  have hg : ∀ (k : Nat) (x : UInt8), (p ++ [q0, q1, q2, q3])[p.length + k]? = some x → w.cell? ⟨b, off + (p.length + k), none⟩ = some (.int .u8 (n8 x)) := by
    intro k x hx
    refine hcell _ _ ?_
    unfold bs
    rw [List.getElem?_map, hx]; rfl
  have c0 := hg 0 q0 (by simp)
  have c1 := hg 1 q1 (by simp)
  have c2 := hg 2 q2 (by simp)
  have c3 := hg 3 q3 (by simp)
  rw [Nat.add_zero] at c0
  clear hg hcell
  have HA : Hid (At w (some ⟨b, off, none⟩) (bs p)) := by rw [bs_append] at hA; exact hA.left
  clear hA
  obtain ⟨t0, t1, t2, t3, ht, e0, e1, e2, e3⟩ := tail4_n8 (Crc.sum p)
  rw [ht] at hbad
  have z0 := n32_0 (Crc.sum p)
  have hcase : (q0 ≠ t0) ∨ (q0 = t0 ∧ q1 ≠ t1) ∨ (q0 = t0 ∧ q1 = t1 ∧ q2 ≠ t2) ∨ (q0 = t0 ∧ q1 = t1 ∧ q2 = t2 ∧ q3 ≠ t3) := by
    by_cases h0 : q0 = t0
    · by_cases h1 : q1 = t1
      · by_cases h2 : q2 = t2
        · by_cases h3 : q3 = t3
          · subst h0 h1 h2 h3; exact absurd rfl hbad
          · exact .inr (.inr (.inr ⟨h0, h1, h2, h3⟩))
        · exact .inr (.inr (.inl ⟨h0, h1, h2⟩))
      · exact .inr (.inl ⟨h0, h1⟩)
    · exact .inl h0
  have b1 : (0 : Int) ≤ (p.length : Int) := by omega
  have b2 : (p.length : Int) ≤ (c : Int) := by omega
  have Ht := Lib.hid ht
  clear ht hbad
  rcases hcase with h | ⟨h0, h⟩ | ⟨h0, h1, h⟩ | ⟨h0, h1, h2, h⟩
  all_goals
    try subst h0
    try subst h1
    try subst h2
    obtain ⟨f1, f2⟩ := n8_ne h
    clear h
    go_enter Try.func28, Try.ntmps28
    go_wp2_with fail
    refine (rsum_any _ p _ _ _ HA.out rfl (by omega)).mono ?_
    rintro e w' ⟨rfl, rfl⟩
    go_wp2_with fail
    go_ret2
    exact ⟨rfl, Below.refl _ _⟩

set_option maxRecDepth 100000 in
set_option maxHeartbeats 4000000 in
theorem ropen_good (A : Option Addr) (p : List UInt8) (n c : Nat) (w : World) (hA : At w A (bs (p ++ Crc.tail4 (Crc.sum p)))) (hn : n = p.length + 4) (hc : p.length + 4 ≤ c) (hb : p.length ≤ 900000) :
    Calls Try.prog 28 #[.slice A n c] w fun e w' => ∃ v, e = .returned (.tuple #[v, .bool true]) ∧ w'.ownsRow w.heap.size 5 1 v p.length (bs p) ∧ Below w.heap.size w w' := by
  subst hn
  obtain ⟨t0, t1, t2, t3, ht, e0, e1, e2, e3⟩ := tail4_n8 (Crc.sum p)
  rw [ht] at hA
  obtain ⟨b, off, rfl, hbl, hcell⟩ := hA.all (by rw [bs_length, List.length_append]; simp)
  have hg : ∀ (k : Nat) (x : UInt8), (p ++ [t0, t1, t2, t3])[p.length + k]? = some x → w.cell? ⟨b, off + (p.length + k), none⟩ = some (.int .u8 (n8 x)) := by
    intro k x hx
    refine hcell _ _ ?_
    unfold bs
    rw [List.getElem?_map, hx]; rfl
  have c0 := hg 0 t0 (by simp)
  have c1 := hg 1 t1 (by simp)
  have c2 := hg 2 t2 (by simp)
  have c3 := hg 3 t3 (by simp)
  rw [Nat.add_zero] at c0
  clear hg hcell
  have HA : Hid (At w (some ⟨b, off, none⟩) (bs p)) := by rw [bs_append] at hA; exact hA.left
  clear hA
  have z0 := n32_0 (Crc.sum p)
  have b1 : (0 : Int) ≤ (p.length : Int) := by omega
  have b2 : (p.length : Int) ≤ (c : Int) := by omega
  have Ht := Lib.hid ht
  clear ht
  go_enter Try.func28, Try.ntmps28
  go_wp2_with fail
  refine (rsum_any _ p _ _ _ HA.out rfl (by omega)).mono ?_
  rintro e w' ⟨rfl, rfl⟩
  go_wp2_with (refine wpList_app_own rfl (.tmp 57) (.tmp 60) bytesTy rfl w.heap.size (.slice none 0 0) 0 [] rfl (World.ownsRow_nil _ _ _ _) (some ⟨b, off, none⟩) p.length c (bs p) rfl HA.out (by rw [bs_length]; omega) (one_bs _) (by unfold maxLen; omega) (by omega) (Nat.le_refl _) ?_; intro v3 w3 hown3 hg3 hat3)
  go_ret2
  refine ⟨v3, rfl, by simpa using hown3, (Below.refl _ _).grown hg3 (Nat.le_refl _) (by simp [Value.ownBlock])⟩

theorem ropen_no (A : Option Addr) (l : List UInt8) (n c : Nat) (w : World) (hA : At w A (bs l)) (hn : n = l.length) (hc : n ≤ c) (hb : n ≤ 900000) (hok : Crc.okSealed l = false) :
    Calls Try.prog 28 #[.slice A n c] w fun e w' => e = .returned (.tuple #[.slice none 0 0, .bool false]) ∧ Below w.heap.size w w' := by
  subst hn
  rcases Nat.lt_or_ge l.length 4 with h | h
  · exact ropen_short A l _ c w rfl h
  · obtain ⟨p, q, e, hq, hl, ht, hd⟩ := split4 l h
    obtain ⟨q0, q1, q2, q3, rfl⟩ : ∃ q0 q1 q2 q3, q = [q0, q1, q2, q3] := by
      match q, hq with
      | [a, b, c, d], _ => exact ⟨a, b, c, d, rfl⟩
    refine ropen_bad A p q0 q1 q2 q3 _ c w (by rw [← e]; exact hA) hl (by omega) (by omega) ?_
    unfold Crc.okSealed at hok
    rw [ht, hd] at hok
    simp only [h, decide_true, Bool.true_and, beq_eq_false_iff_ne] at hok
    exact fun e => hok e.symm

theorem ropen_yes (A : Option Addr) (l : List UInt8) (n c : Nat) (w : World) (hA : At w A (bs l)) (hn : n = l.length) (hc : n ≤ c) (hb : n ≤ 900000) (hok : Crc.okSealed l = true) :
    Calls Try.prog 28 #[.slice A n c] w fun e w' => ∃ v, e = .returned (.tuple #[v, .bool true]) ∧ w'.ownsRow w.heap.size 5 1 v (l.length - 4) (bs (l.take (l.length - 4))) ∧ Below w.heap.size w w' := by
  subst hn
  have h := Crc.okSealed_length hok
  obtain ⟨p, q, e, hq, hl, ht, hd⟩ := split4 l h
  rw [ht, show l.length - 4 = p.length by omega]
  unfold Crc.okSealed at hok
  rw [ht, hd] at hok
  simp only [h, decide_true, Bool.true_and, beq_iff_eq] at hok
  rw [hok] at e
  exact ropen_good A p _ c w (by rw [← e]; exact hA) hl (by omega) (by omega)
end Go.Proofs.Ytcaejcdmkihmbaa
