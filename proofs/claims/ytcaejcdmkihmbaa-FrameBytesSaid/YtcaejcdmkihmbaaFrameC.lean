/- The walks of package frame: Cut done. -/
import Derived.Test.YtcaejcdmkihmbaaFrameA
import Derived.Test.YtcaejcdmkihmbaaMemGrown
namespace Go.Proofs.Ytcaejcdmkihmbaa
open Go.RowKit

theorem frameTy : SliceTy Try.prog 24 33 6 64 := SliceTy.mk' (z := .agg (fc 0 0 0 0 0 none 0 0).toArray) Try.underlying24 (by kernel_rfl) rfl (by decide)

theorem fbuild (w : World) (s i p o m : Int) (A : Option Addr) (n c : Nat) :
    (Instr.build 33 #[(0, .int .i64 s), (1, .int .i64 i), (2, .int .i64 p), (3, .int .i64 o), (4, .int .u32 m), (5, .slice A n c)]).run Try.prog w = .ok (.agg (fc s i p o m A n c).toArray) w :=
  run_build (P := Try.prog) w 33 _ _ (by kernel_rfl)

set_option maxRecDepth 100000 in
set_option maxHeartbeats 2000000 in
theorem cut_one (A : Option Addr) (l : List UInt8) (n c : Nat) (seq inc : Int) (w : World) (hA : At w A (bs l)) (hn : n = l.length) (hc : n ≤ c) (h1 : 1 ≤ n) (h2 : n ≤ 45) (hs1 : 1 ≤ seq) (hs2 : seq ≤ 1099511627776) (hi1 : 0 ≤ inc) (hi2 : inc ≤ 1048576) :
    Calls Try.prog 8 #[.slice A n c, .int .i64 seq, .int .i64 inc] w fun e w' => ∃ v B d, e = .returned (.tuple #[v, .int .i64 0]) ∧ At w' B (bs l) ∧
      w'.ownsRow w.heap.size 33 6 v 1 (fc seq inc 0 1 (n32 (Crc.sum l)) B n d) ∧ Below w.heap.size w w' := by
  obtain ⟨b, off, rfl, hbl, -⟩ := hA.all (by rw [bs_length]; omega)
  have HA : Hid (At w (some ⟨b, off, none⟩) (bs l)) := hA
  have Hn := Lib.hid hn
  clear hn hA
  have hw : IntKind.i64.wrap ((n : Int) + 45) = (n : Int) + 45 := IntWalk.i64_in _ (by omega)
  have hw2 : IntKind.i64.wrap ((n : Int) + 45 - 1) = (n : Int) + 44 := by rw [show (n : Int) + 45 - 1 = (n : Int) + 44 by omega]; exact IntWalk.i64_in _ (by omega)
  have h0' : ¬ ((n : Int) = 0) := by omega
  have h0'' : ((n : Int) == 0) = false := by simpa using h0'
  have hq : ((n : Int) + 44) / 45 = 1 := by omega
  go_enter Try.func8, Try.ntmps8
  go_wp2_with fail
  refine (sum_any _ l n c _ HA.out Hn.out (by omega)).mono ?_
  rintro e w2 ⟨rfl, hb2⟩
  go_wp2_with fail
  have hm : (if (n : Int) < 45 then (n : Int) else 45) = n := by by_cases h : n = 45 <;> simp [h]; omega
  have HA2 := Lib.hid (HA.out.below hb2 (Nat.le_refl _))
  have b1 : (0 : Int) ≤ (n : Int) := by omega
  have b2 : (n : Int) ≤ (c : Int) := by omega
  have hsz := hb2.size
  have hfb := fbuild
  have Q1 := Lib.hid (show (bs l).length = n * 1 by rw [bs_length, Nat.mul_one]; exact Hn.out.symm)
  have Q2 := Lib.hid (show 0 + n ≤ maxLen by unfold maxLen; omega)
  have Q3 := Lib.hid (show (0 + n) * 1 ≤ 140737488355328 by omega)
  have b3 : n = c ∨ ¬ (c = n) := by omega
  clear h1 h0' hw hw2
  rcases b3 with rfl | b3
  all_goals
    refine wp_loop_rounds 2 ?_
    rw [rounds_succ]
    go_wp2_with (first
      | (at_builtin; refine wpList_app_own rfl (.const (.slice none 0 0)) (.tmp 66) bytesTy rfl w.heap.size (.slice none 0 0) 0 [] rfl (World.ownsRow_nil _ _ _ _) (some ⟨b, off, none⟩) n n (bs l) rfl HA2.out Q1.out (one_bs _) Q2.out Q3.out hsz ?_; intro v3 w3 hown3 hg3 hat3; rw [Nat.zero_add, List.nil_append] at hown3; obtain ⟨A3, c3, rfl, hc3, -, hA3⟩ := own_at hown3; have HA3 := Lib.hid hA3; have hb3 : Below w.heap.size w w3 := hb2.grown hg3 hsz (by simp [Value.ownBlock]); clear hat3 hA3 hown3 hg3)
      | (refine wpList_build1 rfl (.tmp 68) frameTy rfl (fc seq inc 0 1 (n32 (Crc.sum l)) A3 n c3) rfl rfl (by omega) ?_; have hb4 : Below w.heap.size w (w3.alloc (.cells (fc seq inc 0 1 (n32 (Crc.sum l)) A3 n c3).toArray 33)) := hb3.alloc hb3.size _)
      | (at_builtin; refine wpList_app_own rfl (.tmp 55) (.tmp 69) frameTy rfl w.heap.size (.slice none 0 0) 0 [] rfl (World.ownsRow_nil _ _ _ _) (some ⟨w3.heap.size, 0, none⟩) 1 1 (fc seq inc 0 1 (n32 (Crc.sum l)) A3 n c3) rfl (at_new _ _ _ _) rfl (fc_one _ _ _ _ _ _ _ _) (by decide) (by decide) hb4.size ?_; intro v5 w5 hown5 hg5 hat5; rw [Nat.zero_add, List.nil_append] at hown5; have HOwn5 := Lib.hid hown5; have hb5 : Below w.heap.size w w5 := hb4.grown hg5 hb4.size (by simp [Value.ownBlock]); have HA5 := Lib.hid ((HA3.out.alloc (.cells (fc seq inc 0 1 (n32 (Crc.sum l)) A3 n c3).toArray 33)).grown0 hg5); clear hat5 hown5 hg5))
    rw [rounds_succ]
    go_wp2_with fail
    go_ret2
    exact ⟨v5, A3, c3, rfl, HA5.out, HOwn5.out, hb5⟩

theorem below_none {w w' : World} (hg : w.grownBy w' none) : Below w.heap.size w w' := (Below.refl _ _).grown hg (Nat.le_refl _) (by simp)

set_option maxRecDepth 100000 in
set_option maxHeartbeats 4000000 in
theorem cut_two (A : Option Addr) (l m : List UInt8) (n c : Nat) (seq inc : Int) (w : World) (hA : At w A (bs (l ++ m))) (hl : l.length = 45) (hm : m.length ≤ 45) (hm1 : 1 ≤ m.length) (hn : n = 45 + m.length) (hc : n ≤ c) (hs1 : 1 ≤ seq) (hs2 : seq + 1 ≤ 1099511627776) (hi1 : 0 ≤ inc) (hi2 : inc ≤ 1048576) :
    Calls Try.prog 8 #[.slice A n c, .int .i64 seq, .int .i64 inc] w fun e w' => ∃ v B d B' d', e = .returned (.tuple #[v, .int .i64 0]) ∧ At w' B (bs l) ∧ At w' B' (bs m) ∧
      w'.ownsRow w.heap.size 33 6 v 2 (fc seq inc 0 2 (n32 (Crc.sum (l ++ m))) B 45 d ++ fc (seq + 1) inc 1 2 (n32 (Crc.sum (l ++ m))) B' m.length d') ∧ Below w.heap.size w w' := by
  obtain ⟨b, off, rfl, hbl, -⟩ := hA.all (by rw [bs_length, List.length_append]; omega)
  obtain ⟨r, hr⟩ : ∃ r, r = m.length := ⟨_, rfl⟩
  rw [← hr] at hm hm1 hn ⊢
  have HA : Hid (At w (some ⟨b, off, none⟩) (bs (l ++ m))) := hA
  have hAl : At w (some ⟨b, off, none⟩) (bs l ++ bs m) := by rw [← bs_append]; exact hA
  have HL := Lib.hid hAl.left
  have HM := Lib.hid (show At w (some ⟨b, off + 45, none⟩) (bs m) by have := hAl.right; rwa [bs_length, hl] at this)
  have Hln := Lib.hid (show n = (l ++ m).length by rw [List.length_append, hl]; omega)
  have q1 := Lib.hid (show (bs l).length = 45 * 1 by rw [bs_length]; omega)
  have q2 := Lib.hid (show (bs m).length = r * 1 by rw [bs_length]; omega)
  have Q2 := Lib.hid (show 0 + r ≤ maxLen by unfold maxLen; omega)
  have Q3 := Lib.hid (show (0 + r) * 1 ≤ 140737488355328 by omega)
  have Hr := Lib.hid hr
  subst hn
  obtain ⟨s, hs⟩ : ∃ s, s = n32 (Crc.sum (l ++ m)) := ⟨_, rfl⟩
  rw [← hs]
  have Hs := Lib.hid hs
  have hw : IntKind.i64.wrap (((45 + r : Nat) : Int) + 45) = ((45 + r : Nat) : Int) + 45 := IntWalk.i64_in _ (by omega)
  have hw2 : IntKind.i64.wrap (((45 + r : Nat) : Int) + 45 - 1) = ((45 + r : Nat) : Int) + 44 := by rw [show ((45 + r : Nat) : Int) + 45 - 1 = ((45 + r : Nat) : Int) + 44 by omega]; exact IntWalk.i64_in _ (by omega)
  have h0'' : (((45 + r : Nat) : Int) == 0) = false := by simp; omega
  have hq : (((45 + r : Nat) : Int) + 44) / 45 = 2 := by omega
  obtain ⟨n, hn⟩ : ∃ n, n = 45 + r := ⟨_, rfl⟩
  rw [← hn] at hw hw2 h0'' hq hc Hln ⊢
  have hn45 : n - 45 = r := by omega
  have hnle : n ≤ 90 := by omega
  have hn46 : 46 ≤ n := by omega
  clear hA hAl hl hr hs hn
  go_enter Try.func8, Try.ntmps8
  go_wp2_with fail
  refine (sum_any _ (l ++ m) n c _ HA.out Hln.out (by omega)).mono ?_
  rintro e w2 ⟨rfl, hb2⟩
  rw [← Hs.out]
  go_wp2_with fail
  have HL2 := Lib.hid (HL.out.below hb2 (Nat.le_refl _))
  have HM2 := Lib.hid (HM.out.below hb2 (Nat.le_refl _))
  have hsz := hb2.size
  have hfb := fbuild
  have p1 : ¬ ((n : Int) < 45) := by omega
  have p2 : (45 : Int) ≤ (c : Int) := by omega
  have p3 : ¬ (c = 45) := by omega
  have p4 : (45 : Int) ≤ (n : Int) := by omega
  refine wp_loop_rounds 3 ?_
  rw [rounds_succ]
  go_wp2_with (first
    | (at_builtin; refine wpList_app_own rfl (.const (.slice none 0 0)) (.tmp 66) bytesTy rfl w.heap.size (.slice none 0 0) 0 [] rfl (World.ownsRow_nil _ _ _ _) (some ⟨b, off, none⟩) 45 45 (bs l) rfl HL2.out q1.out (one_bs _) (by decide) (by decide) hsz ?_; intro v3 w3 hown3 hg3 hat3; rw [Nat.zero_add, List.nil_append] at hown3; obtain ⟨g3, c3, rfl, hc3, -, -, hA3⟩ := own_shape hown3 (by omega); have HA3 := Lib.hid hA3; have hb3 : Below w.heap.size w w3 := hb2.grown hg3 hsz (by simp [Value.ownBlock]); have HM3 := Lib.hid (HM2.out.grown0 hg3); clear hat3 hA3 hown3 hg3)
    | (refine wpList_build1 rfl (.tmp 68) frameTy rfl (fc seq inc 0 2 s (some ⟨g3, 0, none⟩) 45 c3) rfl rfl (by omega) ?_; have hb4 : Below w.heap.size w (w3.alloc (.cells (fc seq inc 0 2 s (some ⟨g3, 0, none⟩) 45 c3).toArray 33)) := hb3.alloc hb3.size _)
    | (at_builtin; refine wpList_app_own rfl (.tmp 55) (.tmp 69) frameTy rfl w.heap.size (.slice none 0 0) 0 [] rfl (World.ownsRow_nil _ _ _ _) (some ⟨w3.heap.size, 0, none⟩) 1 1 (fc seq inc 0 2 s (some ⟨g3, 0, none⟩) 45 c3) rfl (at_new _ _ _ _) rfl (fc_one _ _ _ _ _ _ _ _) (by decide) (by decide) hb4.size ?_; intro v5 w5 hown5 hg5 hat5; rw [Nat.zero_add, List.nil_append] at hown5; have HOwn5 := Lib.hid hown5; have hb5 : Below w.heap.size w w5 := hb4.grown hg5 hb4.size (by simp [Value.ownBlock]); have HA5 := Lib.hid ((HA3.out.alloc (.cells (fc seq inc 0 2 s (some ⟨g3, 0, none⟩) 45 c3).toArray 33)).grown0 hg5); have HM5 := Lib.hid ((HM3.out.alloc (.cells (fc seq inc 0 2 s (some ⟨g3, 0, none⟩) 45 c3).toArray 33)).grown0 hg5); have Hat5 := Lib.hid hat5; clear hat5 hown5 hg5))
  obtain ⟨d, hd⟩ : ∃ d, d = c - 45 := ⟨_, rfl⟩
  rw [← hd]
  have hrd : r ≤ d := by omega
  have e1 : (if (r : Int) < 45 then (r : Int) else 45) = r := by by_cases h : r = 45 <;> simp [h]; omega
  have e2 : (r : Int) ≤ (d : Int) := by omega
  have e3 : r = d ∨ ¬ (d = r) := by omega
  have e4 : (0 : Int) ≤ (r : Int) := by omega
  have hlt5 : g3 < w5.heap.size := by
    obtain ⟨b', off', e, hlt, _⟩ := HA5.out.all (by rw [bs_length]; have := q1.out; rw [bs_length] at this; omega)
    cases e; exact hlt
  have hg3 : ∀ a : Addr, (some ⟨g3, 0, none⟩ : Option Addr) = some a → some a.block ≠ v5.ownBlock := by
    intro a ha
    cases ha
    have hlt3 : g3 < w3.heap.size := by
      obtain ⟨b', off', e, hlt, _⟩ := HA3.out.all (by rw [bs_length]; have := q1.out; rw [bs_length] at this; omega)
      cases e; exact hlt
    rcases Hat5.out with h | h <;> rw [h]
    · simp [Value.ownBlock]
    · simp only [World.size_alloc, ne_eq, Option.some.injEq]; omega
  have Hg3 := Lib.hid hg3
  have Hblk : Hid (∀ g, v5.ownBlock = some g → g < w5.heap.size) := by
    intro g hg
    obtain ⟨g', c', rfl, _, _, _, hA⟩ := own_shape HOwn5.out (by decide)
    simp only [Value.ownBlock, Option.some.injEq] at hg
    obtain ⟨b', off', e, hlt, _⟩ := hA.all (by simp [fc])
    cases e
    omega
  clear hg3 hn45 hd p1 p2 p3
  rcases e3 with rfl | e3
  all_goals
    rw [rounds_succ]
    go_wp2_with (first
      | (at_builtin; refine wpList_app_own rfl (.const (.slice none 0 0)) (.tmp 66) bytesTy rfl w5.heap.size (.slice none 0 0) 0 [] rfl (World.ownsRow_nil _ _ _ _) (some ⟨b, off + 45, none⟩) r r (bs m) rfl HM5.out q2.out (one_bs _) Q2.out Q3.out (Nat.le_refl _) ?_; intro v6 w6 hown6 hg6 hat6; rw [Nat.zero_add, List.nil_append] at hown6; obtain ⟨g6, c6, rfl, hc6, -, hge6, hA6⟩ := own_shape hown6 (by omega); have HA6 := Lib.hid hA6; have hb56 := below_none hg6; have HOwn6 := Lib.hid (own_below HOwn5.out hb56); have hb6 : Below w.heap.size w w6 := hb5.trans (hb56.mono hb5.size); have HA5' := Lib.hid (HA5.out.grown0 hg6); clear hat6 hA6 hown6 hg6)
      | (refine wpList_build1 rfl (.tmp 68) frameTy rfl (fc (seq + 1) inc 1 2 s (some ⟨g6, 0, none⟩) r c6) rfl rfl (by omega) ?_; have hb7 : Below w.heap.size w (w6.alloc (.cells (fc (seq + 1) inc 1 2 s (some ⟨g6, 0, none⟩) r c6).toArray 33)) := hb6.alloc hb6.size _; have HOwn7 := Lib.hid (own_below HOwn6.out ((Below.refl _ _).alloc (Nat.le_refl _) (.cells (fc (seq + 1) inc 1 2 s (some ⟨g6, 0, none⟩) r c6).toArray 33))))
      | (at_builtin; refine wpList_app_own rfl (.tmp 55) (.tmp 69) frameTy rfl w.heap.size v5 1 (fc seq inc 0 2 s (some ⟨g3, 0, none⟩) 45 c3) rfl HOwn7.out (some ⟨w6.heap.size, 0, none⟩) 1 1 (fc (seq + 1) inc 1 2 s (some ⟨g6, 0, none⟩) r c6) rfl (at_new _ _ _ _) rfl (fc_one _ _ _ _ _ _ _ _) (by decide) (by decide) hb7.size ?_; intro v8 w8 hown8 hg8 hat8; have HOwn8 := Lib.hid hown8; have hb8 : Below w.heap.size w w8 := hb7.grown hg8 hb7.size (fun k hk => by obtain ⟨g', c', rfl, _, _, hge, _⟩ := own_shape HOwn5.out (by decide); simp only [Value.ownBlock, Option.some.injEq] at hk; omega); have HA8 := Lib.hid ((HA5'.out.alloc (.cells (fc (seq + 1) inc 1 2 s (some ⟨g6, 0, none⟩) r c6).toArray 33)).grown hg8 Hg3.out); have HM8 := Lib.hid ((HA6.out.alloc (.cells (fc (seq + 1) inc 1 2 s (some ⟨g6, 0, none⟩) r c6).toArray 33)).grown hg8 (fun a ha hb => by cases ha; have := Hblk.out _ hb.symm; simp only at this; omega)); clear hat8 hown8 hg8))
    rw [rounds_succ]
    go_wp2_with fail
    go_ret2
    exact ⟨v8, some ⟨g3, 0, none⟩, c3, some ⟨g6, 0, none⟩, c6, rfl, HA8.out, HM8.out, HOwn8.out, hb8⟩
end Go.Proofs.Ytcaejcdmkihmbaa
