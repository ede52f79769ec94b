/- The walks of the reference of frames: May, low, number. -/
import Derived.Test.YtcaejcdmkihmbaaFrameT
import Derived.Test.YtcaejcdmkihmbaaMemBuild2
namespace Go.Proofs.Ytcaejcdmkihmbaa
open Go.RowKit

set_option maxRecDepth 100000 in
set_option maxHeartbeats 2000000 in
theorem rmay_any (s i p o m : Int) (A : Option Addr) (n c : Nat) (w : World) (hn : n ≤ 1000000) :
    Calls Try.prog 18 #[.agg #[.int .i64 s, .int .i64 i, .int .i64 p, .int .i64 o, .int .u32 m, .slice A n c]] w fun e w' => e = .returned (.bool (Fr.may s i p o n)) ∧ Below w.heap.size w w' := by
  have hb : Below w.heap.size w (w.alloc (.cells (fc s i p o m A n c).toArray 33)) := (Below.refl _ _).alloc (Nat.le_refl _) _
  by_cases h0 : 1 ≤ s
  case neg =>
    have hr : Fr.may s i p o n = false := by unfold Fr.may; rw [decide_eq_false]; omega
    rw [hr]
    clear hr
    go_enter Try.func18, Try.ntmps18
    go_wp2_with fail
    go_ret
    exact ⟨rfl, hb⟩
  by_cases h1 : s ≤ 1099511627776
  case neg =>
    have hr : Fr.may s i p o n = false := by unfold Fr.may; rw [decide_eq_false]; omega
    rw [hr]
    clear hr
    go_enter Try.func18, Try.ntmps18
    go_wp2_with fail
    go_ret
    exact ⟨rfl, hb⟩
  by_cases h2 : 0 ≤ i
  case neg =>
    have hr : Fr.may s i p o n = false := by unfold Fr.may; rw [decide_eq_false]; omega
    rw [hr]
    clear hr
    go_enter Try.func18, Try.ntmps18
    go_wp2_with fail
    go_ret
    exact ⟨rfl, hb⟩
  by_cases h3 : i ≤ 1048576
  case neg =>
    have hr : Fr.may s i p o n = false := by unfold Fr.may; rw [decide_eq_false]; omega
    rw [hr]
    clear hr
    go_enter Try.func18, Try.ntmps18
    go_wp2_with fail
    go_ret
    exact ⟨rfl, hb⟩
  by_cases h4 : 1 ≤ o
  case neg =>
    have hr : Fr.may s i p o n = false := by unfold Fr.may; rw [decide_eq_false]; omega
    rw [hr]
    clear hr
    go_enter Try.func18, Try.ntmps18
    go_wp2_with fail
    go_ret
    exact ⟨rfl, hb⟩
  by_cases h5 : o ≤ 2
  case neg =>
    have hr : Fr.may s i p o n = false := by unfold Fr.may; rw [decide_eq_false]; omega
    rw [hr]
    clear hr
    go_enter Try.func18, Try.ntmps18
    go_wp2_with fail
    go_ret
    exact ⟨rfl, hb⟩
  by_cases h6 : 0 ≤ p
  case neg =>
    have hr : Fr.may s i p o n = false := by unfold Fr.may; rw [decide_eq_false]; omega
    rw [hr]
    clear hr
    go_enter Try.func18, Try.ntmps18
    go_wp2_with fail
    go_ret
    exact ⟨rfl, hb⟩
  by_cases h7 : p < o
  case neg =>
    have hr : Fr.may s i p o n = false := by unfold Fr.may; rw [decide_eq_false]; omega
    rw [hr]
    clear hr
    go_enter Try.func18, Try.ntmps18
    go_wp2_with fail
    go_ret
    exact ⟨rfl, hb⟩
  have hw : IntKind.i64.wrap (o - 1) = o - 1 := IntWalk.i64_in _ (by omega)
  by_cases g1 : 1 ≤ n
  case neg =>
    have g1' : ¬ (1 : Int) ≤ (n : Int) := by omega
    have hr : Fr.may s i p o n = false := by unfold Fr.may; rw [decide_eq_false]; omega
    rw [hr]
    clear hr
    go_enter Try.func18, Try.ntmps18
    go_wp2_with fail
    go_ret
    exact ⟨rfl, hb⟩
  have g1' : (1 : Int) ≤ (n : Int) := by omega
  by_cases g2 : n ≤ 45
  case neg =>
    have g2' : ¬ (n : Int) ≤ 45 := by omega
    have hr : Fr.may s i p o n = false := by unfold Fr.may; rw [decide_eq_false]; omega
    rw [hr]
    clear hr
    go_enter Try.func18, Try.ntmps18
    go_wp2_with fail
    go_ret
    exact ⟨rfl, hb⟩
  have g2' : (n : Int) ≤ 45 := by omega
  by_cases h8 : p = o - 1
  · have h8' : o = p + 1 := by omega
    subst h8'
    have hw2 : p + 1 - 1 = p := by omega
    rw [hw2] at hw
    clear h8
    have hr : Fr.may s i p (p + 1) n = true := by unfold Fr.may; rw [decide_eq_true]; omega
    rw [hr]
    clear hr
    go_enter Try.func18, Try.ntmps18
    go_wp2_with fail
    go_ret
    exact ⟨rfl, hb⟩
  · have h8' : (p == o - 1) = false := by simpa using h8
    by_cases h9 : n = 45
    · subst h9
      have hr : Fr.may s i p o 45 = true := by unfold Fr.may; rw [decide_eq_true]; omega
      rw [hr]
      clear hr
      go_enter Try.func18, Try.ntmps18
      go_wp2_with fail
      go_ret
      exact ⟨rfl, hb⟩
    · have h9' : ¬ (n : Int) = 45 := by omega
      have h9'' : ((n : Int) == 45) = false := by simpa using h9'
      have hr : Fr.may s i p o n = false := by unfold Fr.may; rw [decide_eq_false]; omega
      rw [hr]
      clear hr
      go_enter Try.func18, Try.ntmps18
      go_wp2_with fail
      go_ret
      exact ⟨rfl, hb⟩

theorem u64_byte (M : Nat) : bits .and .u64 (M : Int) 255 = n8 (UInt8.ofNat M) := by
  show IntKind.u64.wrap ((BitVec.ofInt 64 (M : Int) &&& BitVec.ofInt 64 255).toNat : Int) = _
  rw [BitVec.toNat_and, show (BitVec.ofInt 64 255).toNat = 255 by decide, BitVec.ofInt_natCast, BitVec.toNat_ofNat]
  rw [show (255 : Nat) = 2 ^ 8 - 1 by decide, Nat.and_two_pow_sub_one_eq_mod]
  unfold n8
  rw [UInt8.toNat_ofNat']
  have : IntKind.u64.wrap (((M % 2 ^ 64) % 2 ^ 8 : Nat) : Int) = (((M % 2 ^ 64) % 2 ^ 8 : Nat) : Int) := by
    simp [IntKind.wrap, IntKind.bits, IntKind.signed]; omega
  rw [this]
  omega

set_option maxRecDepth 100000 in
set_option maxHeartbeats 2000000 in
theorem low_any (base : Nat) (v : Value) (l : List UInt8) (x y : Int) (N W k : Nat) (w : World) (hx : x = N) (hy : y = W) (hk : k = l.length) (hown : w.ownsRow base 5 1 v k (bs l)) (hbase : base ≤ w.heap.size) (hb : k ≤ 1000000) (h2 : W ≤ 6) :
    Calls Try.prog 24 #[v, .int .u64 x, .int .i64 y] w fun e w' => ∃ v', e = .returned v' ∧ w'.ownsRow base 5 1 v' (k + W) (bs (l ++ Pk.le N W)) ∧ Below base w w' := by
  subst hx hy hk
  have HO0 := Lib.hid hown
  have Hbase := Lib.hid hbase
  clear hown
  go_enter Try.func24, Try.ntmps24
  go_wp2_with fail
  go_loopw [0, 1, 7] (fun u x i wr => ∃ k : Nat, k ≤ W ∧ i = .int .i64 k ∧ x = .int .u64 ((N / 2 ^ (8 * k) : Nat) : Int) ∧ Hid (wr.ownsRow base 5 1 u (l.length + k) (bs (l ++ Pk.le N k))) ∧ Below base w wr) (fun _ _ i _ => W - (intOf i).toNat)
  case atStart => exact ⟨0, by omega, rfl, by simp, by simpa [Pk.le, Hid] using HO0.out, Below.refl _ _⟩
  case round =>
    obtain ⟨k, hk, rfl, rfl, ho, hb⟩ := hrel
    by_cases hlt : k < W
    · obtain ⟨M, hM⟩ : ∃ M, M = N / 2 ^ (8 * k) := ⟨_, rfl⟩
      rw [← hM]
      have hbyte := u64_byte M
      have hbyte2 : n8 (UInt8.ofNat M) % 256 = n8 (UInt8.ofNat M) := by
        have h1 := n8_0 (UInt8.ofNat M)
        have h2 := n8_lt (UInt8.ofNat M)
        omega
      have HM := Lib.hid hM
      have hT : At (wr.alloc (.cells [B8 (UInt8.ofNat M)].toArray 5)) (some ⟨wr.heap.size, 0, none⟩) [B8 (UInt8.ofNat M)] := at_new wr _ _ _
      have HT := Lib.hid hT
      have HO := Lib.hid (ho.out.alloc (.cells [B8 (UInt8.ofNat M)].toArray 5))
      have hsz := Nat.le_trans Hbase.out hb.size
      clear hT hM
      go_wp2_with (at_builtin; refine wpList_app_own rfl (.tmp 13) (.tmp 17) bytesTy rfl base u0 (l.length + k) (bs (l ++ Pk.le N k)) rfl HO.out _ 1 1 _ rfl HT.out rfl (by intro u hu; simp at hu; subst hu; rfl) (by unfold maxLen; omega) (by omega) (by simp; omega) ?_; intro v2 w2 hown2 hg2 hat2)
      refine ⟨⟨k + 1, by omega, by go_num, ?_, ?_, (hb.alloc hsz _).grown hg2 (by simp; omega) (fun j hj => (HO.out.lt j hj).1)⟩, by simp [intOf]; omega⟩
      · rw [HM.out, show 8 * (k + 1) = 8 * k + 8 by omega, Nat.pow_add, ← Nat.div_div_eq_div_mul]
        simp
      · rw [Pk.le_succ, ← List.append_assoc, ← HM.out]
        unfold Hid
        rw [bs_append, show l.length + (k + 1) = l.length + k + 1 by omega]
        exact hown2
    · have hkW : k = W := by omega
      rw [hkW] at ho
      clear hkW
      go_wp2_with fail
      go_ret
      exact ⟨_, rfl, ho.out, hb⟩
end Go.Proofs.Ytcaejcdmkihmbaa
