/- The walk of the reference of frames: Bytes. -/
import Derived.Test.YtcaejcdmkihmbaaFrameY
namespace Go.Proofs.Ytcaejcdmkihmbaa
open Go.RowKit

theorem le_one (x : Nat) (h : x < 256) : bs (Pk.le x 1) = [.int .u8 (x : Int)] := by
  unfold bs Pk.le
  simp only [List.range_one, List.map_cons, List.map_nil, Nat.mul_zero, Nat.pow_zero, Nat.div_one]
  have e : n8 (UInt8.ofNat x) = (x : Int) := by
    unfold n8
    rw [UInt8.toNat_ofNat']
    omega
  exact congrArg (fun z => [Value.int .u8 z]) e

/-- a slice's length -/
def slen : Value → Nat
  | .slice _ n _ => n
  | _ => 0

set_option maxRecDepth 100000 in
set_option maxHeartbeats 1000000 in
theorem rfbytes_no (s i p o m : Int) (A : Option Addr) (n c : Nat) (w : World) (hn : n ≤ 1000000) (h : Fr.may s i p o n = false) :
    Calls Try.prog 14 #[.agg #[.int .i64 s, .int .i64 i, .int .i64 p, .int .i64 o, .int .u32 m, .slice A n c]] w fun e w' => e = .returned (.tuple #[.slice none 0 0, .int .i64 2]) ∧ Below w.heap.size w w' := by
  have Hm := Lib.hid h
  have hb : Below w.heap.size w (w.alloc (.cells (fc s i p o m A n c).toArray 33)) := (Below.refl _ _).alloc (Nat.le_refl _) _
  clear h
  go_enter Try.func14, Try.ntmps14
  go_wp2_with fail
  refine (rmay_any s i p o m A n c _ hn).mono ?_
  rintro e w2 ⟨rfl, hb2⟩
  rw [Hm.out]
  have hb3 := hb.trans (hb2.mono hb.size)
  go_wp2_with fail
  go_ret2
  exact ⟨rfl, hb3⟩

set_option maxRecDepth 100000 in
set_option maxHeartbeats 4000000 in
theorem rfbytes_nat (s i p o : Nat) (m : BitVec 32) (l : List UInt8) (A : Option Addr) (n c : Nat) (w : World) (hA : At w A (bs l)) (hn : n = l.length) (h : Fr.may s i p o n = true) :
    Calls Try.prog 14 #[.agg #[.int .i64 s, .int .i64 i, .int .i64 p, .int .i64 o, .int .u32 (n32 m), .slice A n c]] w fun e w' => ∃ v, e = .returned (.tuple #[v, .int .i64 0]) ∧ w'.ownsRow w.heap.size 5 1 v 64 (bs (Fr.bytes ⟨s, i, p, o, m, l⟩)) ∧ Below w.heap.size w w' := by
  obtain ⟨h1, h2, h3, h4, h5, h6, h7, h8, h9, h10⟩ := may_parts (f := ⟨s, i, p, o, m, l⟩) (by rw [hn] at h; exact h)
  simp only at h1 h2 h3 h4 h5 h6 h7 h8 h9 h10
  have H := Lib.hid h
  have HA := Lib.hid hA
  have Hn := Lib.hid hn
  have hb : Below w.heap.size w (w.alloc (.cells (fc s i p o (n32 m) A n c).toArray 33)) := (Below.refl _ _).alloc (Nat.le_refl _) _
  have m0 := n32_0 m
  have m1 := n32_lt m
  have hn45 : n ≤ 45 := by omega
  clear h hA hn
  go_enter Try.func14, Try.ntmps14
  go_wp2_with fail
  refine (rmay_any s i p o (n32 m) A n c _ (by omega)).mono ?_
  rintro e w2 ⟨rfl, hb2⟩
  rw [H.out]
  have hb3 := hb.trans (hb2.mono hb.size)
  have HB := Lib.hid ((Blk.new w 33 (fc s i p o (n32 m) A n c)).below hb2 (by simp))
  have HA2 := Lib.hid (HA.out.below hb3 (Nat.le_refl _))
  obtain ⟨c0, c1, c2, c3, c4, c5⟩ := fc_cells HB.out
  clear hb2 hb
  go_wp2_with fail
  refine (low_any w2.heap.size (.slice none 0 0) [] s 6 s 6 0 _ rfl rfl rfl (World.ownsRow_nil _ _ _ _) (Nat.le_refl _) (by decide) (by decide)).mono ?_
  rintro e w3 ⟨v3, rfl, ho3, hs3⟩
  rw [Nat.zero_add, List.nil_append] at ho3
  have Ho3 := Lib.hid ho3
  clear c0 c1 c2 c3 c4 c5 ho3
  obtain ⟨c0, c1, c2, c3, c4, c5⟩ := fc_cells (HB.out.below hs3 HB.out.lt)
  go_wp2_with fail
  refine (low_any w2.heap.size v3 (Pk.le s 6) i 3 i 3 6 _ rfl rfl (Pk.le_length _ _).symm Ho3.out hs3.size (by decide) (by decide)).mono ?_
  rintro e w4 ⟨v4, rfl, ho4, hs4⟩
  have hs24 := hs3.trans hs4
  have Ho4 := Lib.hid ho4
  clear c0 c1 c2 c3 c4 c5 ho4 hs3 hs4 Ho3
  obtain ⟨c0, c1, c2, c3, c4, c5⟩ := fc_cells (HB.out.below hs24 HB.out.lt)
  have hsz := hs24.size
  have q1 : 16 * p + o < 256 := by omega
  have q2 : IntKind.u8.wrap (16 * (p : Int) + (o : Int)) = 16 * (p : Int) + (o : Int) := by rw [show IntKind.u8.wrap (16 * (p : Int) + (o : Int)) = (16 * (p : Int) + (o : Int)) % 256 from by simp [IntKind.wrap, IntKind.bits, IntKind.signed]]; omega
  have q3 : IntKind.u8.wrap (n : Int) = (n : Int) := by rw [show IntKind.u8.wrap (n : Int) = (n : Int) % 256 from by simp [IntKind.wrap, IntKind.bits, IntKind.signed]]; omega
  have HO := Lib.hid (Ho4.out.alloc (.cells #[.int .u8 (16 * (p : Int) + (o : Int)), .int .u8 (n : Int)] 5))
  have hsa : Below w2.heap.size w2 (w4.alloc (.cells #[.int .u8 (16 * (p : Int) + (o : Int)), .int .u8 (n : Int)] 5)) := hs24.alloc hsz _
  go_wp2_with (at_builtin; refine wpList_app_own rfl (.tmp 17) (.tmp 29) bytesTy rfl w2.heap.size v4 9 (bs (Pk.le s 6 ++ Pk.le i 3)) rfl HO.out (some ⟨w4.heap.size, 0, none⟩) 2 2 [.int .u8 (16 * (p : Int) + (o : Int)), .int .u8 (n : Int)] rfl (at_new _ _ _ _) rfl (by intro u hu; simp at hu; rcases hu with rfl | rfl <;> rfl) (by decide) (by decide) hsa.size ?_; intro v5 w5 hown5 hg5 hat5; have Ho5 := Lib.hid hown5; have hs5 := hsa.grown hg5 hsa.size (fun j hj => (Ho4.out.lt j hj).1); clear hown5 hg5 hat5; obtain ⟨k0, k1, k2, k3, k4, k5⟩ := fc_cells (HB.out.below hs5 HB.out.lt))
  have ho5 := Ho5.out
  have e5 : bs (Pk.le s 6 ++ Pk.le i 3) ++ [Value.int .u8 (16 * (p : Int) + (o : Int)), .int .u8 (n : Int)] = bs (Pk.le s 6 ++ Pk.le i 3 ++ Pk.le (16 * p + o) 1 ++ Pk.le n 1) := by
    rw [bs_append (_ ++ _ ++ _), bs_append (_ ++ _) (Pk.le (16 * p + o) 1), le_one _ q1, le_one _ (by omega)]
    simp
  rw [e5] at ho5
  have Ho5' := Lib.hid ho5
  obtain ⟨M, hM⟩ : ∃ M : Nat, M = m.toNat := ⟨_, rfl⟩
  refine (low_any w2.heap.size v5 (Pk.le s 6 ++ Pk.le i 3 ++ Pk.le (16 * p + o) 1 ++ Pk.le n 1) (n32 m) 4 M 4 11 _ (by rw [hM]; rfl) rfl (by simp [Pk.le_length]) Ho5'.out hs5.size (by decide) (by decide)).mono ?_
  rintro e w6 ⟨v6, rfl, ho6, hs6⟩
  rw [hM] at ho6
  have hs26 := hs5.trans hs6
  obtain ⟨hd, hhd⟩ : ∃ hd, hd = Pk.le s 6 ++ Pk.le i 3 ++ Pk.le (16 * p + o) 1 ++ Pk.le n 1 ++ Pk.le m.toNat 4 := ⟨_, rfl⟩
  rw [← hhd] at ho6
  have H15 : Hid (hd.length = 15) := by rw [hhd]; show List.length _ = 15; simp [Pk.le_length]
  have Ho6 := Lib.hid ho6
  have Hhd := Lib.hid hhd
  have HA6 := Lib.hid (HA2.out.below hs26 (Nat.le_refl _))
  have Q1 := Lib.hid (show (bs l).length = n * 1 by rw [bs_length, Nat.mul_one]; exact Hn.out.symm)
  have Q2 := Lib.hid (show 15 + n ≤ maxLen by unfold maxLen; omega)
  have Q3 := Lib.hid (show (15 + n) * 1 ≤ 140737488355328 by omega)
  clear k0 k1 k2 k3 k4 k5 c0 c1 c2 c3 c4 c5 ho5 e5 ho6 hhd hs5 hs6 Ho5 Ho5' hsa HO hs24 Ho4 hM q2 q3 m0 m1 h2 h4
  obtain ⟨c0, c1, c2, c3, c4, c5⟩ := fc_cells (HB.out.below hs26 HB.out.lt)
  go_wp2_with (at_builtin; refine wpList_app_own rfl (.tmp 36) (.tmp 38) bytesTy rfl w2.heap.size v6 15 (bs hd) rfl Ho6.out A n c (bs l) rfl HA6.out Q1.out (one_bs _) Q2.out Q3.out hs26.size ?_; intro v7 w7 hown7 hg7 hat7; have hs7 := hs26.grown hg7 hs26.size (fun j hj => (Ho6.out.lt j hj).1); have Ho7 := Lib.hid hown7; clear hown7 hg7 hat7)
  clear c0 c1 c2 c3 c4 c5
  go_loopw [4] (fun v wr => ∃ k : Nat, 15 + n + k ≤ 60 ∧ Hid (wr.ownsRow w2.heap.size 5 1 v (15 + n + k) (bs (hd ++ l ++ List.replicate k 0))) ∧ Below w2.heap.size w2 wr) (fun v _ => 60 - slen v)
  case atStart => exact ⟨0, by omega, by unfold Hid; rw [List.replicate_zero, List.append_nil, bs_append]; exact Ho7.out, hs7⟩
  case round =>
    obtain ⟨k, hk, ho, hs⟩ := hrel
    obtain ⟨Ak, ck, hv, hck, -, hAk⟩ := own_at ho.out
    subst hv
    by_cases hlt : 15 + n + k < 60
    · have hlt' : ((15 + n + k : Nat) : Int) < 60 := by omega
      obtain ⟨z, hz⟩ : ∃ z, z = 15 + n + k := ⟨_, rfl⟩
      rw [← hz] at hlt' ho ⊢
      have HOk := Lib.hid (ho.out.alloc (.cells #[.int .u8 0] 5))
      have hsk : Below w2.heap.size w2 (wr.alloc (.cells #[.int .u8 0] 5)) := hs.alloc hs.size _
      have Hz := Lib.hid hz
      have R1 := Lib.hid (show z + 1 ≤ maxLen by unfold maxLen; omega)
      have R2 := Lib.hid (show (z + 1) * 1 ≤ 140737488355328 by omega)
      clear hz hAk hck
      go_wp2_with (at_builtin; refine wpList_app_own rfl (.tmp 43) (.tmp 44) bytesTy rfl w2.heap.size _ z _ rfl HOk.out (some ⟨wr.heap.size, 0, none⟩) 1 1 [.int .u8 0] rfl (at_new _ _ _ _) rfl (by intro u hu; simp at hu; subst hu; rfl) R1.out R2.out hsk.size ?_; intro v8 w8 hown8 hg8 hat8; have hs8 := hsk.grown hg8 hsk.size (fun j hj => (HOk.out.lt j hj).1); have Ho8 := Lib.hid hown8; clear hown8 hg8 hat8)
      go_roundw
      case rel =>
        refine ⟨k + 1, by have := Hz.out; omega, ?_, hs8⟩
        unfold Hid
        have h := Ho8.out
        rw [List.replicate_succ', ← List.append_assoc, bs_append _ [0], show 15 + n + (k + 1) = z + 1 by have := Hz.out; omega]
        exact h
      case measure =>
        obtain ⟨A8, c8, rfl, -⟩ := own_at Ho8.out
        simp only [slen]
        omega
    · have hk2 : 15 + n + k = 60 := by omega
      rw [hk2] at ho ⊢
      have hkk : k = 45 - n := by omega
      rw [hkk] at ho hAk
      have HR := Lib.hid hAk
      have Hln := Lib.hid (show (60 : Nat) = (hd ++ l ++ List.replicate (45 - n) 0).length by simp [H15.out, ← Hn.out]; omega)
      have hb0 := hb3.trans (hs.mono hb3.size)
      clear hlt hk2 hkk hk hAk
      go_wp2_with fail
      refine (rseal_any _ _ 60 ck _ HR.out Hln.out (by decide)).mono ?_
      rintro e w8 ⟨v, rfl, hown, hb8⟩
      rw [← Hln.out] at hown
      have Hown := Lib.hid hown
      clear hown
      go_wp2_with fail
      go_ret2
      refine ⟨v, rfl, ?_, hb0.trans (hb8.mono hb0.size)⟩
      have e : Fr.bytes ⟨s, i, p, o, m, l⟩ = Crc.seal_ (hd ++ l ++ List.replicate (45 - n) 0) := by
        unfold Fr.bytes Fr.raw Fr.hd
        have e1 : (16 * (p : Int) + (o : Int)).toNat = 16 * p + o := by omega
        simp only [Int.toNat_natCast, e1]
        rw [← Hn.out, ← Hhd.out]
      rw [e]
      exact own_mono Hown.out hb0.size

theorem rfbytes_yes (f : Fr) (A : Option Addr) (n c : Nat) (w : World) (hA : At w A (bs f.load)) (hn : n = f.load.length) (h : f.ok = true) :
    Calls Try.prog 14 #[.agg #[.int .i64 f.seq, .int .i64 f.inc, .int .i64 f.part, .int .i64 f.of, .int .u32 (n32 f.mark), .slice A n c]] w fun e w' => ∃ v, e = .returned (.tuple #[v, .int .i64 0]) ∧ w'.ownsRow w.heap.size 5 1 v 64 (bs f.bytes) ∧ Below w.heap.size w w' := by
  obtain ⟨h1, h2, h3, h4, h5, h6, h7, h8, h9, h10⟩ := may_parts h
  obtain ⟨s, i, p, o, m, l⟩ := f
  simp only at h1 h3 h5 h7
  obtain ⟨s, rfl⟩ := Int.eq_ofNat_of_zero_le (show 0 ≤ s by omega)
  obtain ⟨i, rfl⟩ := Int.eq_ofNat_of_zero_le h3
  obtain ⟨p, rfl⟩ := Int.eq_ofNat_of_zero_le h7
  obtain ⟨o, rfl⟩ := Int.eq_ofNat_of_zero_le (show 0 ≤ o by omega)
  exact rfbytes_nat s i p o m l A n c w hA hn (by rw [hn]; exact h)
end Go.Proofs.Ytcaejcdmkihmbaa
