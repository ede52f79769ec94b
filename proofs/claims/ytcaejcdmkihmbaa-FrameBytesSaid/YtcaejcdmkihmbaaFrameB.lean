/- The walk of package frame's Bytes. -/
import Derived.Test.YtcaejcdmkihmbaaFrameA
import Derived.Test.YtcaejcdmkihmbaaPackA
import Derived.Test.YtcaejcdmkihmbaaSumsC
namespace Go.Proofs.Ytcaejcdmkihmbaa
open Go.RowKit

namespace Fr
/-- a frame's head -/
def hd (f : Fr) : List UInt8 := Pk.le f.seq.toNat 6 ++ Pk.le f.inc.toNat 3 ++ Pk.le (16 * f.part + f.of).toNat 1 ++ Pk.le f.load.length 1 ++ Pk.le f.mark.toNat 4
/-- a frame's sector ahead of the sum -/
def raw (f : Fr) : List UInt8 := f.hd ++ f.load ++ List.replicate (45 - f.load.length) 0
def bytes (f : Fr) : List UInt8 := Crc.seal_ f.raw
theorem hd_length (f : Fr) : f.hd.length = 15 := by simp [hd, Pk.le_length]
theorem raw_length (f : Fr) (h : f.load.length ≤ 45) : f.raw.length = 60 := by simp [raw, hd_length]; omega
end Fr

theorem may_parts {f : Fr} (h : f.ok = true) : 1 ≤ f.seq ∧ f.seq ≤ 1099511627776 ∧ 0 ≤ f.inc ∧ f.inc ≤ 1048576 ∧ 1 ≤ f.of ∧ f.of ≤ 2 ∧ 0 ≤ f.part ∧ f.part < f.of ∧ f.load.length ≤ 45 ∧ 1 ≤ f.load.length := by
  unfold Fr.ok Fr.may at h
  simp only [decide_eq_true_eq] at h
  by_cases hp : f.part = f.of - 1
  · have := h.2.2.2.2.2.2.2.2.1 hp; omega
  · have := h.2.2.2.2.2.2.2.2.2 hp; omega

set_option maxRecDepth 100000 in
set_option maxHeartbeats 1000000 in
theorem fbytes_no (s i p o m : Int) (A : Option Addr) (n c : Nat) (w : World) (hn : n ≤ 1000000) (h : Fr.may s i p o n = false) :
    Calls Try.prog 13 #[.agg #[.int .i64 s, .int .i64 i, .int .i64 p, .int .i64 o, .int .u32 m, .slice A n c]] w fun e w' => e = .returned (.tuple #[.slice none 0 0, .int .i64 2]) ∧ Below w.heap.size w w' := by
  have Hm := Lib.hid h
  have hb : Below w.heap.size w (w.alloc (.cells (fc s i p o m A n c).toArray 33)) := (Below.refl _ _).alloc (Nat.le_refl _) _
  clear h
  go_enter Try.func13, Try.ntmps13
  go_wp2_with fail
  refine (fmay_any s i p o m A n c _ hn).mono ?_
  rintro e w2 ⟨rfl, hb2⟩
  rw [Hm.out]
  have hb3 := hb.trans (hb2.mono hb.size)
  go_wp2_with fail
  go_ret2
  exact ⟨rfl, hb3⟩

theorem below_put {B : Nat} {w0 w1 w2 : World} {o : Obj} (h : Below B w0 w1) (hB : B ≤ w0.heap.size) (h2 : Below (w1.alloc o).heap.size (w1.alloc o) w2) : Below B w0 w2 := by
  have h3 := h.size
  exact (h.alloc (Nat.le_trans hB h3) o).trans (h2.mono (by rw [World.size_alloc]; omega))

theorem put_at (A : Option Addr) (l : List UInt8) (n c : Nat) (x y : Int) (N W k : Nat) (w w0 : World) (o : Obj) (hk : k = n + W) (hw : w = w0.alloc o) (hx : x = N) (hy : y = W) (hA : At w0 A (bs l)) (hn : n = l.length) (hb : n ≤ 1000000) (h1 : 1 ≤ W) (h2 : W ≤ 6) (hN : N < 2 ^ (8 * W)) :
    Calls Try.prog 22 #[.slice A n c, .int .i64 x, .int .i64 y] w fun e w' => ∃ A' c', e = .returned (.tuple #[.slice A' k c', .int .i64 0]) ∧ At w' A' (bs (l ++ Pk.le N W)) ∧ k ≤ c' ∧ Below (w0.alloc o).heap.size (w0.alloc o) w' := by
  subst hw hk
  refine (put_int A l n c x y N W _ hx hy (hA.alloc o) hn hb h1 h2 hN).mono ?_
  rw [hn]
  rintro e w' ⟨v, rfl, ho, hb'⟩
  obtain ⟨A', c', rfl, hc, _, hA'⟩ := own_at ho
  exact ⟨A', c', rfl, hA', hc, hb'⟩

theorem fb_splice (h l : List UInt8) (hh : h.length = 15) (hl : l.length ≤ 45) : splice (splice (zrow 60) 0 (bs h)) 15 (bs l) = bs (h ++ l ++ List.replicate (45 - l.length) 0) := by
  have e1 : splice (zrow 60) 0 (bs h) = bs (h ++ List.replicate 45 0) := by
    unfold splice zrow
    rw [bs_append, bs_length, hh, List.take_zero, List.nil_append]
    unfold bs
    rw [List.drop_replicate, List.map_replicate]
    rfl
  rw [e1]
  unfold splice
  rw [bs_append, bs_append, bs_append, bs_length, List.append_assoc]
  have h15 : (bs h).length = 15 := by rw [bs_length, hh]
  rw [List.take_left' h15, List.drop_append, h15, List.drop_eq_nil_of_le (by rw [h15]; omega), List.nil_append]
  congr 2
  unfold bs
  rw [← List.map_drop, List.drop_replicate]
  congr 2
  omega

set_option maxRecDepth 100000 in
set_option maxHeartbeats 4000000 in
theorem fbytes_nat (s i p o : Nat) (m : BitVec 32) (l : List UInt8) (A : Option Addr) (n c : Nat) (w : World) (hA : At w A (bs l)) (hn : n = l.length) (h : Fr.may s i p o n = true) :
    Calls Try.prog 13 #[.agg #[.int .i64 s, .int .i64 i, .int .i64 p, .int .i64 o, .int .u32 (n32 m), .slice A n c]] w fun e w' => ∃ v, e = .returned (.tuple #[v, .int .i64 0]) ∧ w'.ownsRow w.heap.size 5 1 v 64 (bs (Fr.bytes ⟨s, i, p, o, m, l⟩)) ∧ Below w.heap.size w w' := by
  obtain ⟨h1, h2, h3, h4, h5, h6, h7, h8, h9, h10⟩ := may_parts (f := ⟨s, i, p, o, m, l⟩) (by rw [hn] at h; exact h)
  simp only at h1 h2 h3 h4 h5 h6 h7 h8 h9 h10
  have H := Lib.hid h
  have HA := Lib.hid hA
  have Hn := Lib.hid hn
  have hb : Below w.heap.size w (w.alloc (.cells (fc s i p o (n32 m) A n c).toArray 33)) := (Below.refl _ _).alloc (Nat.le_refl _) _
  have hw1 : IntKind.i64.wrap (16 * (p : Int)) = 16 * p := IntWalk.i64_in _ (by omega)
  have hw2 : IntKind.i64.wrap (16 * (p : Int) + o) = 16 * p + o := IntWalk.i64_in _ (by omega)
  have m0 := n32_0 m
  have m1 := n32_lt m
  have hn45 : n ≤ 45 := by omega
  have b2 := fun (w : World) (x y : Int) => run_build (P := Try.prog) w 44 #[(0, .int .i64 x), (1, .int .i64 y)] #[.int .i64 x, .int .i64 y] (by kernel_rfl)
  clear h hA hn
  go_enter Try.func13, Try.ntmps13
  go_wp2_with fail
  refine (fmay_any s i p o (n32 m) A n c _ (by omega)).mono ?_
  rintro e w2 ⟨rfl, hb2⟩
  rw [H.out]
  have hb3 := hb.trans (hb2.mono hb.size)
  have HB := Lib.hid ((Blk.new w 33 (fc s i p o (n32 m) A n c)).below hb2 (by simp))
  have HA2 := Lib.hid (HA.out.below hb3 (Nat.le_refl _))
  have c0 : w2.cell? ⟨w.heap.size, 0, none⟩ = some (.int .i64 s) := HB.out.cell 0
  have c1 : w2.cell? ⟨w.heap.size, 1, none⟩ = some (.int .i64 i) := HB.out.cell 1
  have c2 : w2.cell? ⟨w.heap.size, 2, none⟩ = some (.int .i64 p) := HB.out.cell 2
  have c3 : w2.cell? ⟨w.heap.size, 3, none⟩ = some (.int .i64 o) := HB.out.cell 3
  have c4 : w2.cell? ⟨w.heap.size, 4, none⟩ = some (.int .u32 (n32 m)) := HB.out.cell 4
  have c5 : w2.cell? ⟨w.heap.size, 5, none⟩ = some (.slice A n c) := HB.out.cell 5
  clear hb2
  go_wp2_with fail
  obtain ⟨x, hx⟩ : ∃ x : Int, x = 16 * (p : Int) + (o : Int) := ⟨_, rfl⟩
  rw [← hx]
  obtain ⟨M, hM⟩ : ∃ M : Int, M = n32 m := ⟨_, rfl⟩
  rw [← hM]
  have X0 := fun (w : World) (a b c d e : Int) => (by kernel_rfl : (Instr.index 45 (.agg #[.int .i64 a, .int .i64 6, .int .i64 b, .int .i64 3, .int .i64 c, .int .i64 1, .int .i64 d, .int .i64 1, .int .i64 e, .int .i64 4]) (.int .i64 0)).run Try.prog w = .ok (.agg #[.int .i64 a, .int .i64 6]) w)
  have X1 := fun (w : World) (a b c d e : Int) => (by kernel_rfl : (Instr.index 45 (.agg #[.int .i64 a, .int .i64 6, .int .i64 b, .int .i64 3, .int .i64 c, .int .i64 1, .int .i64 d, .int .i64 1, .int .i64 e, .int .i64 4]) (.int .i64 1)).run Try.prog w = .ok (.agg #[.int .i64 b, .int .i64 3]) w)
  have X2 := fun (w : World) (a b c d e : Int) => (by kernel_rfl : (Instr.index 45 (.agg #[.int .i64 a, .int .i64 6, .int .i64 b, .int .i64 3, .int .i64 c, .int .i64 1, .int .i64 d, .int .i64 1, .int .i64 e, .int .i64 4]) (.int .i64 2)).run Try.prog w = .ok (.agg #[.int .i64 c, .int .i64 1]) w)
  have X3 := fun (w : World) (a b c d e : Int) => (by kernel_rfl : (Instr.index 45 (.agg #[.int .i64 a, .int .i64 6, .int .i64 b, .int .i64 3, .int .i64 c, .int .i64 1, .int .i64 d, .int .i64 1, .int .i64 e, .int .i64 4]) (.int .i64 3)).run Try.prog w = .ok (.agg #[.int .i64 d, .int .i64 1]) w)
  have X4 := fun (w : World) (a b c d e : Int) => (by kernel_rfl : (Instr.index 45 (.agg #[.int .i64 a, .int .i64 6, .int .i64 b, .int .i64 3, .int .i64 c, .int .i64 1, .int .i64 d, .int .i64 1, .int .i64 e, .int .i64 4]) (.int .i64 4)).run Try.prog w = .ok (.agg #[.int .i64 e, .int .i64 4]) w)
  have Hs := Lib.hid h2
  have Hi := Lib.hid h4
  have Hm1 := Lib.hid m1
  have Hx := Lib.hid hx
  have HM := Lib.hid hM
  have q1 : 16 * p + o < 256 := by omega
  clear h1 h2 h3 h4 m0 m1 hw1 hw2 b2 hM c0 c1 c2 c3 c4 c5 hb h5 h6 h7 h8 hx
  refine wp_loop_rounds 6 ?_
  rw [rounds_succ]
  go_wp2_with fail
  refine (put_at none [] 0 0 s 6 s 6 6 _ w2 _ rfl rfl rfl rfl At.nil (by simp) (by decide) (by decide) (by decide) (by have := Hs.out; omega)).mono ?_
  rintro e w3 ⟨A3, d3, rfl, hA3, hd3, hq3⟩
  have hs3 : Below w2.heap.size w2 w3 := below_put (Below.refl _ _) (Nat.le_refl _) hq3
  clear hq3
  rw [List.nil_append] at hA3
  go_wp2_with fail
  rw [rounds_succ]
  go_wp2_with fail
  refine (put_at A3 (Pk.le s 6) 6 d3 i 3 i 3 9 _ w3 _ rfl rfl rfl rfl hA3 (by simp [Pk.le_length]) (by decide) (by decide) (by decide) (by have := Hi.out; omega)).mono ?_
  rintro e w4 ⟨A4, d4, rfl, hA4, hd4, hq4⟩
  have hs4 : Below w2.heap.size w2 w4 := below_put hs3 (Nat.le_refl _) hq4
  clear hq4 hs3 hA3
  go_wp2_with fail
  rw [rounds_succ]
  go_wp2_with fail
  refine (put_at A4 (Pk.le s 6 ++ Pk.le i 3) 9 d4 x 1 (16 * p + o) 1 10 _ w4 _ rfl rfl (by have := Hx.out; omega) rfl hA4 (by simp [Pk.le_length]) (by decide) (by decide) (by decide) (by omega)).mono ?_
  rintro e w5 ⟨A5, d5, rfl, hA5, hd5, hq5⟩
  have hs5 : Below w2.heap.size w2 w5 := below_put hs4 (Nat.le_refl _) hq5
  clear hq5 hs4 hA4
  go_wp2_with fail
  rw [rounds_succ]
  go_wp2_with fail
  refine (put_at A5 (Pk.le s 6 ++ Pk.le i 3 ++ Pk.le (16 * p + o) 1) 10 d5 n 1 n 1 11 _ w5 _ rfl rfl rfl rfl hA5 (by simp [Pk.le_length]) (by decide) (by decide) (by decide) (by omega)).mono ?_
  rintro e w6 ⟨A6, d6, rfl, hA6, hd6, hq6⟩
  have hs6 : Below w2.heap.size w2 w6 := below_put hs5 (Nat.le_refl _) hq6
  clear hq6 hs5 hA5
  go_wp2_with fail
  rw [rounds_succ]
  go_wp2_with fail
  refine (put_at A6 (Pk.le s 6 ++ Pk.le i 3 ++ Pk.le (16 * p + o) 1 ++ Pk.le n 1) 11 d6 M 4 m.toNat 4 15 _ w6 _ rfl rfl HM.out rfl hA6 (by simp [Pk.le_length]) (by decide) (by decide) (by decide) m.isLt).mono ?_
  rintro e w7 ⟨A7, d7, rfl, hA7, hd7, hq7⟩
  have hs7 : Below w2.heap.size w2 w7 := below_put hs6 (Nat.le_refl _) hq7
  clear hq7 hs6 hA6
  go_wp2_with fail
  rw [rounds_succ]
  clear X0 X1 X2 X3 X4
  have Hs1 := Lib.hid (show (Try.prog.info? 5).map (·.size) = some 1 by kernel_rfl)
  obtain ⟨hd, hhd⟩ : ∃ hd, hd = Pk.le s 6 ++ Pk.le i 3 ++ Pk.le (16 * p + o) 1 ++ Pk.le n 1 ++ Pk.le m.toNat 4 := ⟨_, rfl⟩
  rw [← hhd] at hA7
  have h15 : hd.length = 15 := by rw [hhd]; simp [Pk.le_length]
  have H15 := Lib.hid h15
  have Hhd := Lib.hid hhd
  clear h15 hhd
  have HZ := Lib.hid (Blk.new w7 48 (zrow 60))
  have HA8 := Lib.hid (hA7.alloc (.cells (zrow 60).toArray 48))
  have hs8 : Below w2.heap.size w2 (w7.alloc (.cells (zrow 60).toArray 48)) := hs7.alloc hs7.size _
  have Hmin := Lib.hid (show (bs hd).length = Nat.min 15 60 by rw [bs_length, H15.out]; rfl)
  have Hfit := Lib.hid (show 0 + (bs hd).length ≤ (zrow 60).length by rw [bs_length, H15.out, zrow_length]; decide)
  go_wp2_with (refine wpList_copy rfl (.tmp 46) (.tmp 47) rfl Try.underlying22 Hs1.out w7.heap.size 0 60 60 A7 15 d7 rfl rfl (zrow 60) _ HZ.out (bs hd) HA8.out Hmin.out Hfit.out (one_bs _) ?_)
  have hB9 := HZ.out.row (splice (zrow 60) 0 (bs hd))
  have hs9 := below_setRow hs8 hs7.size (splice (zrow 60) 0 (bs hd)).toArray
  change Code.wp _ _ _ _ ((w7.alloc (.cells (zrow 60).toArray 48)).setRow w7.heap.size (splice (zrow 60) 0 (bs hd)).toArray)
  generalize (w7.alloc (.cells (zrow 60).toArray 48)).setRow w7.heap.size (splice (zrow 60) 0 (bs hd)).toArray = W at hB9 hs9 ⊢
  have G5 : ∀ w', Below w2.heap.size w2 w' → w'.cell? ⟨w.heap.size, 5, none⟩ = some (.slice A n c) := fun w' h => (HB.out.below h HB.out.lt).cell 5
  have HA9 := Lib.hid (HA2.out.below hs9 (Nat.le_refl _))
  have HB9 := Lib.hid hB9
  have Hmin2 := Lib.hid (show (bs l).length = Nat.min n 45 by rw [bs_length, ← Hn.out]; exact (Nat.min_eq_left hn45).symm)
  have Hfit2 := Lib.hid (show 15 + (bs l).length ≤ (splice (zrow 60) 0 (bs hd)).length by rw [bs_length, length_splice _ _ _ Hfit.out, zrow_length]; omega)
  have hs7s := hs7.size
  clear hB9 hA7 hs8 hs7
  refine region_plan (S := fun w' => Below w2.heap.size w2 w') [(true, 0), (true, 1), (true, 2), (false, 3)] (by kernel_rfl) (by kernel_rfl) (by kernel_rfl) rfl hs9.drew ?_
  simp only [planned_nil, planned_cons, nth_zero, nth_succ, Act.put, List.setIfInBounds_toArray, List.set_cons_zero, List.set_cons_succ]
  iterate 3
    refine plan_still2 (v := ?_) (a' := ?_) (by rfl) (fun w' hS' => ?_) ?_ ?_
    rotate_left 2
    (focus (go_simp <;> with_reducible rfl))
    (focus (simp only [Act.put, List.setIfInBounds_toArray, List.set_cons_zero, List.set_cons_succ] <;> rfl))
  refine plan_do (by rfl) (fun K' hK' => ?_)
  refine wp_copy (.tmp 49) (.tmp 51) rfl Try.underlying22 Hs1.out w7.heap.size 15 45 45 A n c rfl rfl _ _ HB9.out.drew (bs l) HA9.out.drew Hmin2.out Hfit2.out (one_bs _) ?_
  have hB10 := HB9.out.drew.row (splice (splice (zrow 60) 0 (bs hd)) 15 (bs l))
  have hs10 := below_setRow hs9.drew hs7s (splice (splice (zrow 60) 0 (bs hd)) 15 (bs l)).toArray
  rw [fb_splice hd l H15.out h9] at hB10 hs10 ⊢
  refine hK'.out _ _ hs10 ?_
  clear hK' K'
  refine plan_nil ?_
  generalize W.drew.setRow w7.heap.size (bs (hd ++ l ++ List.replicate (45 - l.length) 0)).toArray = W2 at hB10 hs10 ⊢
  have HR := Lib.hid (hB10.at_ 0 (bs (hd ++ l ++ List.replicate (45 - l.length) 0)) (fun j u h => by rw [Nat.zero_add]; exact h))
  have Hln := Lib.hid (show (60 : Nat) = (hd ++ l ++ List.replicate (45 - l.length) 0).length by simp [H15.out]; omega)
  have hb10 : Below w.heap.size w W2 := hb3.trans (hs10.mono hb3.size)
  clear G5 hB10
  go_wp2_with fail
  refine (seal_any (some ⟨w7.heap.size, 0, none⟩) (hd ++ l ++ List.replicate (45 - l.length) 0) 60 60 _ HR.out Hln.out (by decide) (by decide)).mono ?_
  rintro e w8 ⟨v, rfl, hown, hb8⟩
  rw [← Hln.out] at hown
  have Hown := Lib.hid hown
  clear hown
  go_wp2_with fail
  go_ret2
  refine ⟨v, rfl, ?_, hb10.trans (hb8.mono hb10.size)⟩
  have e : Fr.bytes ⟨s, i, p, o, m, l⟩ = Crc.seal_ (hd ++ l ++ List.replicate (45 - l.length) 0) := by
    unfold Fr.bytes Fr.raw Fr.hd
    have e1 : (16 * (p : Int) + (o : Int)).toNat = 16 * p + o := by omega
    simp only [Int.toNat_natCast, e1]
    rw [← Hn.out, ← Hhd.out]
  rw [e]
  exact own_mono Hown.out hb10.size

theorem fbytes_yes (f : Fr) (A : Option Addr) (n c : Nat) (w : World) (hA : At w A (bs f.load)) (hn : n = f.load.length) (h : f.ok = true) :
    Calls Try.prog 13 #[.agg #[.int .i64 f.seq, .int .i64 f.inc, .int .i64 f.part, .int .i64 f.of, .int .u32 (n32 f.mark), .slice A n c]] w fun e w' => ∃ v, e = .returned (.tuple #[v, .int .i64 0]) ∧ w'.ownsRow w.heap.size 5 1 v 64 (bs f.bytes) ∧ Below w.heap.size w w' := by
  obtain ⟨h1, h2, h3, h4, h5, h6, h7, h8, h9, h10⟩ := may_parts h
  obtain ⟨s, i, p, o, m, l⟩ := f
  simp only at h1 h3 h5 h7
  obtain ⟨s, rfl⟩ := Int.eq_ofNat_of_zero_le (show 0 ≤ s by omega)
  obtain ⟨i, rfl⟩ := Int.eq_ofNat_of_zero_le h3
  obtain ⟨p, rfl⟩ := Int.eq_ofNat_of_zero_le h7
  obtain ⟨o, rfl⟩ := Int.eq_ofNat_of_zero_le (show 0 ≤ o by omega)
  exact fbytes_nat s i p o m l A n c w hA hn (by rw [hn]; exact h)
end Go.Proofs.Ytcaejcdmkihmbaa
