/- The walk of the law FrameBytes. -/
import Derived.Test.YtcaejcdmkihmbaaFrameH
namespace Go.Proofs.Ytcaejcdmkihmbaa
open Go.RowKit

set_option maxRecDepth 100000 in
set_option maxHeartbeats 2000000 in
theorem great4_any (s i p o m : Int) (A : Option Addr) (n c : Nat) (w : World) :
    Calls Try.prog 12 #[.agg #[.int .i64 s, .int .i64 i, .int .i64 p, .int .i64 o, .int .u32 m, .slice A n c]] w fun e w' => e = .returned (.bool (decide (1000 < n))) ∧ Below w.heap.size w w' := by
  have hb : Below w.heap.size w (w.alloc (.cells (fc s i p o m A n c).toArray 33)) := (Below.refl _ _).alloc (Nat.le_refl _) _
  by_cases h : 1000 < n
  · have h' : (1000 : Int) < (n : Int) := by omega
    rw [decide_eq_true h]
    go_enter Try.func12, Try.ntmps12
    go_wp2_with fail
    go_ret
    exact ⟨rfl, hb⟩
  · have h' : ¬ (1000 : Int) < (n : Int) := by omega
    rw [decide_eq_false h]
    go_enter Try.func12, Try.ntmps12
    go_wp2_with fail
    go_ret
    exact ⟨rfl, hb⟩

set_option maxRecDepth 100000 in
set_option maxHeartbeats 20000000 in
theorem fbl_one (f g : Fr) (A B R : Option Addr) (lb : List UInt8) (nf c ng d nb e : Nat) (w : World) (hA : At w A (bs f.load)) (hB : At w B (bs g.load)) (hR : At w R (bs lb)) (hnf : nf = f.load.length) (hng : ng = g.load.length) (hnb : nb = lb.length) (h1 : 1000 < nf) :
    Calls Try.prog 5 #[.agg #[.int .i64 f.seq, .int .i64 f.inc, .int .i64 f.part, .int .i64 f.of, .int .u32 (n32 f.mark), .slice A nf c], .agg #[.int .i64 g.seq, .int .i64 g.inc, .int .i64 g.part, .int .i64 g.of, .int .u32 (n32 g.mark), .slice B ng d], .slice R nb e] w fun e w' => e = .returned (.bool true) ∧ Below w.heap.size w w' := by
  have H1 := Lib.hid (decide_eq_true h1)
  clear h1
  have HA := Lib.hid hA
  have HB := Lib.hid hB
  have HR := Lib.hid hR
  have Hnf := Lib.hid hnf
  have Hng := Lib.hid hng
  have Hnb := Lib.hid hnb
  obtain ⟨w0, hw0⟩ : ∃ w0, w0 = (w.alloc (.cells (fc f.seq f.inc f.part f.of (n32 f.mark) A nf c).toArray 33)).alloc (.cells (fc g.seq g.inc g.part g.of (n32 g.mark) B ng d).toArray 33) := ⟨_, rfl⟩
  have hb0 : Below w.heap.size w w0 := by rw [hw0]; exact ((Below.refl _ _).alloc (Nat.le_refl _) _).alloc (by rw [World.size_alloc]; omega) _
  have HF0 : Hid (Blk w0 w.heap.size 33 (fc f.seq f.inc f.part f.of (n32 f.mark) A nf c)) := by rw [hw0]; exact (Blk.new _ _ _).alloc _
  have HG0 : Hid (Blk w0 (w.heap.size + 1) 33 (fc g.seq g.inc g.part g.of (n32 g.mark) B ng d)) := by
    rw [hw0]
    have h := Blk.new (w.alloc (.cells (fc f.seq f.inc f.part f.of (n32 f.mark) A nf c).toArray 33)) 33 (fc g.seq g.inc g.part g.of (n32 g.mark) B ng d)
    rwa [World.size_alloc] at h
  have Hw0 := Lib.hid hw0
  clear hA hB hR hnf hng hnb hw0
  go_enter Try.func5, Try.ntmps5
  go_wp2_with fail
  change Calls _ _ _ ((w.alloc (.cells (fc f.seq f.inc f.part f.of (n32 f.mark) A nf c).toArray 33)).alloc (.cells (fc g.seq g.inc g.part g.of (n32 g.mark) B ng d).toArray 33)) _
  rw [← Hw0.out]
  refine (great4_any f.seq f.inc f.part f.of (n32 f.mark) A nf c _).mono ?_
  rintro e' w1 ⟨rfl, hbx⟩
  have hs1 : Below w0.heap.size w0 w1 := hbx
  clear hbx
  rw [H1.out]
  go_wp2_with fail
  refine (wakes4_any _).mono ?_
  rintro e' wz ⟨rfl, hbz⟩
  go_wp2_with fail
  go_ret
  exact ⟨rfl, (hb0.trans (hs1.mono hb0.size)).trans (hbz.mono (hb0.trans (hs1.mono hb0.size)).size)⟩

set_option maxRecDepth 100000 in
set_option maxHeartbeats 20000000 in
theorem fbl_two (f g : Fr) (A B R : Option Addr) (lb : List UInt8) (nf c ng d nb e : Nat) (w : World) (hA : At w A (bs f.load)) (hB : At w B (bs g.load)) (hR : At w R (bs lb)) (hnf : nf = f.load.length) (hng : ng = g.load.length) (hnb : nb = lb.length) (h1 : ¬ 1000 < nf) (h2 : 1000 < ng) :
    Calls Try.prog 5 #[.agg #[.int .i64 f.seq, .int .i64 f.inc, .int .i64 f.part, .int .i64 f.of, .int .u32 (n32 f.mark), .slice A nf c], .agg #[.int .i64 g.seq, .int .i64 g.inc, .int .i64 g.part, .int .i64 g.of, .int .u32 (n32 g.mark), .slice B ng d], .slice R nb e] w fun e w' => e = .returned (.bool true) ∧ Below w.heap.size w w' := by
  have H1 := Lib.hid (decide_eq_false h1)
  have H2 := Lib.hid (decide_eq_true h2)
  clear h1 h2
  have HA := Lib.hid hA
  have HB := Lib.hid hB
  have HR := Lib.hid hR
  have Hnf := Lib.hid hnf
  have Hng := Lib.hid hng
  have Hnb := Lib.hid hnb
  obtain ⟨w0, hw0⟩ : ∃ w0, w0 = (w.alloc (.cells (fc f.seq f.inc f.part f.of (n32 f.mark) A nf c).toArray 33)).alloc (.cells (fc g.seq g.inc g.part g.of (n32 g.mark) B ng d).toArray 33) := ⟨_, rfl⟩
  have hb0 : Below w.heap.size w w0 := by rw [hw0]; exact ((Below.refl _ _).alloc (Nat.le_refl _) _).alloc (by rw [World.size_alloc]; omega) _
  have HF0 : Hid (Blk w0 w.heap.size 33 (fc f.seq f.inc f.part f.of (n32 f.mark) A nf c)) := by rw [hw0]; exact (Blk.new _ _ _).alloc _
  have HG0 : Hid (Blk w0 (w.heap.size + 1) 33 (fc g.seq g.inc g.part g.of (n32 g.mark) B ng d)) := by
    rw [hw0]
    have h := Blk.new (w.alloc (.cells (fc f.seq f.inc f.part f.of (n32 f.mark) A nf c).toArray 33)) 33 (fc g.seq g.inc g.part g.of (n32 g.mark) B ng d)
    rwa [World.size_alloc] at h
  have Hw0 := Lib.hid hw0
  clear hA hB hR hnf hng hnb hw0
  go_enter Try.func5, Try.ntmps5
  go_wp2_with fail
  change Calls _ _ _ ((w.alloc (.cells (fc f.seq f.inc f.part f.of (n32 f.mark) A nf c).toArray 33)).alloc (.cells (fc g.seq g.inc g.part g.of (n32 g.mark) B ng d).toArray 33)) _
  rw [← Hw0.out]
  refine (great4_any f.seq f.inc f.part f.of (n32 f.mark) A nf c _).mono ?_
  rintro e' w1 ⟨rfl, hbx⟩
  have hs1 : Below w0.heap.size w0 w1 := hbx
  clear hbx
  rw [H1.out]
  obtain ⟨c0, c1, c2, c3, c4, c5⟩ := fc_cells (HG0.out.below hs1 HG0.out.lt)
  go_wp2_with fail
  refine (great4_any g.seq g.inc g.part g.of (n32 g.mark) B ng d _).mono ?_
  rintro e' w2 ⟨rfl, hbx⟩
  have hs2 : Below w0.heap.size w0 w2 := hs1.trans (hbx.mono hs1.size)
  clear hbx c0 c1 c2 c3 c4 c5
  rw [H2.out]
  go_wp2_with fail
  refine (wakes4_any _).mono ?_
  rintro e' wz ⟨rfl, hbz⟩
  go_wp2_with fail
  go_ret
  exact ⟨rfl, (hb0.trans (hs2.mono hb0.size)).trans (hbz.mono (hb0.trans (hs2.mono hb0.size)).size)⟩

set_option maxRecDepth 100000 in
set_option maxHeartbeats 20000000 in
theorem fbl_three (f g : Fr) (A B R : Option Addr) (lb : List UInt8) (nf c ng d nb e : Nat) (w : World) (hA : At w A (bs f.load)) (hB : At w B (bs g.load)) (hR : At w R (bs lb)) (hnf : nf = f.load.length) (hng : ng = g.load.length) (hnb : nb = lb.length) (h1 : ¬ 1000 < nf) (h2 : ¬ 1000 < ng) (h3 : 1000 < nb) :
    Calls Try.prog 5 #[.agg #[.int .i64 f.seq, .int .i64 f.inc, .int .i64 f.part, .int .i64 f.of, .int .u32 (n32 f.mark), .slice A nf c], .agg #[.int .i64 g.seq, .int .i64 g.inc, .int .i64 g.part, .int .i64 g.of, .int .u32 (n32 g.mark), .slice B ng d], .slice R nb e] w fun e w' => e = .returned (.bool true) ∧ Below w.heap.size w w' := by
  have H1 := Lib.hid (decide_eq_false h1)
  have H2 := Lib.hid (decide_eq_false h2)
  have h3' : (1000 : Int) < (nb : Int) := by omega
  clear h1 h2 h3
  have HA := Lib.hid hA
  have HB := Lib.hid hB
  have HR := Lib.hid hR
  have Hnf := Lib.hid hnf
  have Hng := Lib.hid hng
  have Hnb := Lib.hid hnb
  obtain ⟨w0, hw0⟩ : ∃ w0, w0 = (w.alloc (.cells (fc f.seq f.inc f.part f.of (n32 f.mark) A nf c).toArray 33)).alloc (.cells (fc g.seq g.inc g.part g.of (n32 g.mark) B ng d).toArray 33) := ⟨_, rfl⟩
  have hb0 : Below w.heap.size w w0 := by rw [hw0]; exact ((Below.refl _ _).alloc (Nat.le_refl _) _).alloc (by rw [World.size_alloc]; omega) _
  have HF0 : Hid (Blk w0 w.heap.size 33 (fc f.seq f.inc f.part f.of (n32 f.mark) A nf c)) := by rw [hw0]; exact (Blk.new _ _ _).alloc _
  have HG0 : Hid (Blk w0 (w.heap.size + 1) 33 (fc g.seq g.inc g.part g.of (n32 g.mark) B ng d)) := by
    rw [hw0]
    have h := Blk.new (w.alloc (.cells (fc f.seq f.inc f.part f.of (n32 f.mark) A nf c).toArray 33)) 33 (fc g.seq g.inc g.part g.of (n32 g.mark) B ng d)
    rwa [World.size_alloc] at h
  have Hw0 := Lib.hid hw0
  clear hA hB hR hnf hng hnb hw0
  go_enter Try.func5, Try.ntmps5
  go_wp2_with fail
  change Calls _ _ _ ((w.alloc (.cells (fc f.seq f.inc f.part f.of (n32 f.mark) A nf c).toArray 33)).alloc (.cells (fc g.seq g.inc g.part g.of (n32 g.mark) B ng d).toArray 33)) _
  rw [← Hw0.out]
  refine (great4_any f.seq f.inc f.part f.of (n32 f.mark) A nf c _).mono ?_
  rintro e' w1 ⟨rfl, hbx⟩
  have hs1 : Below w0.heap.size w0 w1 := hbx
  clear hbx
  rw [H1.out]
  obtain ⟨c0, c1, c2, c3, c4, c5⟩ := fc_cells (HG0.out.below hs1 HG0.out.lt)
  go_wp2_with fail
  refine (great4_any g.seq g.inc g.part g.of (n32 g.mark) B ng d _).mono ?_
  rintro e' w2 ⟨rfl, hbx⟩
  have hs2 : Below w0.heap.size w0 w2 := hs1.trans (hbx.mono hs1.size)
  clear hbx c0 c1 c2 c3 c4 c5
  rw [H2.out]
  go_wp2_with fail
  refine (wakes4_any _).mono ?_
  rintro e' wz ⟨rfl, hbz⟩
  go_wp2_with fail
  go_ret
  exact ⟨rfl, (hb0.trans (hs2.mono hb0.size)).trans (hbz.mono (hb0.trans (hs2.mono hb0.size)).size)⟩

set_option maxRecDepth 100000 in
set_option maxHeartbeats 20000000 in
theorem fbl_main (f g : Fr) (A B R : Option Addr) (lb : List UInt8) (nf c ng d nb e : Nat) (w : World) (hA : At w A (bs f.load)) (hB : At w B (bs g.load)) (hR : At w R (bs lb)) (hnf : nf = f.load.length) (hng : ng = g.load.length) (hnb : nb = lb.length) (he : nb ≤ e) (h1 : ¬ 1000 < nf) (h2 : ¬ 1000 < ng) (h3 : ¬ 1000 < nb) :
    Calls Try.prog 5 #[.agg #[.int .i64 f.seq, .int .i64 f.inc, .int .i64 f.part, .int .i64 f.of, .int .u32 (n32 f.mark), .slice A nf c], .agg #[.int .i64 g.seq, .int .i64 g.inc, .int .i64 g.part, .int .i64 g.of, .int .u32 (n32 g.mark), .slice B ng d], .slice R nb e] w fun e w' => e = .returned (.bool true) ∧ Below w.heap.size w w' := by
  have H1 := Lib.hid (decide_eq_false h1)
  have H2 := Lib.hid (decide_eq_false h2)
  have h3' : ¬ (1000 : Int) < (nb : Int) := by omega
  have h4 : nf ≤ 1000 := by omega
  have h5 : nb ≤ 1000 := by omega
  clear h1 h2 h3
  have HA := Lib.hid hA
  have HB := Lib.hid hB
  have HR := Lib.hid hR
  have Hnf := Lib.hid hnf
  have Hng := Lib.hid hng
  have Hnb := Lib.hid hnb
  obtain ⟨w0, hw0⟩ : ∃ w0, w0 = (w.alloc (.cells (fc f.seq f.inc f.part f.of (n32 f.mark) A nf c).toArray 33)).alloc (.cells (fc g.seq g.inc g.part g.of (n32 g.mark) B ng d).toArray 33) := ⟨_, rfl⟩
  have hb0 : Below w.heap.size w w0 := by rw [hw0]; exact ((Below.refl _ _).alloc (Nat.le_refl _) _).alloc (by rw [World.size_alloc]; omega) _
  have HF0 : Hid (Blk w0 w.heap.size 33 (fc f.seq f.inc f.part f.of (n32 f.mark) A nf c)) := by rw [hw0]; exact (Blk.new _ _ _).alloc _
  have HG0 : Hid (Blk w0 (w.heap.size + 1) 33 (fc g.seq g.inc g.part g.of (n32 g.mark) B ng d)) := by
    rw [hw0]
    have h := Blk.new (w.alloc (.cells (fc f.seq f.inc f.part f.of (n32 f.mark) A nf c).toArray 33)) 33 (fc g.seq g.inc g.part g.of (n32 g.mark) B ng d)
    rwa [World.size_alloc] at h
  have Hw0 := Lib.hid hw0
  clear hA hB hR hnf hng hnb hw0
  go_enter Try.func5, Try.ntmps5
  go_wp2_with fail
  change Calls _ _ _ ((w.alloc (.cells (fc f.seq f.inc f.part f.of (n32 f.mark) A nf c).toArray 33)).alloc (.cells (fc g.seq g.inc g.part g.of (n32 g.mark) B ng d).toArray 33)) _
  rw [← Hw0.out]
  refine (great4_any f.seq f.inc f.part f.of (n32 f.mark) A nf c _).mono ?_
  rintro e' w1 ⟨rfl, hbx⟩
  have hs1 : Below w0.heap.size w0 w1 := hbx
  clear hbx
  rw [H1.out]
  obtain ⟨c0, c1, c2, c3, c4, c5⟩ := fc_cells (HG0.out.below hs1 HG0.out.lt)
  go_wp2_with fail
  refine (great4_any g.seq g.inc g.part g.of (n32 g.mark) B ng d _).mono ?_
  rintro e' w2 ⟨rfl, hbx⟩
  have hs2 : Below w0.heap.size w0 w2 := hs1.trans (hbx.mono hs1.size)
  clear hbx c0 c1 c2 c3 c4 c5
  rw [H2.out]
  have hF2 := fc_cells (HF0.out.below hs2 HF0.out.lt)
  obtain ⟨c0, c1, c2, c3, c4, c5⟩ := hF2
  have HA2 := Lib.hid (HA.out.below (hb0.trans (hs2.mono hb0.size)) (Nat.le_refl _))
  go_wp2_with fail
  refine (bytes_one f A nf c _ HA2.out Hnf.out (by omega)).mono ?_
  rintro e' w3 ⟨Ax, cx, rfl, hAx, hbx⟩
  have hs3 : Below w0.heap.size w0 w3 := hs2.trans (hbx.mono hs2.size)
  have HAx := Lib.hid hAx
  clear hbx c0 c1 c2 c3 c4 c5 hAx hs2 HA2
  obtain ⟨c0, c1, c2, c3, c4, c5⟩ := fc_cells (HF0.out.below hs3 HF0.out.lt)
  have HA3 := Lib.hid (HA.out.below (hb0.trans (hs3.mono hb0.size)) (Nat.le_refl _))
  obtain ⟨bx, hbxe⟩ : ∃ bx, bx = f.bytesE := ⟨_, rfl⟩
  obtain ⟨ex, hexe⟩ : ∃ ex, ex = f.errE := ⟨_, rfl⟩
  rw [← hbxe] at HAx
  rw [← hbxe, ← hexe]
  have Hbx := Lib.hid hbxe
  have Hex := Lib.hid hexe
  obtain ⟨nx, hnx⟩ : ∃ nx, nx = bx.length := ⟨_, rfl⟩
  rw [← hnx]
  have Hnx := Lib.hid hnx
  clear hbxe hexe hnx
  go_wp2_with fail
  refine (rbytes_one f A nf c _ HA3.out Hnf.out (by omega)).mono ?_
  rintro e' w4' ⟨Ay, cy, rfl, hAy, hbx⟩
  rw [← Hbx.out] at hAy
  rw [← Hbx.out, ← Hex.out, ← Hnx.out]
  have hs4 : Below w0.heap.size w0 w4' := hs3.trans (hbx.mono hs3.size)
  have HAy := Lib.hid hAy
  have HAx4 := Lib.hid (HAx.out.below hbx (Nat.le_refl _))
  have HR4 := Lib.hid (HR.out.below (hb0.trans (hs4.mono hb0.size)) (Nat.le_refl _))
  clear hbx c0 c1 c2 c3 c4 c5 hAy hs3 HAx HA3
  go_wp2_with fail
  refine (fread_any R lb nb e _ HR4.out Hnb.out he (by omega)).mono ?_
  intro e' w4 hx
  obtain ⟨Br, dr, rfl, hBr, hbx⟩ := reads_one hx
  obtain ⟨r, hr⟩ : ∃ r, r = Fr.readE lb := ⟨_, rfl⟩
  obtain ⟨ei, hei⟩ : ∃ ei, ei = Fr.readX lb := ⟨_, rfl⟩
  rw [← hr] at hBr
  rw [← hr, ← hei]
  have Hr := Lib.hid hr
  have Hei := Lib.hid hei
  obtain ⟨rl, hrl⟩ : ∃ rl, rl = r.load.length := ⟨_, rfl⟩
  rw [← hrl]
  have Hrl := Lib.hid hrl
  have hs5 : Below w0.heap.size w0 w4 := hs4.trans (hbx.mono hs4.size)
  have HBr := Lib.hid (hBr.alloc (.cells (fc r.seq r.inc r.part r.of (n32 r.mark) Br rl dr).toArray 33))
  have HAx5 := Lib.hid ((HAx4.out.below hbx (Nat.le_refl _)).alloc (.cells (fc r.seq r.inc r.part r.of (n32 r.mark) Br rl dr).toArray 33))
  have HAy5 := Lib.hid ((HAy.out.below hbx (Nat.le_refl _)).alloc (.cells (fc r.seq r.inc r.part r.of (n32 r.mark) Br rl dr).toArray 33))
  have hs6 : Below w0.heap.size w0 (w4.alloc (.cells (fc r.seq r.inc r.part r.of (n32 r.mark) Br rl dr).toArray 33)) := hs5.alloc hs5.size _
  have HRb := Lib.hid (Blk.new w4 33 (fc r.seq r.inc r.part r.of (n32 r.mark) Br rl dr))
  have HR6 := Lib.hid (HR.out.below (hb0.trans (hs6.mono hb0.size)) (Nat.le_refl _))
  clear hbx hx hBr hr hei hrl hs4 hs5 HAx4 HAy HR4
  go_wp2_with (refine wpList_frame_new rfl (.tmp 11) (.tmp 40) rfl rfl r.seq r.inc r.part r.of (n32 r.mark) Br rl dr rfl ?_)
  refine (rfread_any R lb nb e _ HR6.out Hnb.out he (by omega)).mono ?_
  intro e' w5 hx
  obtain ⟨Bs, ds, rfl, hBs, hbx⟩ := reads_one hx
  rw [← Hr.out] at hBs
  rw [← Hr.out, ← Hei.out, ← Hrl.out]
  have hs7 : Below w0.heap.size w0 w5 := hs6.trans (hbx.mono hs6.size)
  have hbr : Below (w4.alloc (.cells (fc r.seq r.inc r.part r.of (n32 r.mark) Br rl dr).toArray 33)).heap.size (w4.alloc (.cells (fc r.seq r.inc r.part r.of (n32 r.mark) Br rl dr).toArray 33)) w5 := hbx
  have HRb5 := Lib.hid ((HRb.out.below hbr HRb.out.lt).alloc (.cells (fc r.seq r.inc r.part r.of (n32 r.mark) Bs rl ds).toArray 33))
  have HBr5 := Lib.hid ((HBr.out.below hbr (Nat.le_refl _)).alloc (.cells (fc r.seq r.inc r.part r.of (n32 r.mark) Bs rl ds).toArray 33))
  have HAx6 := Lib.hid ((HAx5.out.below hbr (Nat.le_refl _)).alloc (.cells (fc r.seq r.inc r.part r.of (n32 r.mark) Bs rl ds).toArray 33))
  have HAy6 := Lib.hid ((HAy5.out.below hbr (Nat.le_refl _)).alloc (.cells (fc r.seq r.inc r.part r.of (n32 r.mark) Bs rl ds).toArray 33))
  have HBs5 := Lib.hid (hBs.alloc (.cells (fc r.seq r.inc r.part r.of (n32 r.mark) Bs rl ds).toArray 33))
  have HQb := Lib.hid (Blk.new w5 33 (fc r.seq r.inc r.part r.of (n32 r.mark) Bs rl ds))
  have hs8 : Below w0.heap.size w0 (w5.alloc (.cells (fc r.seq r.inc r.part r.of (n32 r.mark) Bs rl ds).toArray 33)) := hs7.alloc hs7.size _
  clear hx hbx hbr hBs hs6 hs7 HRb HBr HAx5 HAy5 HR6
  go_wp2_with (refine wpList_frame_new rfl (.tmp 13) (.tmp 45) rfl rfl r.seq r.inc r.part r.of (n32 r.mark) Bs rl ds rfl ?_)
  change Code.wp _ _ _ _ (w5.alloc (.cells (fc r.seq r.inc r.part r.of (n32 r.mark) Bs rl ds).toArray 33))
  generalize w5.alloc (.cells (fc r.seq r.inc r.part r.of (n32 r.mark) Bs rl ds).toArray 33) = W at HRb5 HBr5 HAx6 HAy6 HBs5 HQb hs8 ⊢
  have hat := fun (b : Nat) (cs : List Value) (h : Blk W b 33 cs) => h.at_ 0 cs (fun j u h => by rw [Nat.zero_add]; exact h)
  have HRa := Lib.hid (hat _ _ HRb5.out)
  have HQa := Lib.hid (hat _ _ HQb.out)
  have HFa := Lib.hid (hat _ _ (HF0.out.below hs8 HF0.out.lt))
  have HGa := Lib.hid (hat _ _ (HG0.out.below hs8 HG0.out.lt))
  have hbW : Below w.heap.size w W := hb0.trans (hs8.mono hb0.size)
  have HAW := Lib.hid (HA.out.below hbW (Nat.le_refl _))
  have HBW := Lib.hid (HB.out.below hbW (Nat.le_refl _))
  have HI := Lib.hid (show (Try.prog.info? 33).map (·.size) = some 6 by kernel_rfl)
  have cv1 : ∀ w', Below W.heap.size W w' → (convert 22 9 (.slice Ax nx cx)).run Try.prog w' = .ok (.string (str bx)) w' := fun w' h => convStr w' Ax nx cx bx (HAx6.out.below h (Nat.le_refl _)) Hnx.out
  have cv2 : ∀ w', Below W.heap.size W w' → (convert 22 9 (.slice Ay nx cy)).run Try.prog w' = .ok (.string (str bx)) w' := fun w' h => convStr w' Ay nx cy bx (HAy6.out.below h (Nat.le_refl _)) Hnx.out
  have hbwd : Below W.heap.size W W.drew := (Below.refl _ _).drew
  clear hat hs8 HRb5 HQb HAx6 HAy6 hb0
  refine region_plan (S := fun w' => Below W.heap.size W w') [(true, 0), (true, 1), (true, 2), (true, 3), (true, 4), (true, 5), (true, 6), (true, 7), (true, 8), (true, 9), (true, 10), (true, 11), (true, 12), (false, 13), (true, 14), (true, 15), (true, 16), (true, 17), (true, 18), (true, 19), (true, 20), (true, 21), (true, 23), (false, 22), (false, 24), (true, 25), (true, 26), (true, 27), (true, 28), (true, 29), (true, 31), (true, 32), (false, 30), (false, 33), (true, 34), (true, 35), (true, 36), (false, 37), (true, 38), (true, 39)] (by kernel_rfl) (by kernel_rfl) (by kernel_rfl) rfl hbwd ?_
  simp only [planned_nil, planned_cons, nth_zero, nth_succ]
  iterate 11
    first
      | (refine plan_still2 (v := ?_) (a' := ?_) (by rfl) (fun w' hS' => ?_) ?_ ?_; rotate_left 2; (focus (go_simp <;> with_reducible rfl)); (focus (simp only [Act.put, List.setIfInBounds_toArray, List.set_cons_zero, List.set_cons_succ] <;> rfl)))
      | (refine plan_skip2 (a' := ?_) (by rfl) ?_ ?_; rotate_left 1; (focus (simp only [Act.put, List.setIfInBounds_toArray, List.set_cons_zero, List.set_cons_succ] <;> rfl)))
  refine plan_still2 (v := .agg #[.int .i64 r.seq, .int .i64 r.inc, .int .i64 r.part, .int .i64 r.of, .int .u32 (n32 r.mark), .slice Br rl dr]) (a' := ?_) (by rfl) (fun w' hS' => exec_load_at 33 (.tmp 11) rfl w4.heap.size 0 rfl (fc r.seq r.inc r.part r.of (n32 r.mark) Br rl dr) _ (HRa.out.below hS' (Nat.le_refl _)) (Nat.zero_lt_succ _) Try.underlying33 rfl HI.out) ?_ ?_
  rotate_left 1
  (focus (simp only [Act.put, List.setIfInBounds_toArray, List.set_cons_zero, List.set_cons_succ] <;> rfl))
  refine plan_still2 (v := .agg #[.int .i64 r.seq, .int .i64 r.inc, .int .i64 r.part, .int .i64 r.of, .int .u32 (n32 r.mark), .slice Bs rl ds]) (a' := ?_) (by rfl) (fun w' hS' => exec_load_at 33 (.tmp 13) rfl w5.heap.size 0 rfl (fc r.seq r.inc r.part r.of (n32 r.mark) Bs rl ds) _ (HQa.out.below hS' (Nat.le_refl _)) (Nat.zero_lt_succ _) Try.underlying33 rfl HI.out) ?_ ?_
  rotate_left 1
  (focus (simp only [Act.put, List.setIfInBounds_toArray, List.set_cons_zero, List.set_cons_succ] <;> rfl))
  refine plan_do (by rfl) (fun K' hK' => ?_)
  go_simp
  refine (rsame_any r r Br Bs rl dr rl ds _ (HBr5.out.below hbwd (Nat.le_refl _)) (HBs5.out.below hbwd (Nat.le_refl _)) Hrl.out Hrl.out).mono ?_
  rw [same_self]
  rintro e' x1 ⟨rfl, hx⟩
  have hx1 : Below W.heap.size W x1 := hbwd.trans (hx.mono hbwd.size)
  refine hK'.out _ _ hx1 ?_
  clear hK' K' hx
  iterate 7
    first
      | (refine plan_still2 (v := ?_) (a' := ?_) (by rfl) (fun w' hS' => ?_) ?_ ?_; rotate_left 2; (focus (go_simp <;> with_reducible rfl)); (focus (simp only [Act.put, List.setIfInBounds_toArray, List.set_cons_zero, List.set_cons_succ] <;> rfl)))
      | (refine plan_skip2 (a' := ?_) (by rfl) ?_ ?_; rotate_left 1; (focus (simp only [Act.put, List.setIfInBounds_toArray, List.set_cons_zero, List.set_cons_succ] <;> rfl)))
  refine plan_still2 (v := .agg #[.int .i64 f.seq, .int .i64 f.inc, .int .i64 f.part, .int .i64 f.of, .int .u32 (n32 f.mark), .slice A nf c]) (a' := ?_) (by rfl) (fun w' hS' => exec_load_at 33 (.tmp 3) rfl w.heap.size 0 rfl (fc f.seq f.inc f.part f.of (n32 f.mark) A nf c) _ (HFa.out.below hS' (Nat.le_refl _)) (Nat.zero_lt_succ _) Try.underlying33 rfl HI.out) ?_ ?_
  rotate_left 1
  (focus (simp only [Act.put, List.setIfInBounds_toArray, List.set_cons_zero, List.set_cons_succ] <;> rfl))
  refine plan_still2 (v := .agg #[.int .i64 f.seq, .int .i64 f.inc, .int .i64 f.part, .int .i64 f.of, .int .u32 (n32 f.mark), .slice A nf c]) (a' := ?_) (by rfl) (fun w' hS' => exec_load_at 33 (.tmp 3) rfl w.heap.size 0 rfl (fc f.seq f.inc f.part f.of (n32 f.mark) A nf c) _ (HFa.out.below hS' (Nat.le_refl _)) (Nat.zero_lt_succ _) Try.underlying33 rfl HI.out) ?_ ?_
  rotate_left 1
  (focus (simp only [Act.put, List.setIfInBounds_toArray, List.set_cons_zero, List.set_cons_succ] <;> rfl))
  refine plan_do (by rfl) (fun K' hK' => ?_)
  go_simp
  refine (fmay_any f.seq f.inc f.part f.of (n32 f.mark) A nf c _ (by omega)).mono ?_
  rintro e' x2 ⟨rfl, hx⟩
  have hx2 : Below W.heap.size W x2 := hx1.trans (hx.mono hx1.size)
  refine hK'.out _ _ hx2 ?_
  clear hK' K' hx
  refine plan_do (by rfl) (fun K' hK' => ?_)
  go_simp
  refine (rmay_any f.seq f.inc f.part f.of (n32 f.mark) A nf c _ (by omega)).mono ?_
  rintro e' x3 ⟨rfl, hx⟩
  have hx3 : Below W.heap.size W x3 := hx2.trans (hx.mono hx2.size)
  refine hK'.out _ _ hx3 ?_
  clear hK' K' hx
  iterate 3
    first
      | (refine plan_still2 (v := ?_) (a' := ?_) (by rfl) (fun w' hS' => ?_) ?_ ?_; rotate_left 2; (focus (go_simp <;> with_reducible rfl)); (focus (simp only [Act.put, List.setIfInBounds_toArray, List.set_cons_zero, List.set_cons_succ] <;> rfl)))
      | (refine plan_skip2 (a' := ?_) (by rfl) ?_ ?_; rotate_left 1; (focus (simp only [Act.put, List.setIfInBounds_toArray, List.set_cons_zero, List.set_cons_succ] <;> rfl)))
  refine plan_still2 (v := .agg #[.int .i64 f.seq, .int .i64 f.inc, .int .i64 f.part, .int .i64 f.of, .int .u32 (n32 f.mark), .slice A nf c]) (a' := ?_) (by rfl) (fun w' hS' => exec_load_at 33 (.tmp 3) rfl w.heap.size 0 rfl (fc f.seq f.inc f.part f.of (n32 f.mark) A nf c) _ (HFa.out.below hS' (Nat.le_refl _)) (Nat.zero_lt_succ _) Try.underlying33 rfl HI.out) ?_ ?_
  rotate_left 1
  (focus (simp only [Act.put, List.setIfInBounds_toArray, List.set_cons_zero, List.set_cons_succ] <;> rfl))
  refine plan_still2 (v := .agg #[.int .i64 g.seq, .int .i64 g.inc, .int .i64 g.part, .int .i64 g.of, .int .u32 (n32 g.mark), .slice B ng d]) (a' := ?_) (by rfl) (fun w' hS' => exec_load_at 33 (.tmp 4) rfl (w.heap.size + 1) 0 rfl (fc g.seq g.inc g.part g.of (n32 g.mark) B ng d) _ (HGa.out.below hS' (Nat.le_refl _)) (Nat.zero_lt_succ _) Try.underlying33 rfl HI.out) ?_ ?_
  rotate_left 1
  (focus (simp only [Act.put, List.setIfInBounds_toArray, List.set_cons_zero, List.set_cons_succ] <;> rfl))
  refine plan_still2 (v := .agg #[.int .i64 f.seq, .int .i64 f.inc, .int .i64 f.part, .int .i64 f.of, .int .u32 (n32 f.mark), .slice A nf c]) (a' := ?_) (by rfl) (fun w' hS' => exec_load_at 33 (.tmp 3) rfl w.heap.size 0 rfl (fc f.seq f.inc f.part f.of (n32 f.mark) A nf c) _ (HFa.out.below hS' (Nat.le_refl _)) (Nat.zero_lt_succ _) Try.underlying33 rfl HI.out) ?_ ?_
  rotate_left 1
  (focus (simp only [Act.put, List.setIfInBounds_toArray, List.set_cons_zero, List.set_cons_succ] <;> rfl))
  refine plan_still2 (v := .agg #[.int .i64 g.seq, .int .i64 g.inc, .int .i64 g.part, .int .i64 g.of, .int .u32 (n32 g.mark), .slice B ng d]) (a' := ?_) (by rfl) (fun w' hS' => exec_load_at 33 (.tmp 4) rfl (w.heap.size + 1) 0 rfl (fc g.seq g.inc g.part g.of (n32 g.mark) B ng d) _ (HGa.out.below hS' (Nat.le_refl _)) (Nat.zero_lt_succ _) Try.underlying33 rfl HI.out) ?_ ?_
  rotate_left 1
  (focus (simp only [Act.put, List.setIfInBounds_toArray, List.set_cons_zero, List.set_cons_succ] <;> rfl))
  refine plan_do (by rfl) (fun K' hK' => ?_)
  go_simp
  refine (fsame_any f g A B nf c ng d _ (HAW.out.below hx3 (Nat.le_refl _)) (HBW.out.below hx3 (Nat.le_refl _)) Hnf.out Hng.out).mono ?_
  rintro e' x4 ⟨rfl, hx⟩
  have hx4 : Below W.heap.size W x4 := hx3.trans (hx.mono hx3.size)
  refine hK'.out _ _ hx4 ?_
  clear hK' K' hx
  refine plan_do (by rfl) (fun K' hK' => ?_)
  go_simp
  refine (rsame_any f g A B nf c ng d _ (HAW.out.below hx4 (Nat.le_refl _)) (HBW.out.below hx4 (Nat.le_refl _)) Hnf.out Hng.out).mono ?_
  rintro e' x5 ⟨rfl, hx⟩
  have hx5 : Below W.heap.size W x5 := hx4.trans (hx.mono hx4.size)
  refine hK'.out _ _ hx5 ?_
  clear hK' K' hx
  iterate 3
    first
      | (refine plan_still2 (v := ?_) (a' := ?_) (by rfl) (fun w' hS' => ?_) ?_ ?_; rotate_left 2; (focus (go_simp <;> with_reducible rfl)); (focus (simp only [Act.put, List.setIfInBounds_toArray, List.set_cons_zero, List.set_cons_succ] <;> rfl)))
      | (refine plan_skip2 (a' := ?_) (by rfl) ?_ ?_; rotate_left 1; (focus (simp only [Act.put, List.setIfInBounds_toArray, List.set_cons_zero, List.set_cons_succ] <;> rfl)))
  refine plan_do (by rfl) (fun K' hK' => ?_)
  go_simp
  refine (wakes4_any _).mono ?_
  rintro e' x6 ⟨rfl, hx⟩
  have hx6 : Below W.heap.size W x6 := hx5.trans (hx.mono hx5.size)
  refine hK'.out _ _ hx6 ?_
  clear hK' K' hx
  iterate 2
    first
      | (refine plan_still2 (v := ?_) (a' := ?_) (by rfl) (fun w' hS' => ?_) ?_ ?_; rotate_left 2; (focus (go_simp <;> with_reducible rfl)); (focus (simp only [Act.put, List.setIfInBounds_toArray, List.set_cons_zero, List.set_cons_succ] <;> rfl)))
      | (refine plan_skip2 (a' := ?_) (by rfl) ?_ ?_; rotate_left 1; (focus (simp only [Act.put, List.setIfInBounds_toArray, List.set_cons_zero, List.set_cons_succ] <;> rfl)))
  refine plan_nil ?_
  have hfin := hbW.trans (hx6.mono hbW.size)
  clear cv1 cv2
  go_wp2_with fail
  go_ret
  exact ⟨rfl, hfin⟩

theorem fbl_any (f g : Fr) (A B R : Option Addr) (lb : List UInt8) (nf c ng d nb e : Nat) (w : World) (hA : At w A (bs f.load)) (hB : At w B (bs g.load)) (hR : At w R (bs lb)) (hnf : nf = f.load.length) (hng : ng = g.load.length) (hnb : nb = lb.length) (he : nb ≤ e) :
    Calls Try.prog 5 #[.agg #[.int .i64 f.seq, .int .i64 f.inc, .int .i64 f.part, .int .i64 f.of, .int .u32 (n32 f.mark), .slice A nf c], .agg #[.int .i64 g.seq, .int .i64 g.inc, .int .i64 g.part, .int .i64 g.of, .int .u32 (n32 g.mark), .slice B ng d], .slice R nb e] w fun e w' => e = .returned (.bool true) ∧ Below w.heap.size w w' := by
  by_cases h1 : 1000 < nf
  · exact fbl_one f g A B R lb nf c ng d nb e w hA hB hR hnf hng hnb h1
  · by_cases h2 : 1000 < ng
    · exact fbl_two f g A B R lb nf c ng d nb e w hA hB hR hnf hng hnb h1 h2
    · by_cases h3 : 1000 < nb
      · exact fbl_three f g A B R lb nf c ng d nb e w hA hB hR hnf hng hnb h1 h2 h3
      · exact fbl_main f g A B R lb nf c ng d nb e w hA hB hR hnf hng hnb he h1 h2 h3
end Go.Proofs.Ytcaejcdmkihmbaa
