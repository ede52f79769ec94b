/- The walk of the law FrameBack: a record that is not cut. -/
import Derived.Test.YtcaejcdmkihmbaaFrameK
namespace Go.Proofs.Ytcaejcdmkihmbaa
open Go.RowKit

set_option maxRecDepth 100000 in
set_option maxHeartbeats 4000000 in
theorem fback_no (A R : Option Addr) (raw : List UInt8) (n c nr cr : Nat) (seq inc bits_ at_ : Int) (w : World) (hR : At w R (bs raw)) (hnr : nr = raw.length) (hcr : nr ≤ cr) (hn : n ≤ 90) (hr : nr ≤ 1000)
    (hno : Fr.cutOk n seq inc = false) (hs1 : -9223372036854775808 ≤ seq) (hs2 : seq ≤ 9223372036854775807) :
    Calls Try.prog 6 #[.slice A n c, .int .i64 seq, .int .i64 inc, .int .u32 bits_, .int .i64 at_, .slice R nr cr] w fun e w' => e = .returned (.bool true) ∧ Below w.heap.size w w' := by
  have HR := Lib.hid hR
  have Hnr := Lib.hid hnr
  have HS1 := Lib.hid hs1
  have HS2 := Lib.hid hs2
  have Hno := Lib.hid hno
  have h1 : ¬ (90 : Int) < (n : Int) := by omega
  have h2 : ¬ (1000 : Int) < (nr : Int) := by omega
  have hb : Below w.heap.size w w := Below.refl _ _
  clear hR hnr hs1 hs2 hno
  go_enter Try.func6, Try.ntmps6
  go_wp2_with fail
  refine (cut_no A n c seq inc _ (by omega) Hno.out HS1.out HS2.out).mono ?_
  rintro e w2 ⟨x, rfl, hx, rfl⟩
  go_wp2_with fail
  have HRx := Lib.hid (HR.out.below hb (Nat.le_refl _))
  refine (fread_any R raw nr cr _ HRx.out Hnr.out hcr (by omega)).mono ?_
  rintro e wa ⟨hx, hba⟩
  have hb0a := hb.trans (hba.mono (hb).size)
  rcases hx with ⟨f, B, d, rfl, hf, hd, hB, -⟩ | ⟨rfl, -⟩
  · obtain ⟨hfok, hfb, -⟩ := read_some hf
    have Hfok := Lib.hid hfok
    have Hfb := Lib.hid hfb
    have HBa := Lib.hid (hB.alloc (.cells (fc f.seq f.inc f.part f.of (n32 f.mark) B f.load.length d).toArray 33))
    have hb0c : Below w.heap.size w (wa.alloc (.cells (fc f.seq f.inc f.part f.of (n32 f.mark) B f.load.length d).toArray 33)) := hb0a.alloc hb0a.size _
    clear hfok hfb hf hd hB
    go_wp2_with (refine wpList_frame_new rfl (.tmp 29) (.tmp 161) rfl rfl f.seq f.inc f.part f.of (n32 f.mark) B f.load.length d rfl ?_)
    refine (fbytes_yes f B _ d _ HBa.out rfl Hfok.out).mono ?_
    rintro e wb ⟨v, rfl, hown, hbb⟩
    rw [Hfb.out] at hown
    have H64 : Hid (64 = raw.length) := by have := hown.1; rw [bs_length] at this; show 64 = raw.length; omega
    obtain ⟨Av, cv, rfl, -, -, hAv⟩ := own_at hown
    have hb0b := hb0c.trans (hbb.mono hb0c.size)
    have k1 := fun (c : Nat) => convStr wb Av 64 c raw hAv H64.out
    have k2 := convStr wb R nr cr raw (HR.out.below hb0b (Nat.le_refl _)) Hnr.out
    have k3 : ((str raw).toList == (str raw).toList) = true := by simp
    clear hown hAv hb0c
    go_wp2_with fail
    refine (wakes4_any _).mono ?_
    rintro e wz ⟨rfl, hbz⟩
    have hb0z := hb0b.trans (hbz.mono hb0b.size)
    clear k1 k2
    go_wp2_with fail
    go_ret
    exact ⟨rfl, hb0z⟩
  · have hb0c : Below w.heap.size w (wa.alloc (.cells zfc.toArray 33)) := hb0a.alloc hb0a.size _
    go_wp2_with (refine wpList_frame_new rfl (.tmp 29) (.tmp 161) rfl rfl 0 0 0 0 0 none 0 0 rfl ?_)
    refine (wakes4_any _).mono ?_
    rintro e wz ⟨rfl, hbz⟩
    have hb0z := hb0c.trans (hbz.mono hb0c.size)
    go_wp2_with fail
    go_ret
    exact ⟨rfl, hb0z⟩
end Go.Proofs.Ytcaejcdmkihmbaa
