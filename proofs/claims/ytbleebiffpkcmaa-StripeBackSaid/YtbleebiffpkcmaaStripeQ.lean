/- The walks of package stripe: Place. -/
import Derived.Test.YtbleebiffpkcmaaStripeP
namespace Go.Proofs.Ytbleebiffpkcmaa
open Go.RowKit

namespace St
def sl (of : List Int) (b : Nat) : Nat := if shard of b = 0 then 0 else slot of b
def er (of : List Int) (b : Nat) : Int := if shard of b = 0 then 4 else 0
theorem ok_of {V : Int} {of : List Int} (h : ok V of = true) : okOf of = true := by
  unfold ok at h
  simp only [Bool.and_eq_true] at h
  exact h.2
theorem pls_get (of : List Int) (b : Nat) (hb : b < 32) : (pls of 32)[b]? = some (Cx (shard of b) (slot of b)) := by
  simp [pls, hb]
theorem slot_lt (of : List Int) (b : Nat) (h8 : of.length = 8) (hb : b < 32) : slot of b < 36 := by
  unfold slot
  have := List.count_le_length (a := of.getD (b / 4) 0) (l := of.take (b / 4))
  rw [List.length_take] at this
  omega
theorem shard_le {of : List Int} (h : okOf of = true) (h8 : of.length = 8) (b : Nat) (hb : b < 32) : shard of b ≤ 4 := by
  obtain ⟨S, hS, hS4⟩ := okOf_get h (b / 4) (by omega)
  unfold shard
  simp [List.getD, hS]
  omega
end St

set_option maxRecDepth 100000 in
set_option maxHeartbeats 2000000 in
theorem place_in (V : Int) (of : List Int) (b : Nat) (w : World) (h8 : of.length = 8) (hok : St.ok V of = true) (hb : b < 32) :
    Calls Try.prog 14 #[.agg (mp V of).toArray, .int .i64 b] w fun e w' => e = .returned (.tuple #[.int .i64 (St.shard of b : Int), .int .i64 (St.sl of b : Int), .int .i64 (St.er of b)]) ∧ Below w.heap.size w w' := by
  have H8 := Lib.hid h8
  have Hok := Lib.hid hok
  obtain ⟨w1, hw1⟩ : ∃ w1, w1 = Bx w V of := ⟨_, rfl⟩
  have hb01 : Below w.heap.size w w1 := by rw [hw1]; exact (Below.refl _ _).alloc (Nat.le_refl _) _
  have hB1 : Blk w1 w.heap.size 34 (mp V of) := by rw [hw1]; exact Blk.new w 34 (mp V of)
  have hB0 : Blk (Bx w V of) w.heap.size 34 (mp V of) := Blk.new w 34 (mp V of)
  have HB0 := Lib.hid hB0
  have HB1 := Lib.hid hB1
  have hs : (Try.prog.info? 34).map (·.size) = some (mp V of).toArray.size := by rw [List.size_toArray, mp_length, h8]; kernel_rfl
  have Hs := Lib.hid hs
  have Hw1 := Lib.hid hw1
  obtain ⟨S, hS⟩ : ∃ S, S = St.shard of b := ⟨_, rfl⟩
  obtain ⟨T, hT⟩ : ∃ T, T = St.slot of b := ⟨_, rfl⟩
  have hS4 : S ≤ 4 := by rw [hS]; exact St.shard_le (St.ok_of hok) h8 b hb
  have hT36 : T < 36 := by rw [hT]; exact St.slot_lt of b h8 hb
  have hix := fun w' : World => run_index (P := Try.prog) w' Try.underlying65 Try.underlying64 rfl (by kernel_rfl) (St.pls of 32) b hb (Cx S T) (by rw [hS, hT]; exact St.pls_get of b hb)
  have hb32 : (b : Int) < 32 := by omega
  have e1 : (St.sl of b : Int) = if S = 0 then 0 else (T : Int) := by unfold St.sl; rw [← hS, ← hT]; split <;> simp
  have e2 : St.er of b = if S = 0 then 4 else 0 := by unfold St.er; rw [← hS]
  obtain ⟨R2, hR2⟩ : ∃ R2, R2 = (if S = 0 then (0 : Int) else (T : Int)) := ⟨_, rfl⟩
  obtain ⟨R3, hR3⟩ : ∃ R3, R3 = (if S = 0 then (4 : Int) else 0) := ⟨_, rfl⟩
  rw [e1, e2, ← hS, ← hR2, ← hR3]
  have HR2 := Lib.hid hR2
  have HR3 := Lib.hid hR3
  clear hR2 hR3 hw1 h8 hok hB1 hB0 hs e1 e2 hS hT hb
  go_enter Try.func14, Try.ntmps14
  go_wp2_with (refine wpList_load_row rfl _ (.tmp 2) rfl w.heap.size rfl 34 (mp V of).toArray (0, 0) _ HB0.out Try.underlying34 rfl Hs.out ?_)
  change Calls _ _ _ (Bx w V of) _
  rw [← Hw1.out]
  refine (check_any V of _ H8.out).mono ?_
  rintro e w2 ⟨rfl, hb12⟩
  rw [Hok.out]
  have HB2 := Lib.hid (HB1.out.below hb12 HB1.out.lt)
  have hb02 : Below w.heap.size w w2 := hb01.trans (hb12.mono hb01.size)
  simp only [if_true]
  go_wp2_with (refine wpList_load_row rfl _ (.tmp 2) rfl w.heap.size rfl 34 (mp V of).toArray (0, 0) _ HB2.out Try.underlying34 rfl Hs.out ?_)
  refine (places_any V of _ H8.out (St.ok_of Hok.out)).mono ?_
  rintro e w3 ⟨rfl, hb23⟩
  have hb03 : Below w.heap.size w w3 := hb02.trans (hb23.mono hb02.size)
  have z0 : (FloatKind.f64.format.order (fl S) 0 == some Ordering.eq) = decide (S = 0) := fl_eq0 ⟨S, by omega⟩
  have i1 := fl_int ⟨S, by omega⟩
  have i2 := fl_int ⟨T, by omega⟩
  simp only at i1 i2
  have hcv : ∀ (w' : World) (n : Nat), n < 36 → (FloatKind.f64.decode (fl n)).toInt .zero = some (n : Int) → (convert 67 3 (.float .f64 (fl n))).run Try.prog w' = .ok (.int .i64 n) w' := by
    intro w' n hn h
    have hr : IntKind.i64.min ≤ (n : Int) ∧ (n : Int) ≤ IntKind.i64.max := by
      simp [IntKind.min, IntKind.max, IntKind.signed, IntKind.bits]; omega
    have h2 : (Conv.floatToInt .f64 (fl n) .i64).run Try.prog w' = .ok (.int .i64 n) w' := by
      simp only [Conv.floatToInt, h]
      rw [if_pos hr]; rfl
    simp [convert, run_underlying Try.underlying67, run_underlying Try.underlying3, h2]
  have hc1 := fun w' : World => hcv w' S (by omega) i1
  have hc2 := fun w' : World => hcv w' T (by omega) i2
  clear hcv i1 i2
  by_cases hS0 : S = 0
  · rw [decide_eq_true hS0] at z0
    have HS0 := Lib.hid hS0
    clear hS0
    go_wp2_with fail
    go_ret3
    refine ⟨?_, hb03⟩
    rw [HR2.out, HR3.out, if_pos HS0.out, if_pos HS0.out, HS0.out]
    rfl
  · rw [decide_eq_false hS0] at z0
    have HS0 := Lib.hid hS0
    clear hS0
    go_wp2_with fail
    go_ret3
    refine ⟨?_, hb03⟩
    rw [HR2.out, HR3.out, if_neg HS0.out, if_neg HS0.out]
    rfl
end Go.Proofs.Ytbleebiffpkcmaa
