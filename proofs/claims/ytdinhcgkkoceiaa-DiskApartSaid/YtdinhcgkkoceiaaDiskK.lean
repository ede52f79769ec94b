/- The layer-3 laws' own wakes. -/
import Derived.Test.YtdinhcgkkoceiaaDiskC
import Derived.Lib.SlBytesConst
namespace Go.Proofs.Ytdinhcgkkoceiaa
open Go.RowKit

theorem cput_len (C : Nat → List (List UInt8)) (i : Nat) (l : List UInt8) (m : Nat) (h : ∀ j, (C j).length ≤ m) : ∀ j, (cput C i l j).length ≤ m + 1 := by
  intro j
  unfold cput
  split
  · rw [List.length_append, List.length_singleton]; have := h i; omega
  · have := h j; omega

theorem At.one (w : World) (b : UInt8) : At (w.alloc (.cells #[.int .u8 (n8 b)] 5 (1, 2))) (some ⟨w.heap.size, 0, none⟩) (bs [b]) := at_new w [.int .u8 (n8 b)] _ _

set_option maxRecDepth 100000 in
set_option maxHeartbeats 4000000 in
theorem wakes3_any (w : World) : Calls Try.prog 7 #[] w fun e w' => e = .returned (.bool true) ∧ Below w.heap.size w w' := by
  have kc := fun (w : World) (C : Array Value) (n c : Nat) => Lib.run_convert_bytes_const (P := Try.prog) w 27 5 C n c Try.underlying27 Try.underlying5
  go_enter Try.func7, Try.ntmps7
  go_wp2_with fail
  refine (dnew_any _).mono ?_
  rintro e w1 ⟨p, F1, rfl, hd1, hF1, hb1⟩
  go_wp2_with fail
  have hc2 : Below w1.heap.size w1 (w1.alloc (.cells #[.int .u8 97] 5 (1, 2))) := (Below.refl _ _).alloc (Nat.le_refl _) _
  have hb2 : Below w.heap.size w (w1.alloc (.cells #[.int .u8 97] 5 (1, 2))) := hb1.alloc hb1.size _
  have hA2 : At (w1.alloc (.cells #[.int .u8 97] 5 (1, 2))) (some ⟨w1.heap.size, 0, none⟩) (bs [97]) := At.one w1 97
  have hd2 := hd1.keep hc2
  generalize w1.alloc (.cells #[.int .u8 97] 5 (1, 2)) = w2 at hb2 hA2 hd2 ⊢
  refine (dwrite_ok p F1 0 (fun _ => zsec) (fun _ => []) 0 5 (by decide) _ [97] 1 _ _ hd2 hA2 rfl (by decide) (by decide) (by decide) (by decide)).mono ?_
  rintro e w3 ⟨F3, rfl, hd3, hc3, hF3⟩
  have hl3 := cput_len (fun _ => []) 5 (pad [97]) 0 (fun _ => Nat.le_refl _)
  have hb3 : Below w.heap.size w w3 := hb2.trans (hc3.below hF1 hb2.size)
  have hg3 : ∀ g, F3 g → w.heap.size ≤ g := fun g hg => (hF3 g hg).elim (hF1 g) (fun h => Nat.le_trans hb2.size h)
  clear hb1 hc2 hb2 hA2 hd1 hd2 hc3 hF1 hF3
  go_wp2_with fail
  refine (dflush_ok p F3 _ _ _ _ _ hd3 (by decide) (fun i _ => Nat.le_trans (hl3 i) (by decide))).mono ?_
  rintro e w4 ⟨rfl, hd4, hc4⟩
  have hb4 : Below w.heap.size w w4 := hb3.trans (hc4.below hg3 hb3.size)
  clear hd3 hc4 hb3 hl3
  generalize cur (fun _ => zsec) (cput (fun _ => []) 5 (pad [97])) = S4 at hd4
  go_wp2_with fail
  have hc5 : Below w4.heap.size w4 (w4.alloc (.cells #[.int .u8 98] 5 (1, 2))) := (Below.refl _ _).alloc (Nat.le_refl _) _
  have hb5 : Below w.heap.size w (w4.alloc (.cells #[.int .u8 98] 5 (1, 2))) := hb4.alloc hb4.size _
  have hA5 : At (w4.alloc (.cells #[.int .u8 98] 5 (1, 2))) (some ⟨w4.heap.size, 0, none⟩) (bs [98]) := At.one w4 98
  have hd5 := hd4.keep hc5
  generalize w4.alloc (.cells #[.int .u8 98] 5 (1, 2)) = w5 at hb5 hA5 hd5 ⊢
  refine (dwrite_ok p F3 _ S4 (fun _ => []) 0 5 (by decide) _ [98] 1 _ _ hd5 hA5 rfl (by decide) (by decide) (by decide) (by decide)).mono ?_
  rintro e w6 ⟨F6, rfl, hd6, hc6, hF6⟩
  have hb6 : Below w.heap.size w w6 := hb5.trans (hc6.below hg3 hb5.size)
  have hg6 : ∀ g, F6 g → w.heap.size ≤ g := fun g hg => (hF6 g hg).elim (hg3 g) (fun h => Nat.le_trans hb5.size h)
  clear hb4 hc5 hb5 hA5 hd4 hd5 hc6 hF6 hg3
  go_wp2_with fail
  have hc7 : Below w6.heap.size w6 (w6.alloc (.cells #[.int .u8 99] 5 (1, 2))) := (Below.refl _ _).alloc (Nat.le_refl _) _
  have hb7 : Below w.heap.size w (w6.alloc (.cells #[.int .u8 99] 5 (1, 2))) := hb6.alloc hb6.size _
  have hA7 : At (w6.alloc (.cells #[.int .u8 99] 5 (1, 2))) (some ⟨w6.heap.size, 0, none⟩) (bs [99]) := At.one w6 99
  have hd7 := hd6.keep hc7
  generalize w6.alloc (.cells #[.int .u8 99] 5 (1, 2)) = w7 at hb7 hA7 hd7 ⊢
  refine (dwrite_ok p F6 _ S4 _ _ 5 (by decide) _ [99] 1 _ _ hd7 hA7 rfl (by decide) (by decide) (by decide) (by simp [cput])).mono ?_
  rintro e w8 ⟨F8, rfl, hd8, hc8, hF8⟩
  have hb8 : Below w.heap.size w w8 := hb7.trans (hc8.below hg6 hb7.size)
  have hg8 : ∀ g, F8 g → w.heap.size ≤ g := fun g hg => (hF8 g hg).elim (hg6 g) (fun h => Nat.le_trans hb7.size h)
  clear hb6 hc7 hb7 hA7 hd6 hd7 hc8 hF8 hg6
  have hl8 := cput_len _ 5 (pad [99]) 1 (cput_len (fun _ => []) 5 (pad [98]) 0 (fun _ => Nat.le_refl _))
  have hcr : crS S4 (cput (cput (fun _ => []) 5 (pad [98])) 5 (pad [99])) [(5, 1)] 5 = pad [98] := by
    unfold crS cput
    rfl
  generalize cput (cput (fun _ => []) 5 (pad [98])) 5 (pad [99]) = C8 at hd8 hl8 hcr
  have Hcr := Lib.hid hcr
  have Hd8 := Lib.hid hd8
  have Hl8 := Lib.hid hl8
  clear hcr hd8 hl8
  go_wp2_with fail
  have hc9 : Below w8.heap.size w8 (w8.alloc (.cells #[.int .i64 5, .int .i64 1] 42)) := (Below.refl _ _).alloc (Nat.le_refl _) _
  have hb9 : Below w.heap.size w (w8.alloc (.cells #[.int .i64 5, .int .i64 1] 42)) := hb8.alloc hb8.size _
  have hA9 : At (w8.alloc (.cells #[.int .i64 5, .int .i64 1] 42)) (some ⟨w8.heap.size, 0, none⟩) (kcells [(5, 1)]) := at_new w8 (kcells [(5, 1)]) _ _
  have hd9 := Hd8.out.keep hc9
  generalize w8.alloc (.cells #[.int .i64 5, .int .i64 1] 42) = w9 at hb9 hA9 hd9 ⊢
  refine (dcrash_ok p F8 _ S4 C8 _ [(5, 1)] _ 1 1 _ hd9 (by decide) (by decide) (fun i _ => Nat.le_trans (Hl8.out i) (by decide)) hA9 rfl (by intro x hx; simp only [List.mem_singleton] at hx; subst hx; decide)).mono ?_
  rintro e w10 ⟨rfl, hd10, hc10⟩
  have hb10 : Below w.heap.size w w10 := hb9.trans (hc10.below hg8 hb9.size)
  have Hd10 := Lib.hid hd10
  clear hb8 hc9 hb9 hA9 hd9 hc10 hd10
  go_wp2_with fail
  refine (dup_ok p F8 _ _ _ _ _ Hd10.out).mono ?_
  rintro e w11 ⟨rfl, hd11, hc11⟩
  have hb11 : Below w.heap.size w w11 := hb10.trans (hc11.below hg8 hb10.size)
  have Hd11 := Lib.hid hd11
  clear hb10 hc11 hd11
  go_wp2_with fail
  refine (dread_ok p F8 _ _ _ _ 5 (by decide) _ Hd11.out (by decide)).mono ?_
  rintro e w12 ⟨g, rfl, hB12, -, -, hb12⟩
  have hcur : cur (crS S4 C8 [(5, 1)]) (fun _ => []) 5 = pad [98] := Hcr.out
  rw [hcur] at hB12
  have hbb : Below w.heap.size w w12 := hb11.trans (hb12.mono hb11.size)
  have g0 : w12.cell? ⟨g, 0, none⟩ = some (.int .u8 98) := hB12.cell 0
  have g1 : w12.cell? ⟨g, 1, none⟩ = some (.int .u8 0) := hB12.cell 1
  clear hcur hB12 hb11 hb12
  go_wp2_with fail
  go_ret
  exact ⟨rfl, hbb⟩
end Go.Proofs.Ytdinhcgkkoceiaa
