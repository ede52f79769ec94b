/- The walks of package pack: Value; the layer-2 laws' own 'wakes'. -/
import Derived.Test.YtfobnpkhmjbcpaaPackRef
import Derived.Laws.ResultCell
import Derived.Laws.Rows
import Derived.Laws.Tables
import Derived.Lib.SlBytesConst
import Derived.Deep.QuietTactic
import Derived.BigQuiet
namespace Go.Proofs.Ytfobnpkhmjbcpaa
open Go.RowKit

theorem loadVar_blk {P : Program} {w : World} {g : Nat} {ty : TypeId} {l : List Value} {d : TypeDesc} (h : Blk w g ty l) (hu : P.underlying ty = some d)
    (hd : (match d with | .struct _ | .array _ _ => true | _ => false) = true) (hi : (P.info? ty).map (·.size) = some l.length) :
    (loadVar ty ⟨g, 0, none⟩).run P w = .ok (.agg l.toArray) w := by
  have := run_loadVar_row (P := P) w g ty ty l.toArray (0, 0) d h hu hd (by simpa using hi)
  exact this

theorem results_cell_tmp_blk {P : Program} {fn : Func} {p u : Tmp} {ty : TypeId} (h : fn.results = #[.cell p ty, .tmp u]) (tmps : Array Value) (w : World) {g : Nat} {l : List Value} {d : TypeDesc}
    (hp : tmps.getD p undef = .pointer (some ⟨g, 0, none⟩)) (hB : Blk w g ty l) (hu : P.underlying ty = some d)
    (hd : (match d with | .struct _ | .array _ _ => true | _ => false) = true) (hi : (P.info? ty).map (·.size) = some l.length) :
    (results fn tmps).run P w = .ok (.tuple #[.agg l.toArray, tmps.getD u undef]) w := by
  rw [results_cell_tmp h, hp]
  simp [asAddr, Result.andThen, loadVar_blk hB hu hd hi]

set_option maxRecDepth 100000 in
set_option maxHeartbeats 1000000 in
theorem value_no (A : Option Addr) (n c : Nat) (w : World) (hn : n ≠ 8) :
    Calls Try.prog 16 #[.slice A n c] w fun e w' => e = .returned (.tuple #[.agg (zrow 8).toArray, .int .i64 2]) ∧ Below w.heap.size w w' := by
  have hn' : ¬ ((n : Int) = 8) := by omega
  have hs : (Try.prog.info? 36).map (·.size) = some (zrow 8).toArray.size := by kernel_rfl
  have h1 : (zrow 8).toArray.all (·.oneCell') = true := by decide +kernel
  have Hs := Lib.hid hs
  have H1 := Lib.hid h1
  clear hs h1 hn
  go_enter Try.func16, Try.ntmps16
  have hB0 : Blk (w.alloc (.cells (zrow 8).toArray 36)) w.heap.size 36 (zrow 8) := Blk.new w _ _
  have HB0 := Lib.hid hB0
  clear hB0
  go_wp2_with (first
    | (refine wpList_load_row rfl _ (.tmp 2) rfl w.heap.size rfl 36 (zrow 8).toArray (0, 0) _ HB0.out Try.underlying36 rfl Hs.out ?_)
    | (refine wpList_store_row rfl _ (.tmp 2) (.tmp 7) rfl w.heap.size (zrow 8).toArray rfl rfl 36 (zrow 8).toArray HB0.out Hs.out rfl H1.out ?_))
  refine bodyPost_ret (v := .tuple #[.agg (zrow 8).toArray, .int .i64 2]) ?_ rfl ⟨rfl, ?_⟩
  · exact results_cell_tmp_blk (p := 2) (u := 3) rfl _ _ rfl (HB0.out.row (zrow 8)) Try.underlying36 rfl (by kernel_rfl)
  exact below_setRow ((Below.refl _ _).alloc (Nat.le_refl _) _) (Nat.le_refl _) _

set_option maxRecDepth 100000 in
set_option maxHeartbeats 1000000 in
theorem value_yes (A : Option Addr) (l : List UInt8) (n c : Nat) (w : World) (hA : At w A (bs l)) (hn : n = 8) (hl : l.length = 8) :
    Calls Try.prog 16 #[.slice A n c] w fun e w' => e = .returned (.tuple #[.agg (bs l).toArray, .int .i64 0]) ∧ Below w.heap.size w w' := by
  subst hn
  have hbl : (bs l).length = 8 := by rw [bs_length, hl]
  have hs : (Try.prog.info? 36).map (·.size) = some (bs l).toArray.size := by rw [List.size_toArray, hbl]; kernel_rfl
  have hs' : (Try.prog.info? 36).map (·.size) = some (bs l).length := by rw [hbl]; kernel_rfl
  have h1 : (bs l).toArray.all (·.oneCell') = true := by
    rw [List.all_toArray, List.all_eq_true]; exact one_bs l
  have hs1 : (Try.prog.info? 5).map (·.size) = some 1 := by kernel_rfl
  have hsp : splice (zrow 8) 0 (bs l) = bs l := by
    unfold splice; simp [hbl, zrow]
  have Hs := Lib.hid hs
  have Hs' := Lib.hid hs'
  have H1 := Lib.hid h1
  have Hs1 := Lib.hid hs1
  have Hbl := Lib.hid hbl
  have Hsp := Lib.hid hsp
  have HA0 := Lib.hid (hA.alloc (.cells (zrow 8).toArray 36))
  clear hs hs' h1 hs1 hbl hsp hl hA
  go_enter Try.func16, Try.ntmps16
  have HB0 := Lib.hid (Blk.new w 36 (zrow 8))
  have HB1 := Lib.hid (HB0.out.row (bs l))
  go_wp2_with (first
    | (refine wpList_copy rfl (.tmp 8) (.tmp 9) rfl Try.underlying22 Hs1.out w.heap.size 0 8 8 A 8 c rfl rfl _ _ HB0.out (bs l) HA0.out (by rw [Hbl.out]; rfl) (by rw [Hbl.out]; simp [zrow]) (one_bs l) ?_; rw [Hsp.out])
    | (refine wpList_load_row rfl _ (.tmp 2) rfl w.heap.size rfl 36 (bs l).toArray (0, 0) _ HB1.out Try.underlying36 rfl Hs.out ?_)
    | (refine wpList_store_row rfl _ (.tmp 2) (.tmp 11) rfl w.heap.size (bs l).toArray rfl rfl 36 (bs l).toArray HB1.out Hs.out rfl H1.out ?_))
  refine bodyPost_ret (v := .tuple #[.agg (bs l).toArray, .int .i64 0]) ?_ rfl ⟨rfl, ?_⟩
  · exact results_cell_tmp_blk (p := 2) (u := 3) rfl _ _ rfl (HB1.out.row (bs l)) Try.underlying36 rfl Hs'.out
  exact below_setRow (below_setRow ((Below.refl _ _).alloc (Nat.le_refl _) _) (Nat.le_refl _) _) (Nat.le_refl _) _

def eight : List UInt8 := [49, 50, 51, 52, 53, 54, 55, 56]
theorem le258 : [] ++ Pk.le 258 3 = [2, 1, 0] := by decide +kernel
theorem num258 : Pk.num ((Pk.le 258 3).take 2) = 258 := by decide +kernel

set_option maxRecDepth 100000 in
set_option maxHeartbeats 1000000 in
theorem wakes2_any (w : World) : Calls Try.prog 6 #[] w fun e w' => e = .returned (.bool true) ∧ Below w.heap.size w w' := by
  have kc := fun (w : World) (C : Array Value) (n c : Nat) => Lib.run_convert_bytes_const (P := Try.prog) w 22 5 C n c Try.underlying22 Try.underlying5
  go_enter Try.func6, Try.ntmps6
  go_wp2_with fail
  refine (put_int none [] 0 0 258 3 258 3 _ rfl rfl At.nil rfl (by decide) (by decide) (by decide) (by decide)).mono ?_
  rintro e w1 ⟨v, rfl, hown, hb1⟩
  obtain ⟨A1, c1, rfl, _, _, hat⟩ := own_at hown
  go_wp2_with fail
  refine (get_int A1 _ _ c1 0 2 0 2 _ rfl rfl hat rfl (by decide) (by decide) (by decide) (by decide)).mono ?_
  rintro e w2 ⟨rfl, rfl⟩
  go_wp2_with fail
  have hT : At (w1.alloc (.cells (bs eight).toArray 5 (8, 9))) (some ⟨w1.heap.size, 0, none⟩) (bs eight) := at_new w1 _ _ _
  refine (value_yes _ eight _ _ _ hT rfl rfl).mono ?_
  rintro e w2 ⟨rfl, hb2⟩
  have HB0 := Lib.hid (Blk.new w2 36 (zrow 8))
  have hs : (Try.prog.info? 36).map (·.size) = some (bs eight).toArray.size := by kernel_rfl
  have h1 : (bs eight).toArray.all (·.oneCell') = true := by decide +kernel
  have Hs := Lib.hid hs
  have H1 := Lib.hid h1
  clear hs h1
  have hb3 : Below w.heap.size w ((w2.alloc (.cells (zrow 8).toArray 36)).setRow w2.heap.size (bs eight).toArray) := by
    have h2 := (hb1.alloc hb1.size (.cells (bs eight).toArray 5 (8, 9))).trans (hb2.mono (by have := hb1.size; simp; omega))
    exact below_setRow (h2.alloc h2.size _) h2.size _
  have hB3 : Blk ((w2.alloc (.cells (zrow 8).toArray 36)).setRow w2.heap.size (bs eight).toArray) w2.heap.size 36 (bs eight) := HB0.out.row (bs eight)
  have hb13 : Below w1.heap.size w1 ((w2.alloc (.cells (zrow 8).toArray 36)).setRow w2.heap.size (bs eight).toArray) := by
    have h2 := ((Below.refl w1.heap.size w1).alloc (Nat.le_refl _) (.cells (bs eight).toArray 5 (8, 9))).trans (hb2.mono (by simp))
    exact below_setRow (h2.alloc h2.size _) h2.size _
  have hat3 := hat.below hb13 (Nat.le_refl _)
  rw [le258] at hat3
  obtain ⟨b1, o1, rfl, -, hc⟩ := hat3.all (by decide)
  have hc0 := hc 0 (B8 2) rfl
  have hc1 := hc 1 (B8 1) rfl
  have hc2 := hc 2 (B8 0) rfl
  rw [Nat.add_zero] at hc0
  have hc7 := hB3.cell 7
  have n2 : n8 2 = 2 := by decide
  have n1 : n8 1 = 1 := by decide
  have n0 : n8 0 = 0 := by decide
  have e7 : (bs eight)[7]? = some (.int .u8 56) := by rfl
  rw [e7] at hc7
  have HN := num258
  rw [HN]
  clear hc hat3 hB3 hb13 hat hown
  go_wp2_with (refine wpList_store_row rfl _ (.tmp 5) (.tmp 20) rfl w2.heap.size (bs eight).toArray rfl rfl 36 (zrow 8).toArray HB0.out Hs.out rfl H1.out ?_; change wpList _ _ _ _ _ ((w2.alloc (.cells (zrow 8).toArray 36)).setRow w2.heap.size (bs eight).toArray); generalize ((w2.alloc (.cells (zrow 8).toArray 36)).setRow w2.heap.size (bs eight).toArray) = w3 at hc0 hc1 hc2 hc7 hb3 ⊢)
  go_ret
  exact ⟨rfl, hb3⟩
end Go.Proofs.Ytfobnpkhmjbcpaa
