/- The walk of the law PackValues. -/
import Derived.Test.YtfobnpkhmjbcpaaPackX
namespace Go.Proofs.Ytfobnpkhmjbcpaa
open Go.RowKit

set_option maxRecDepth 100000 in
set_option maxHeartbeats 1000000 in
theorem pvalues_great (A B : Option Addr) (n c nb cb : Nat) (w : World) (h : 1000 < n ∨ 8000 < nb) :
    Calls Try.prog 4 #[.slice A n c, .slice B nb cb] w fun e w' => e = .returned (.bool true) ∧ Below w.heap.size w w' := by
  by_cases h1 : 1000 < n
  · clear h
    go_enter Try.func4, Try.ntmps4
    go_wp2_with fail
    refine (wakes2_any _).mono ?_
    rintro e w1 ⟨rfl, hb1⟩
    go_wp2_with fail
    go_ret
    exact ⟨rfl, hb1⟩
  · have h2 : 8000 < nb := by omega
    clear h
    go_enter Try.func4, Try.ntmps4
    go_wp2_with fail
    refine (wakes2_any _).mono ?_
    rintro e w1 ⟨rfl, hb1⟩
    go_wp2_with fail
    go_ret
    exact ⟨rfl, hb1⟩

/-- a new variable, and what it is given -/
def stow (w : World) (t : TypeId) (cs : List Value) : World := (w.alloc (.cells (zrow 8).toArray t)).setRow w.heap.size cs.toArray
theorem stow_blk (w : World) (t : TypeId) (cs : List Value) : Blk (stow w t cs) w.heap.size t cs := (Blk.new w t (zrow 8)).row cs
theorem stow_below {B : Nat} {a w : World} (h : Below B a w) (hB : B ≤ w.heap.size) (t : TypeId) (cs : List Value) : Below B a (stow w t cs) := below_setRow (h.alloc hB _) hB _

/-- eight cells of a block known whole -/
theorem blk_eight {w : World} {g : Nat} {t : TypeId} {x0 x1 x2 x3 x4 x5 x6 x7 : Value} (h : Blk w g t [x0, x1, x2, x3, x4, x5, x6, x7]) :
    w.cell? ⟨g, 0, none⟩ = some x0 ∧ w.cell? ⟨g, 1, none⟩ = some x1 ∧ w.cell? ⟨g, 2, none⟩ = some x2 ∧ w.cell? ⟨g, 3, none⟩ = some x3 ∧
    w.cell? ⟨g, 4, none⟩ = some x4 ∧ w.cell? ⟨g, 5, none⟩ = some x5 ∧ w.cell? ⟨g, 6, none⟩ = some x6 ∧ w.cell? ⟨g, 7, none⟩ = some x7 :=
  ⟨h.cell 0, h.cell 1, h.cell 2, h.cell 3, h.cell 4, h.cell 5, h.cell 6, h.cell 7⟩

set_option maxRecDepth 100000 in
set_option maxHeartbeats 2000000 in
theorem pvalues_walk (A B : Option Addr) (L l : List UInt8) (n c cb : Nat) (w : World) (hA : At w A (bs L)) (hL : L.length = n * 8) (hn : n ≤ 1000) (hB : At w B (bs l)) (hl : l.length ≤ 8000) (hlc : l.length ≤ cb) :
    Calls Try.prog 4 #[.slice A n c, .slice B l.length cb] w fun e w' => e = .returned (.bool true) ∧ Below w.heap.size w w' := by
  have HA : Hid (At w A (bs L)) := hA
  have HB : Hid (At w B (bs l)) := hB
  have HL := Lib.hid hL
  have hs : (Try.prog.info? 36).map (·.size) = some 8 := by kernel_rfl
  have Hs := Lib.hid hs
  clear hA hB hL hs
  go_enter Try.func4, Try.ntmps4
  go_wp2_with fail
  refine (readvals_all B l _ cb _ HB.out rfl hlc hl).mono ?_
  rintro e w1 ⟨v1, rfl, hown1, hb1⟩
  obtain ⟨A1, c1, rfl, _, _, hat1⟩ := own_at hown1
  clear hown1
  go_wp2_with fail
  refine (rreadvals_all B l _ cb _ (HB.out.below hb1 (Nat.le_refl _)) rfl hlc hl).mono ?_
  rintro e w2 ⟨v2, rfl, hown2, hb2⟩
  obtain ⟨A2, c2, rfl, _, _, hat2⟩ := own_at hown2
  clear hown2
  have hb02 : Below w.heap.size w w2 := hb1.trans (hb2.mono hb1.size)
  have HA1 := Lib.hid (hat1.below hb2 (Nat.le_refl _))
  have HA2 := Lib.hid hat2
  clear hat1 hat2
  go_wp2_with fail
  refine (value_all B l _ cb _ (HB.out.below hb02 (Nat.le_refl _)) rfl).mono ?_
  rintro e w3 ⟨rfl, hb3⟩
  obtain ⟨x0, x1, x2, x3, x4, x5, x6, x7, hx⟩ := Pk.eight_parts _ (Pk.vL_length l)
  have ex : (bs (Pk.vL l)).toArray = #[B8 x0, B8 x1, B8 x2, B8 x3, B8 x4, B8 x5, B8 x6, B8 x7] := by rw [hx]; rfl
  rw [ex]
  have h1 : (#[B8 x0, B8 x1, B8 x2, B8 x3, B8 x4, B8 x5, B8 x6, B8 x7] : Array Value).all (·.oneCell') = true := by simp [Value.oneCell']
  have H1 := Lib.hid h1
  have HB3 := Lib.hid (Blk.new w3 36 (zrow 8))
  have Ex := Lib.hid ex
  clear h1 ex hx
  have hb03 : Below w.heap.size w w3 := hb02.trans (hb3.mono hb02.size)
  have hb23 := hb3.mono (Nat.le_refl _)
  obtain ⟨w3', hw3⟩ : ∃ w3', w3' = stow w3 36 [B8 x0, B8 x1, B8 x2, B8 x3, B8 x4, B8 x5, B8 x6, B8 x7] := ⟨_, rfl⟩
  have hK3 : Blk w3' w3.heap.size 36 [B8 x0, B8 x1, B8 x2, B8 x3, B8 x4, B8 x5, B8 x6, B8 x7] := by rw [hw3]; exact stow_blk _ _ _
  have hb03' : Below w.heap.size w w3' := by rw [hw3]; exact stow_below hb03 hb03.size _ _
  have hb23' : Below w2.heap.size w2 w3' := by rw [hw3]; exact stow_below hb3 hb3.size _ _
  have hg3 : w3.heap.size < w3'.heap.size := hK3.lt
  have HK3 := Lib.hid hK3
  have Hw3 := Lib.hid hw3
  clear hw3 hb23 hK3
  go_wp2_with (refine wpList_store_row rfl _ (.tmp 9) (.tmp 35) rfl w3.heap.size #[B8 x0, B8 x1, B8 x2, B8 x3, B8 x4, B8 x5, B8 x6, B8 x7] rfl rfl 36 (zrow 8).toArray HB3.out Hs.out rfl H1.out ?_; change wpList _ _ _ _ _ (stow w3 36 [B8 x0, B8 x1, B8 x2, B8 x3, B8 x4, B8 x5, B8 x6, B8 x7]); rw [← Hw3.out])
  refine (rvalue_all B l _ cb _ (HB.out.below hb03' (Nat.le_refl _)) rfl).mono ?_
  rintro e w4 ⟨rfl, hb4⟩
  rw [Ex.out]
  have HB4 := Lib.hid (Blk.new w4 36 (zrow 8))
  obtain ⟨w4', hw4⟩ : ∃ w4', w4' = stow w4 36 [B8 x0, B8 x1, B8 x2, B8 x3, B8 x4, B8 x5, B8 x6, B8 x7] := ⟨_, rfl⟩
  have hK4 : Blk w4' w4.heap.size 36 [B8 x0, B8 x1, B8 x2, B8 x3, B8 x4, B8 x5, B8 x6, B8 x7] := by rw [hw4]; exact stow_blk _ _ _
  have hb34' : Below w3'.heap.size w3' w4' := by rw [hw4]; exact stow_below hb4 hb4.size _ _
  have hb04' : Below w.heap.size w w4' := hb03'.trans (hb34'.mono hb03'.size)
  have hb24' : Below w2.heap.size w2 w4' := hb23'.trans (hb34'.mono hb23'.size)
  have hg4 : w4.heap.size < w4'.heap.size := hK4.lt
  have HK4 := Lib.hid hK4
  have HK34 := Lib.hid (HK3.out.below hb34' hg3)
  have Hw4 := Lib.hid hw4
  clear hw4 hK4
  go_wp2_with (refine wpList_store_row rfl _ (.tmp 11) (.tmp 40) rfl w4.heap.size #[B8 x0, B8 x1, B8 x2, B8 x3, B8 x4, B8 x5, B8 x6, B8 x7] rfl rfl 36 (zrow 8).toArray HB4.out Hs.out rfl H1.out ?_; change wpList _ _ _ _ _ (stow w4 36 [B8 x0, B8 x1, B8 x2, B8 x3, B8 x4, B8 x5, B8 x6, B8 x7]); rw [← Hw4.out])
  refine (vals_any A n c L _ (HA.out.below hb04' (Nat.le_refl _)) HL.out (by omega)).mono ?_
  rintro e w5 ⟨v5, rfl, hown5, hb5⟩
  obtain ⟨A5, c5, rfl, _, _, hat5⟩ := own_at hown5
  clear hown5
  have hb05 : Below w.heap.size w w5 := hb04'.trans (hb5.mono hb04'.size)
  go_wp2_with fail
  refine (rvals_any A n c L _ (HA.out.below hb05 (Nat.le_refl _)) HL.out (by omega)).mono ?_
  rintro e w6 ⟨v6, rfl, hown6, hb6⟩
  obtain ⟨A6, c6, rfl, _, _, hat6⟩ := own_at hown6
  clear hown6
  have hb46 : Below w4'.heap.size w4' w6 := hb5.trans (hb6.mono hb5.size)
  go_wp2_with fail
  refine (rbytes A5 A6 L L _ c5 _ c6 _ (hat5.below hb6 (Nat.le_refl _)) hat6 HL.out.symm HL.out.symm).mono ?_
  rintro e w7 ⟨rfl, rfl⟩
  rw [decide_eq_true rfl]
  clear hat5 hat6
  have hb26 : Below w2.heap.size w2 w6 := hb24'.trans (hb46.mono hb24'.size)
  go_wp2_with fail
  refine (values_any A1 A2 (Pk.rvL l) (Pk.rvL l) _ c1 _ c2 _ (HA1.out.below hb26 (Nat.le_refl _)) (HA2.out.below hb26 (Nat.le_refl _)) (Pk.rvL_length l) (Pk.rvL_length l) (by have := Pk.rvL_le l; omega)).mono ?_
  rintro e w7 ⟨rfl, hb7⟩
  rw [decide_eq_true rfl]
  have hb47 : Below w4'.heap.size w4' w7 := hb46.trans (hb7.mono hb46.size)
  obtain ⟨c0, c1', c2', c3, c4, c5', c6', c7⟩ := blk_eight (HK34.out.below hb47 (by have := hb34'.size; omega))
  obtain ⟨d0, d1, d2, d3, d4, d5, d6, d7⟩ := blk_eight (HK4.out.below hb47 hg4)
  have heq : ∀ w', (Op.equalIn 10000 36 (.agg #[B8 x0, B8 x1, B8 x2, B8 x3, B8 x4, B8 x5, B8 x6, B8 x7]) (.agg #[B8 x0, B8 x1, B8 x2, B8 x3, B8 x4, B8 x5, B8 x6, B8 x7])).run Try.prog w' = .ok true w' := by
    intro w'
    have := eq_rows (P := Try.prog) w' Try.underlying36 Try.underlying5 (by kernel_rfl) [x0, x1, x2, x3, x4, x5, x6, x7] [x0, x1, x2, x3, x4, x5, x6, x7] rfl rfl
    rw [decide_eq_true rfl] at this
    exact this
  have hgd : Try.prog.eqGuardType Try.prog.depth 36 = false := by kernel_rfl
  have hb07 : Below w.heap.size w w7 := hb04'.trans (hb47.mono hb04'.size)
  go_wp2_with fail
  refine (wakes2_any _).mono ?_
  rintro e w8 ⟨rfl, hb8⟩
  go_wp2_with fail
  go_ret
  exact ⟨rfl, hb07.trans (hb8.mono hb07.size)⟩
end Go.Proofs.Ytfobnpkhmjbcpaa
