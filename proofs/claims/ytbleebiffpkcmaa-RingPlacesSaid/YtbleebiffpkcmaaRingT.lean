/- The walks of package ring: next, Take. -/
import Derived.Test.YtbleebiffpkcmaaRingA
import Derived.RangeFuncBox
import Derived.RangeFuncNested
import Derived.RangeFuncBound
import Derived.RangeFuncCalls
import Derived.RangeFuncLeaves
import Derived.Shelf.Abstract
import Derived.Shelf.RegionOpen
import Derived.WalkKit
import Derived.OwnWalkIn
import Derived.TacticsInMore
import Derived.LoopNIn
import Derived.LoopIn
import Derived.Maps.AppendAt
import Derived.Maps.OwnIn
namespace Go.Proofs.Ytbleebiffpkcmaa
open Go.RowKit Go.Shelf
attribute [local go_sem] Oper.semAt_some

/-- k numbers from one on -/
def upFrom (s : Int) (k : Nat) : List Int := (List.range k).map fun (i : Nat) => s + (i : Int)
theorem upFrom_length (s : Int) (k : Nat) : (upFrom s k).length = k := by simp [upFrom]
theorem upFrom_succ (s : Int) (k : Nat) : upFrom s (k + 1) = upFrom s k ++ [s + (k : Int)] := by simp [upFrom, List.range_succ]

theorem upFrom_prefix (s : Int) {k m : Nat} (h : k ≤ m) : upFrom s k <+: upFrom s m := by
  have e : (upFrom s m).take k = upFrom s k := by
    unfold upFrom
    rw [← List.map_take, List.take_range, Nat.min_eq_left h]
  rw [← e]
  exact List.take_prefix _ _

/-- the block B lies as it lay -/
def KeepsBlk (B : Nat) (W W' : World) : Prop := W'.heap[B]? = W.heap[B]?
theorem KeepsBlk.t {B : Nat} {W1 W2 W3 : World} (h : KeepsBlk B W1 W2) (k : KeepsBlk B W2 W3) : KeepsBlk B W1 W3 := Eq.trans k h
theorem KeepsBlk.b {B : Nat} {w : World} (hB : B < w.heap.size) (W : World) (l : Nat) (o o' : Obj) (hl : w.heap.size ≤ l) (h : W.heap[l]? = some o) (_ : o.isCells = false) (_ : o.isWalk = false) : KeepsBlk B W (W.putObj l o') := by
  have hlt := (Array.getElem?_eq_some_iff.1 h).1
  exact (grownBy_putObj' W l o').block B (by omega) (by intro e; cases e; omega)

theorem grownBy_set (W : World) (p : Addr) (v : Value) : W.grownBy (W.setCell p v) (some p.block) :=
  ⟨rfl, rfl, rfl, (KeepsWalks.setCell W _ v).size, fun k _ hk => Below.heap_setCell _ _ _ k (fun e => hk (by rw [e]))⟩

theorem results_cell_tmp2_blk {P : Program} {fn : Func} {p u u2 : Tmp} {ty : TypeId} (h : fn.results = #[.cell p ty, .tmp u, .tmp u2]) (tmps : Array Value) (w : World) {g : Nat} {l : List Value} {d : TypeDesc}
    (hp : tmps.getD p undef = .pointer (some ⟨g, 0, none⟩)) (hB : Blk w g ty l) (hu : P.underlying ty = some d)
    (hd : (match d with | .struct _ | .array _ _ => true | _ => false) = true) (hi : (P.info? ty).map (·.size) = some l.length) :
    (results fn tmps).run P w = .ok (.tuple #[.agg l.toArray, tmps.getD u undef, tmps.getD u2 undef]) w := by
  have hl : (loadVar ty ⟨g, 0, none⟩).run P w = .ok (.agg l.toArray) w := run_loadVar_row (P := P) w g ty ty l.toArray (0, 0) d hB hu hd (by simpa using hi)
  have hp' : tmps[p]?.getD undef = .pointer (some ⟨g, 0, none⟩) := by simpa using hp
  simp only [results, h]
  simp [Result.andThen, hp', asAddr, hl]

set_option maxRecDepth 100000 in
set_option maxHeartbeats 1000000 in
theorem next1_in (F : Fence) (n : Nat) (h6 : F.fn 31) (hro : F.round = none) (hn : 1 ≤ n) (l Bm Bf : Nat) (m : Nat) (s : Int) (hm : m ≤ 1000) (hs1 : -1000000000000000 ≤ s) (hs2 : s ≤ 1000000000000000) (J Jx : List Int → World → Prop)
    (hY : ∀ pre x W, J pre W → pre.length < m → YieldAt F (n - 1) Try.prog l #[.int .i64 x] W fun e W' =>
      (e = .returned (.bool true) ∧ J (pre ++ [x]) W' ∧ KeepsBlk Bf W W') ∨ (e = .returned (.bool false) ∧ Jx (pre ++ [x]) W'))
    (W : World) (hBm : Boxed W Bm 3 (.int .i64 m)) (hBf : Boxed W Bf 3 (.int .i64 s)) (h0 : J [] W) :
    CallsIn F n Try.prog 31 #[.func (.yield l) #[] #[], .pointer (some ⟨Bm, 0, none⟩), .pointer (some ⟨Bf, 0, none⟩)] W fun e W' => (∃ v, e = .returned v) ∧
      ((∃ ys, ys = upFrom s m ∧ J ys W') ∨ (∃ pre, pre <+: upFrom s m ∧ Jx pre W')) := by
  refine callsIn_of_wp Try.func31 rfl h6 ?_ hro
  simp only [Try.ntmps31, List.size_toArray, List.length_cons, List.length_nil, Nat.reduceAdd, Nat.reduceSub, Array.replicate_succ, Array.replicate_zero, List.push_toArray, List.append_toArray, List.nil_append, List.cons_append]
  have hcm := hBm.cell
  gi_wp2
  gi_loopw [6] (fun p wr => ∃ k : Nat, k ≤ m ∧ p = .int .i64 k ∧ Boxed wr Bf 3 (.int .i64 s) ∧ J (upFrom s k) wr) (fun p _ => m - (intOf p).toNat)
  case atStart => exact ⟨0, by omega, rfl, hBf, h0⟩
  case round =>
    obtain ⟨k, hk, rfl, hb, hJs⟩ := hrel
    by_cases hlt : k < m
    · have hc := hb.cell
      obtain ⟨fn, tmps, assign, body, hy, hR⟩ := hY _ (s + (k : Int)) wr hJs (by rw [upFrom_length]; exact hlt)
      gi_wp2
      refine hR.mono ?_
      rintro e W3 (⟨rfl, hJ3, hk3⟩ | ⟨rfl, hJx3⟩)
      · gi_wp2
        go_roundw
        case rel => exact ⟨k + 1, by omega, by go_num, Eq.trans hk3 hb, by rw [upFrom_succ]; exact hJ3⟩
        case measure => simp [intOf]; omega
      · gi_wp2
        refine bodyPost_ret (results_none rfl _ _ _) rfl ?_
        refine ⟨⟨_, rfl⟩, .inr ⟨upFrom s k ++ [s + (k : Int)], ?_, hJx3⟩⟩
        rw [← upFrom_succ]
        exact upFrom_prefix s hlt
    · have hkm : k = m := by omega
      rw [hkm] at hJs
      gi_wp2
      go_end0
      exact ⟨⟨_, rfl⟩, .inl ⟨_, rfl, hJs⟩⟩

set_option maxHeartbeats 1000000 in
theorem next_any (s m : Int) (w : World) :
    Calls Try.prog 29 #[.int .i64 s, .int .i64 m] w fun e w' => e = .returned (.func (.func 31) #[] #[.pointer (some ⟨w.heap.size + 1, 0, none⟩), .pointer (some ⟨w.heap.size, 0, none⟩)]) ∧
      w' = (w.alloc (.cells #[.int .i64 s] 3)).alloc (.cells #[.int .i64 m] 3) := by
  go_enter Try.func29, Try.ntmps29
  go_wp2
  go_ret
  exact ⟨rfl, rfl⟩

theorem next_stops (F : Fence) (n : Nat) (h6 : F.fn 31) (hro : F.round = none) (hn : 1 ≤ n) (Bm Bf : Nat) (m : Nat) (s : Int) (hm : m ≤ 1000) (hs1 : -1000000000000000 ≤ s) (hs2 : s ≤ 1000000000000000) (w : World)
    (hBm : Boxed w Bm 3 (.int .i64 m)) (hBf : Boxed w Bf 3 (.int .i64 s)) :
    SeqStopsK F n Try.prog 31 #[.pointer (some ⟨Bm, 0, none⟩), .pointer (some ⟨Bf, 0, none⟩)] (fun x : Int => #[Value.int .i64 x]) (KeepsBlk Bf) (fun ys => ys = upFrom s m) (fun pre => pre <+: upFrom s m) m w :=
  fun l J Jx W hW _ _ hY h0 => next1_in F n h6 hro hn l Bm Bf m s hm hs1 hs2 J Jx hY W ((hW.block Bm hBm.lt).trans hBm) ((hW.block Bf hBf.lt).trans hBf) h0

theorem intTyR : SliceTy Try.prog 61 3 1 8 := SliceTy.mk' (z := .int .i64 0) Try.underlying61 (by kernel_rfl) rfl (by decide)
theorem infoInt : (Try.prog.info? 3).map (fun i => (i.zero, i.size, i.bytes)) = some (some (.int .i64 0), 1, 8) := by kernel_rfl

set_option maxRecDepth 100000 in
set_option maxHeartbeats 4000000 in
theorem take_yes (t x : Int) (m : Nat) (w : World) (hmay : Rg.may t x = true) (hm : (m : Int) ≤ Rg.free t x) (hx : x + m ≤ 1099511627776) :
    Calls Try.prog 23 #[.agg #[.int .i64 t, .int .i64 x], .int .i64 m] w fun e w' => ∃ v, e = .returned (.tuple #[.agg #[.int .i64 t, .int .i64 (x + m)], v, .int .i64 0]) ∧ w'.ownsRow w.heap.size 3 1 v m ((upFrom x m).map (.int .i64)) ∧ Below w.heap.size w w' := by
  refine (callsIn_wide (n := 3)).1 ?_
  obtain ⟨i0, hi, hz0, hz1, hz2⟩ := info_parts infoInt
  refine callsIn_of_wp_marks Try.func23 rfl trivial ?_ rfl
  simp only [Try.ntmps23, List.size_toArray, List.length_cons, List.length_nil, Nat.reduceAdd, Nat.reduceSub, Array.replicate_succ, Array.replicate_zero, List.push_toArray, List.append_toArray, List.nil_append, List.cons_append]
  have H1 := Lib.hid hmay
  obtain ⟨q1, q2, q3, q4⟩ := Rg.may_parts hmay
  have q5 : Rg.free t x = 24 - (x - t) := by unfold Rg.free; rw [if_pos hmay]
  have hm24 : (m : Int) ≤ 24 := by omega
  have hwm : Rg.within (m : Int) 0 24 = true := by unfold Rg.within; simp; omega
  have Hwm := Lib.hid hwm
  have hx1 : 1 ≤ x := by omega
  have hx2 : x ≤ 1000000000000000 := by omega
  have hfree : ¬ (Rg.free t x < (m : Int)) := by omega
  have hw40 : ¬ (1099511627776 < x + (m : Int)) := by omega
  clear hwm hmay q5 hm
  obtain ⟨w1, hw1⟩ : ∃ w1, w1 = (w.alloc (.cells (P2 t x).toArray 23)).alloc (.cells (P2 0 0).toArray 23) := ⟨_, rfl⟩
  have hB1 : Blk w1 w.heap.size 23 (P2 t x) := by rw [hw1]; exact (Blk.new w 23 (P2 t x)).alloc _
  have hB2 : Blk w1 (w.heap.size + 1) 23 (P2 0 0) := by
    have := Blk.new (w.alloc (.cells (P2 t x).toArray 23)) 23 (P2 0 0)
    rw [World.size_alloc] at this
    rw [hw1]; exact this
  have hb01 : Below w.heap.size w w1 := by rw [hw1]; exact ((Below.refl _ _).alloc (Nat.le_refl _) _).alloc (by simp) _
  have HB1 := Lib.hid hB1
  have HB2 := Lib.hid hB2
  have hsz : w1.heap.size = w.heap.size + 2 := by rw [hw1]; simp
  have Hsz := Lib.hid hsz
  have Hw1 := Lib.hid hw1
  clear hB1 hB2 hw1 hsz
  gi_wp2
  change _ ∧ CallsIn _ _ _ _ _ ((w.alloc (.cells (P2 t x).toArray 23)).alloc (.cells (P2 0 0).toArray 23)) _
  rw [← Hw1.out]
  refine ⟨trivial, (callsIn_wide.2 (may_any t x _)).mono ?_⟩
  rintro e w2 ⟨rfl, hb12⟩
  rw [H1.out]
  gi_wp2
  refine ⟨trivial, (callsIn_wide.2 (within_any _ _ _ _)).mono ?_⟩
  rintro e w3 ⟨rfl, hw3⟩
  subst hw3
  rw [Hwm.out]
  have HK1 := Lib.hid (HB1.out.below hb12 HB1.out.lt)
  have c0 : w2.cell? ⟨w.heap.size, 0, none⟩ = some (.int .i64 t) := HK1.out.cell 0
  have c1 : w2.cell? ⟨w.heap.size, 1, none⟩ = some (.int .i64 x) := HK1.out.cell 1
  gi_wp2
  refine ⟨trivial, (callsIn_wide.2 (free_any t x _)).mono ?_⟩
  rintro e w3 ⟨rfl, hb23⟩
  have HL1 := Lib.hid (HK1.out.below hb23 HK1.out.lt)
  have d0 : w3.cell? ⟨w.heap.size, 0, none⟩ = some (.int .i64 t) := HL1.out.cell 0
  have d1 : w3.cell? ⟨w.heap.size, 1, none⟩ = some (.int .i64 x) := HL1.out.cell 1
  have hb13 : Below w1.heap.size w1 w3 := hb12.trans (hb23.mono hb12.size)
  have hb03 : Below w.heap.size w w3 := hb01.trans (hb13.mono hb01.size)
  have hlt3 : w.heap.size < w3.heap.size := HL1.out.lt
  clear c0 c1 HK1
  gi_wp2
  refine ⟨trivial, (callsIn_wide.2 (next_any x m _)).mono ?_⟩
  rintro e w4 ⟨rfl, rfl⟩
  have bO := Boxed.new w3 61 (.slice none 0 0)
  have bF := Boxed.new (w3.alloc (.cells #[.slice none 0 0] 61)) 3 (.int .i64 x)
  have bM := Boxed.new ((w3.alloc (.cells #[.slice none 0 0] 61)).alloc (.cells #[.int .i64 x] 3)) 3 (.int .i64 m)
  simp only [World.size_alloc] at bF bM
  have hB0 : Below w3.heap.size w3 (((w3.alloc (.cells #[.slice none 0 0] 61)).alloc (.cells #[.int .i64 x] 3)).alloc (.cells #[.int .i64 m] 3)) := (((Below.refl _ w3).alloc (Nat.le_refl _) _).alloc (by simp) _).alloc (by simp; omega) _
  gi_wp2
  refine wpIn_rangeFunc_ownG rfl (by omega) (gf := 31) (lb := #[.pointer (some ⟨w3.heap.size + 1 + 1, 0, none⟩), .pointer (some ⟨w3.heap.size + 1, 0, none⟩)]) rfl trivial (enters_of Try.func31 (by kernel_rfl) rfl)
    (next_stops Fence.wide (3 - 1) trivial rfl (by omega) (w3.heap.size + 1 + 1) (w3.heap.size + 1) m x (by omega) (by omega) (by omega) _ bM (bF.alloc _)) KeepsBlk.t (KeepsBlk.b (by simp)) (Below.refl _ _) (fun _ => rfl)
    (fun pre W => (∃ v, Boxed W w3.heap.size 61 v ∧ W.ownsRow w3.heap.size 3 1 v pre.length (pre.map (Value.int .i64)) ∧ some (w3.heap.size + 1) ≠ v.ownBlock) ∧ Below w3.heap.size w3 W ∧ w3.heap.size + 2 < W.heap.size)
    (fun _ _ _ => False)
    (OwnFrom.and (Own.from (holdsRow_own w3.heap.size w3.heap.size 61 3 1 (fun pre : List Int => pre.length) (fun pre => pre.map (Value.int .i64)) (fun _ v => some (w3.heap.size + 1) ≠ v.ownBlock)) _) (OwnFrom.and (ownFrom_below (Nat.le_refl _) (by simp; omega)) (fun s X Y row hs hg hr => by have := hg.size; omega)))
    (fun _ _ _ _ _ hs _ _ => hs)
    ⟨⟨_, (bO.alloc _).alloc _, World.ownsRow_nil _ _ _ _, by simp [Value.ownBlock]⟩, hB0, by simp⟩
    (fun y => { tmps :=
        #[.agg #[.int .i64 t, .int .i64 x], .int .i64 (m : Int), .pointer (some ⟨w.heap.size, 0, none⟩), undef, .pointer (some ⟨w.heap.size + 1, 0, none⟩), .slice none 0 0, .int .i64 0,
          .pointer (some ⟨w3.heap.size, 0, none⟩), .int .i64 y, .bool false, .agg #[.int .i64 t, .int .i64 x], .bool true, .bool false, .int .i64 (m : Int), .bool true, .bool false, undef,
          .bool (decide (1099511627776 < x + (m : Int))), .int .i64 (m : Int), .agg #[.int .i64 t, .int .i64 x], .int .i64 (Rg.free t x), .bool (decide (Rg.free t x < (m : Int))), .pointer (some ⟨w.heap.size, 1, none⟩),
          .int .i64 x, .int .i64 (m : Int), .int .i64 (x + (m : Int)), .bool (decide (1099511627776 < x + (m : Int))), undef, .pointer (some ⟨w.heap.size, 1, none⟩), .int .i64 x, .int .i64 (m : Int),
          .func (.func 31) #[] #[.pointer (some ⟨w3.heap.size + 1 + 1, 0, none⟩), .pointer (some ⟨w3.heap.size + 1, 0, none⟩)],
          .int .i64 y, undef, undef, undef, undef, undef, undef, undef, undef, undef, undef, undef], defers := [] }) ?assign ?body ?done ?stop
  case assign =>
    intro l y W K hK
    gi_wp2
    exact hK
  case body =>
    rintro l pre y W ⟨⟨v, hv, hrow, hne⟩, hB, hs2'⟩ hlt
    have hc := hv.cell
    have hlen : pre.length < 1000 := by omega
    gi_wp2_with (gi_at_builtin; refine wpListIn_append_own_at _ rfl _ _ 61 rfl w3.heap.size 3 i0 (.int .i64 0) 1 8 Try.underlying61 hi hz0 hz1 hz2 rfl (by decide) _ _ _ rfl (hrow.alloc _) ⟨W.heap.size, 0, none⟩ 1 1 [.int .i64 y] rfl rfl (cell_one_new _ _ _) (by simp [Value.oneCell']) (by unfold maxLen; omega) (by omega) (by have := hB.size; simp; omega) ?_; intro v' w1' hown' hgrow _ hat; obtain ⟨g', cap', rfl⟩ := ownsRow_succ hown'; obtain ⟨hv1, hv2, hr2, hk2, hb2⟩ := hv.appended (by decide) hrow hB.size (Nat.le_refl _) hown' hgrow; have hc1 := hv1.cell; have hf1 := hv1.frozen)
    have hbf : w3.heap.size + 1 < W.heap.size := by omega
    have hgs := hgrow.size
    rw [World.size_alloc] at hgs
    have hkb : KeepsBlk (w3.heap.size + 1) W (w1'.setCell ⟨w3.heap.size, 0, none⟩ (.slice (some ⟨g', 0, none⟩) (pre.length + 1) cap')) := by
      have e1 := (grownBy_setCell' w1' w3.heap.size (.slice (some ⟨g', 0, none⟩) (pre.length + 1) cap')).block (w3.heap.size + 1) (by omega) (by simp)
      have e2 := hgrow.block (w3.heap.size + 1) (by rw [World.size_alloc]; omega) hne
      have e3 := (World.grownBy_alloc W (.cells #[.int .i64 y] 3) none).block (w3.heap.size + 1) hbf (by simp)
      exact (e1.trans e2).trans e3
    refine ⟨hk2.from _, hkb, ⟨_, hv2, by simpa using hr2, ?_⟩, hB.trans hb2, ?_⟩
    · rcases hat with h | h
      · rw [h]; exact hne
      · rw [h]; simp; omega
    · simp; omega
  case done =>
    rintro D ys W hD rfl ⟨⟨v, hv, hrow, hne⟩, hB, hWs⟩ hK
    have hL := HL1.out.below hB HL1.out.lt
    have e0 : W.cell? ⟨w.heap.size, 0, none⟩ = some (.int .i64 t) := hL.cell 0
    have e1 : W.cell? ⟨w.heap.size, 1, none⟩ = some (.int .i64 x) := hL.cell 1
    have hfz := hL.frozen 1
    have hc := hv.cell
    gi_wp2
    have hL5 : Blk (W.setCell ⟨w.heap.size, 1, none⟩ (.int .i64 (x + (m : Int)))) w.heap.size 23 (P2 t (x + (m : Int))) := hL.set_ 1 _
    have hR5 := ((HB2.out.below hb13 HB2.out.lt).below hB (by have := Hsz.out; have := hb13.size; omega)).far (p := ⟨w.heap.size, 1, none⟩) (by simp) (.int .i64 (x + (m : Int)))
    have hO5 : Blk (W.setCell ⟨w.heap.size, 1, none⟩ (.int .i64 (x + (m : Int)))) w3.heap.size 61 [v] := (show Blk W w3.heap.size 61 [v] from hv).far (by simp; omega) _
    have hown5 : (W.setCell ⟨w.heap.size, 1, none⟩ (.int .i64 (x + (m : Int)))).ownsRow w3.heap.size 3 1 v (upFrom x m).length ((upFrom x m).map (Value.int .i64)) :=
      hrow.kept (grownBy_set _ _ _) (.inr (fun e => by have h5 := (hrow.lt _ e).1; have := HL1.out.lt; simp at h5; omega))
    have hb05 : Below w.heap.size w (W.setCell ⟨w.heap.size, 1, none⟩ (.int .i64 (x + (m : Int)))) := (hb03.trans (hB.mono hb03.size)).setCell (Nat.le_refl _) _
    have hK5 : (W.setCell ⟨w.heap.size, 1, none⟩ (.int .i64 (x + (m : Int)))).heap[D]? = some (.deferred (some [])) := by
      refine Eq.trans ((grownBy_set W ⟨w.heap.size, 1, none⟩ _).block D (Array.getElem?_eq_some_iff.1 hK).1 ?_) hK
      simp at hD ⊢; have := HL1.out.lt; omega
    generalize W.setCell ⟨w.heap.size, 1, none⟩ (.int .i64 (x + (m : Int))) = W5 at hL5 hR5 hO5 hown5 hb05 hK5 ⊢
    have f0 : W5.cell? ⟨w.heap.size, 0, none⟩ = some (.int .i64 t) := hL5.cell 0
    have f1 : W5.cell? ⟨w.heap.size, 1, none⟩ = some (.int .i64 (x + (m : Int))) := hL5.cell 1
    have g0 : W5.cell? ⟨w.heap.size + 1, 0, none⟩ = some (.int .i64 0) := hR5.cell 0
    have g1 : W5.cell? ⟨w.heap.size + 1, 1, none⟩ = some (.int .i64 0) := hR5.cell 1
    have fz0 := hR5.frozen 0
    have fz1 := hR5.frozen 1
    have hc5 : W5.cell? ⟨w3.heap.size, 0, none⟩ = some v := hO5.cell 0
    have hlt4 : w.heap.size + 1 < w3.heap.size := by have := Hsz.out; have := hb13.size; omega
    have hn1 : ¬ (w3.heap.size = w.heap.size + 1) := by omega
    have hn2 : ¬ (w.heap.size + 1 = w3.heap.size) := by omega
    gi_region
    all_goals gi_wp2
    have hD3 : w3.heap.size < D := by simp at hD; omega
    have hR6 : Blk ((W5.setCell ⟨w.heap.size + 1, 0, none⟩ (.int .i64 t)).setCell ⟨w.heap.size + 1, 1, none⟩ (.int .i64 (x + (m : Int)))) (w.heap.size + 1) 23 (P2 t (x + (m : Int))) := (hR5.set_ 0 _).set_ 1 _
    have hown6 : ((W5.setCell ⟨w.heap.size + 1, 0, none⟩ (.int .i64 t)).setCell ⟨w.heap.size + 1, 1, none⟩ (.int .i64 (x + (m : Int)))).ownsRow w3.heap.size 3 1 v (upFrom x m).length ((upFrom x m).map (Value.int .i64)) :=
      (hown5.kept (grownBy_set _ _ _) (.inr (fun e => by have := (hown5.lt _ e).1; simp at this; omega))).kept (grownBy_set _ _ _) (.inr (fun e => by have := (hown5.lt _ e).1; simp at this; omega))
    have hb06 : Below w.heap.size w ((W5.setCell ⟨w.heap.size + 1, 0, none⟩ (.int .i64 t)).setCell ⟨w.heap.size + 1, 1, none⟩ (.int .i64 (x + (m : Int)))) := (hb05.setCell (by simp) _).setCell (by simp) _
    have hK6 : ((W5.setCell ⟨w.heap.size + 1, 0, none⟩ (.int .i64 t)).setCell ⟨w.heap.size + 1, 1, none⟩ (.int .i64 (x + (m : Int)))).heap[D]? = some (.deferred (some [])) := by
      have e1 := (grownBy_set W5 ⟨w.heap.size + 1, 0, none⟩ (.int .i64 t)).block D (Array.getElem?_eq_some_iff.1 hK5).1 (by simp; omega)
      have e2 := (grownBy_set (W5.setCell ⟨w.heap.size + 1, 0, none⟩ (.int .i64 t)) ⟨w.heap.size + 1, 1, none⟩ (.int .i64 (x + (m : Int)))).block D (by have := (Array.getElem?_eq_some_iff.1 hK5).1; simpa using this) (by simp; omega)
      exact (e2.trans e1).trans hK5
    generalize (W5.setCell ⟨w.heap.size + 1, 0, none⟩ (.int .i64 t)).setCell ⟨w.heap.size + 1, 1, none⟩ (.int .i64 (x + (m : Int))) = W6 at hR6 hown6 hb06 hK6 ⊢
    have hDl := (Array.getElem?_eq_some_iff.1 hK6).1
    have hR7 : Blk (W6.drew.putObj D (.deferred none)) (w.heap.size + 1) 23 (P2 t (x + (m : Int))) := ((grownBy_putObj' W6 D (.deferred none)).block (w.heap.size + 1) hR6.lt (by simp; omega)).trans hR6
    have hown7 : (W6.drew.putObj D (.deferred none)).ownsRow w3.heap.size 3 1 v (upFrom x m).length ((upFrom x m).map (Value.int .i64)) := ownsRow_putObj (W := W6.drew) hown6.drew _ hK6 rfl
    rw [upFrom_length] at hown7
    refine ⟨by simp, .inl ⟨_, _, rfl, run_takeDeferred hK6, ?_⟩⟩
    refine ⟨_, results_cell_tmp2_blk (p := 4) (u := 5) (u2 := 6) rfl _ _ rfl hR7 Try.underlying23 rfl (by kernel_rfl), v, rfl, own_mono hown7 hb03.size, ?_⟩
    exact hb06.drew.grown (grownBy_putObj' W6.drew D (.deferred none)) hb06.size (fun k e => by cases e; have := hb03.size; omega)
  case stop =>
    rintro D c pre W _ _ h _
    exact h.elim

set_option maxRecDepth 100000 in
set_option maxHeartbeats 1000000 in
theorem take_full (t x : Int) (m : Nat) (w : World) (hmay : Rg.may t x = true) (hm24 : m ≤ 24) (hm : Rg.free t x < (m : Int)) :
    Calls Try.prog 23 #[.agg #[.int .i64 t, .int .i64 x], .int .i64 m] w fun e w' => e = .returned (.tuple #[.agg #[.int .i64 0, .int .i64 0], .slice none 0 0, .int .i64 50]) ∧ Below w.heap.size w w' := by
  have bl0 := fun (w : World) => run_build (P := Try.prog) w 23 #[] #[.int .i64 0, .int .i64 0] (by kernel_rfl)
  have hs : (Try.prog.info? 23).map (·.size) = some 2 := by kernel_rfl
  have Hs := Lib.hid hs
  have H1 := Lib.hid hmay
  have hwm : Rg.within (m : Int) 0 24 = true := by unfold Rg.within; simp; omega
  have Hwm := Lib.hid hwm
  clear hwm hmay hs
  obtain ⟨w1, hw1⟩ : ∃ w1, w1 = (w.alloc (.cells (P2 t x).toArray 23)).alloc (.cells (P2 0 0).toArray 23) := ⟨_, rfl⟩
  have hB1 : Blk w1 w.heap.size 23 (P2 t x) := by rw [hw1]; exact (Blk.new w 23 (P2 t x)).alloc _
  have hB2 : Blk w1 (w.heap.size + 1) 23 (P2 0 0) := by
    have := Blk.new (w.alloc (.cells (P2 t x).toArray 23)) 23 (P2 0 0)
    rw [World.size_alloc] at this
    rw [hw1]; exact this
  have hb01 : Below w.heap.size w w1 := by rw [hw1]; exact ((Below.refl _ _).alloc (Nat.le_refl _) _).alloc (by simp) _
  have HB1 := Lib.hid hB1
  have HB2 := Lib.hid hB2
  have Hw1 := Lib.hid hw1
  clear hB1 hB2 hw1
  go_enter Try.func23, Try.ntmps23
  go_wp2_with fail
  change Calls _ _ _ ((w.alloc (.cells (P2 t x).toArray 23)).alloc (.cells (P2 0 0).toArray 23)) _
  rw [← Hw1.out]
  refine (may_any t x _).mono ?_
  rintro e w2 ⟨rfl, hb12⟩
  rw [H1.out]
  go_wp2_with fail
  refine (within_any _ _ _ _).mono ?_
  rintro e w3 ⟨rfl, hw3⟩
  subst hw3
  rw [Hwm.out]
  have HK1 := Lib.hid (HB1.out.below hb12 HB1.out.lt)
  have c0 : w2.cell? ⟨w.heap.size, 0, none⟩ = some (.int .i64 t) := HK1.out.cell 0
  have c1 : w2.cell? ⟨w.heap.size, 1, none⟩ = some (.int .i64 x) := HK1.out.cell 1
  go_wp2_with fail
  refine (free_any t x _).mono ?_
  rintro e w3 ⟨rfl, hb23⟩
  have hb13 : Below w1.heap.size w1 w3 := hb12.trans (hb23.mono hb12.size)
  have hb03 : Below w.heap.size w w3 := hb01.trans (hb13.mono hb01.size)
  have HR3 := Lib.hid (HB2.out.below hb13 HB2.out.lt)
  have H2 := one2 0 0
  clear c0 c1
  go_wp2_with (refine wpList_store_row rfl _ (.tmp 4) (.tmp 27) rfl (w.heap.size + 1) #[.int .i64 0, .int .i64 0] rfl rfl 23 #[.int .i64 0, .int .i64 0] HR3.out Hs.out rfl H2.out ?_)
  refine bodyPost_ret (v := .tuple #[.agg (P2 0 0).toArray, .slice none 0 0, .int .i64 50]) ?_ rfl ⟨rfl, ?_⟩
  · exact results_cell_tmp2_blk (p := 4) (u := 5) (u2 := 6) rfl _ _ rfl (HR3.out.row (P2 0 0)) Try.underlying23 rfl Hs.out
  · exact below_setRow hb03 (by omega) _
end Go.Proofs.Ytbleebiffpkcmaa
