/- Package disk: the iterator over the newest writes, whatever the body. -/
import Derived.Test.YtdinhcgkkoceiaaDiskR
import Derived.RangeFuncBox
import Derived.RangeFuncNested
import Derived.RangeFuncBound
import Derived.RangeFuncCalls
import Derived.RangeFuncLeaves
import Derived.Shelf.Abstract
import Derived.WalkKit
import Derived.OwnWalkIn
import Derived.TacticsInMore
import Derived.LoopNIn
import Derived.LoopIn
import Derived.Maps.OwnIn
import Derived.Sort.MapsRangeIn
namespace Go.Proofs.Ytdinhcgkkoceiaa
open Go.RowKit Go.Shelf
attribute [local go_sem] Oper.semAt_some

/-- of the blocks below B all but ms lie as they lay; beyond it what is under way -/
structure KD (B ms : Nat) (W W' : World) : Prop where
  size : W.heap.size ≤ W'.heap.size
  low : ∀ g, g < B → g ≠ ms → W'.heap[g]? = W.heap[g]?
  walk : ∀ g o, B ≤ g → W.heap[g]? = some o → o.isWalk = true → W'.heap[g]? = some o
theorem KD.refl (B ms : Nat) (W : World) : KD B ms W W := ⟨Nat.le_refl _, fun _ _ _ => rfl, fun _ _ _ h _ => h⟩
theorem KD.t {B ms : Nat} {W1 W2 W3 : World} (h : KD B ms W1 W2) (k : KD B ms W2 W3) : KD B ms W1 W3 :=
  ⟨Nat.le_trans h.size k.size, fun g hg hn => (k.low g hg hn).trans (h.low g hg hn), fun g o hg ho hw => k.walk g o hg (h.walk g o hg ho hw) hw⟩
theorem KD.b {B ms : Nat} (W : World) (l : Nat) (o o' : Obj) (hl : B ≤ l) (h : W.heap[l]? = some o) (_ : o.isCells = false) (hw : o.isWalk = false) : KD B ms W (W.putObj l o') := by
  have hg := grownBy_putObj' W l o'
  refine ⟨hg.size, fun g hgB _ => hg.block g (by have := (Array.getElem?_eq_some_iff.1 h).1; omega) (by intro e; cases e; omega), fun g o2 hgB ho hwk => ?_⟩
  have hne : g ≠ l := by intro e; subst e; rw [h] at ho; cases ho; rw [hw] at hwk; cases hwk
  exact (hg.block g (Array.getElem?_eq_some_iff.1 ho).1 (by intro e; cases e; exact hne rfl)).trans ho
theorem KD.grown {B : Nat} {W W' : World} {r : Nat} (hg : W.grownBy W' (some r)) (hr : B ≤ r) : ∀ g, g < B → g < W.heap.size → W'.heap[g]? = W.heap[g]? :=
  fun g hgB hgW => hg.block g hgW (by intro e; cases e; omega)

theorem ranges_kd {H : Type} {P : Program} {k : TypeId} {R : Value → Option (DataW H × List MemPlace)} {w w' : World} {b r n B ms : Nat} {D : DataW H} {left : Lit → Bool} {cnt : Nat}
    (h : w.ranges P k R b r n D left cnt) (hk : KD B ms w w') (hb : b < B) (hbm : b ≠ ms) (hr : B ≤ r) : w'.ranges P k R b r n D left cnt := by
  obtain ⟨es, clock, since, seen, c0, hb', F, hs, hD, hr', rest⟩ := h
  exact ⟨es, clock, since, seen, c0, (hk.low b hb hbm).trans hb', F, hs, hD, hk.walk r _ hr hr' rfl, rest⟩

/-- an entry of the cache, with its newest write -/
def LV (fC : Int → Option Value) (lv : Int → Value) : Type := { x : Int × Value // fC x.1 ≠ none ∧ x.2 = lv x.1 }
abbrev lencs {fC : Int → Option Value} {lv : Int → Value} (x : LV fC lv) : Array Value := #[.int .i64 x.1.1, x.1.2]
/-- the list names each entry of the cache -/
def Lst (q : Nat) (fC : Int → Option Value) (lv : Int → Value) (ys : List (LV fC lv)) : Prop := ys.length ≤ q ∧ ∀ i, (kI i).wf = true → fC i ≠ none → ∃ x ∈ ys, x.1.1 = i

set_option maxRecDepth 100000 in
set_option maxHeartbeats 2000000 in
theorem last1_in (F : Fence) (n : Nat) (h24 : F.fn 24) (hro : F.round = none) (hn : 1 ≤ n) (l B Bx p ms mc q : Nat) (fC : Int → Option Value) (lv : Int → Value) (J Jx : List (LV fC lv) → World → Prop)
    (hY : ∀ pre x W, J pre W → pre.length < q → YieldAt F (n - 1) Try.prog l (lencs x) W fun e W' =>
      (e = .returned (.bool true) ∧ J (pre ++ [x]) W' ∧ KD B ms W W') ∨ (e = .returned (.bool false) ∧ Jx (pre ++ [x]) W'))
    (W : World) (hJ : AbidesFrom W.heap.size J) (hBx : W.cell? ⟨Bx, 0, none⟩ = some (.pointer (some ⟨p, 0, none⟩))) (hp : W.cell? ⟨p, 1, none⟩ = some (.map (some mc))) (hM : VM Try.prog 3 W mc q fC) (hB : B ≤ W.heap.size)
    (hmc : mc < B) (hmcs : mc ≠ ms)
    (hlv : ∀ i v, fC i = some v → ∃ g m cap, v = .slice (some ⟨g, 0, none⟩) m cap ∧ 0 < m ∧ m ≤ 1000000 ∧ g < B ∧ g ≠ ms ∧ W.cell? ⟨g, m - 1, none⟩ = some (lv i)) (h0 : J [] W) :
    CallsIn F n Try.prog 24 #[.func (.yield l) #[] #[], .pointer (some ⟨Bx, 0, none⟩)] W fun e W' => (∃ v, e = .returned v) ∧
      ((∃ ys, Lst q fC lv ys ∧ J ys W') ∨ (∃ pre, True ∧ Jx pre W')) := by
  obtain ⟨D, hown, hsays⟩ := hM
  have hsz : Maps.size D ≤ q := hown.size_le
  have HL := Lib.hid hlv
  have HS := Lib.hid hsays
  have hBl := cell_lt hBx
  clear hlv hsays
  refine callsIn_of_wp Try.func24 rfl h24 ?_ hro
  simp only [Try.ntmps24, List.size_toArray, List.length_cons, List.length_nil, Nat.reduceAdd, Nat.reduceSub, Array.replicate_succ, Array.replicate_zero, List.push_toArray, List.append_toArray, List.nil_append, List.cons_append]
  gi_wp2_with (first
    | (gi_at_range; refine wpListIn_range_own _ rfl _ 44 rfl 3 52 (Maps.int_keyed Try.underlying3) Try.underlying44 _ mc q _ rfl hown ?_; intro w0 hrg0 hg0 hs0)
    | gi_in)
  try go_frame
  gi_loopw [3, 4] (fun _ _ wr => ∃ (left : Lit → Bool) (cnt : Nat) (ps : List (LV fC lv)), wr.ranges Try.prog 3 heldV mc W.heap.size q D left cnt ∧ ps.length + cnt ≤ Maps.size D ∧ Hid (∀ i, (kI i).wf = true → fC i ≠ none → left (kI i) = true ∨ ∃ x ∈ ps, x.1.1 = i) ∧ J ps wr ∧ Hid (w0.heap.size ≤ wr.heap.size ∧ ∀ g, g < B → g ≠ ms → wr.heap[g]? = w0.heap[g]?))
    (fun _ _ wr => wr.rangeLeft mc W.heap.size)
  case atStart =>
    refine ⟨_, _, [], hrg0, by simp, fun i _ hi => .inl ?_, hJ [] W w0 none h0 hg0 (fun r e => by cases e), Nat.le_refl _, fun _ _ _ => rfl⟩
    rw [(HS.out i).1]
    cases hf : fC i with
    | none => exact absurd hf hi
    | some v => rfl
  case round =>
    obtain ⟨left, cnt, ps, hrg, hcs, hC, hJs, hkd⟩ := hrel
    gi_wp2_with (first
      | (gi_at_next; refine wpListIn_next_ranges _ rfl _ rfl 3 (Maps.int_keyed Try.underlying3) heldV (Value.int .i64) (fun v : Value => v) (fun key kl hk => by obtain ⟨x, hx, _⟩ := Maps.keyOf_int_inv Try.underlying3 hk; exact ⟨x, hx⟩) (fun v y _ => ⟨v, rfl⟩) mc W.heap.size q _ _ _ rfl hrg ?_ ?_)
      | gi_in)
    · intro hc0 hl0
      gi_wp2
      go_end0
      refine ⟨⟨_, rfl⟩, .inl ⟨ps, ⟨by omega, fun i hw hi => ?_⟩, hJs⟩⟩
      rcases hC.out i hw hi with h | h
      · rw [hl0] at h; cases h
      · exact h
    · intro x c kl yd yp w2 cnt2 hkey hlk hv hat hrg2 hlt hg2 hs2 hen
      obtain ⟨x', ex, rfl, hwx⟩ := Maps.keyOf_int_inv Try.underlying3 hkey
      cases ex
      have hy : yd = .held c := by cases hv; rfl
      have hfx : fC x = some c := by
        obtain ⟨h1, h2⟩ := HS.out x
        have h3 : Maps.has D (kI x) = true := Maps.has_true_of_atKey hat
        rw [h3] at h1
        cases hf : fC x with
        | none => rw [hf] at h1; cases h1
        | some v =>
          have h4 := h2 v hf .nil
          rw [hat .nil] at h4
          simp only [hy] at h4
          injection h4 with h4
          rw [h4]
      obtain ⟨g, m, cap, rfl, hm0, hm1, hgB, hgm, hcell⟩ := HL.out x c hfx
      have hJ2 : J ps w2 := hJ ps wr w2 (some W.heap.size) hJs hg2 (fun r e => by cases e; exact ⟨Nat.le_refl _, hrg.iter_walk⟩)
      have hcell2 : w2.cell? ⟨g, m - 1, none⟩ = some (lv x) := by
        have hlt0 := cell_lt hcell
        have e1 : w0.heap[g]? = W.heap[g]? := hg0.block g hlt0 (by simp)
        have e2 := hkd.out.2 g hgB hgm
        have e3 := hg2.block g (by have := hkd.out.1; have := hg0.size; simp only at hlt0; omega) (by intro e; cases e; simp only at hlt0; omega)
        exact (World.cell?_of_block (w := W) (e3.trans (e2.trans e1))).trans hcell
      obtain ⟨e0, he0⟩ : ∃ e0 : LV fC lv, e0 = ⟨(x, lv x), by simp [hfx], rfl⟩ := ⟨_, rfl⟩
      have he1 : e0.1.1 = x := by rw [he0]
      have he2 : e0.1.2 = lv x := by rw [he0]
      obtain ⟨fn, tmps, assign, body, hy', hR⟩ := hY ps e0 w2 hJ2 (by omega)
      dsimp only [lencs] at hy'
      rw [he1, he2] at hy'
      have He1 := Lib.hid he1
      clear he0 he1 he2
      have q1 : IntKind.i64.wrap ((m : Int) - 1) = (m : Int) - 1 := IntWalk.i64_in _ (by omega)
      have q2 : ((m : Int) - 1).toNat = m - 1 := by omega
      have q3 : (0 : Int) ≤ (m : Int) - 1 := by omega
      have q4 : (m : Int) - 1 < (m : Int) := by omega
      clear hs2
      gi_wp2
      refine hR.mono ?_
      have hC2 : Hid (∀ i, (kI i).wf = true → fC i ≠ none → (left (kI i) && !(kI i).sameKey (kI x)) = true ∨ ∃ y ∈ ps ++ [e0], y.1.1 = i) := fun i hw hi => by
        by_cases hix : i = x
        · rw [hix]
          exact .inr ⟨e0, by simp, He1.out⟩
        · rcases hC.out i hw hi with h | ⟨y, hy, hyi⟩
          · left
            rw [h, Maps.sameKey_ne (kI_ne hix)]; rfl
          · exact .inr ⟨y, List.mem_append_left _ hy, hyi⟩
      rintro e W3 (⟨rfl, hJ3, hk3⟩ | ⟨rfl, hJx3⟩)
      · gi_wp2
        have hrg3 := ranges_kd hrg2 hk3 hmc hmcs hB
        have hkd2 : ∀ g, g < B → g ≠ ms → w2.heap[g]? = w0.heap[g]? := fun g' hg' hn' =>
          (hg2.block g' (by have := hkd.out.1; have := hg0.size; omega) (by intro e; cases e; omega)).trans (hkd.out.2 g' hg' hn')
        have hsz2 := hg2.size
        go_roundw
        case rel => exact ⟨_, cnt2, ps ++ [e0], hrg3, by simp; omega, hC2, hJ3, Nat.le_trans hkd.out.1 (Nat.le_trans hsz2 hk3.size), fun g' hg' hn' => (hk3.low g' hg' hn').trans (hkd2 g' hg' hn')⟩
        case measure => rw [hrg3.left_eq, hrg.left_eq]; exact hlt
      · gi_wp2
        refine bodyPost_ret (results_none rfl _ _ _) rfl ?_
        exact ⟨⟨_, rfl⟩, .inr ⟨ps ++ [e0], trivial, hJx3⟩⟩
end Go.Proofs.Ytdinhcgkkoceiaa
