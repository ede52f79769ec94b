/- Acts in memory; the layer-3 laws' 'great'. -/
import Derived.Test.YtdinhcgkkoceiaaDiskD
import Derived.Test.YtdinhcgkkoceiaaMemArr
namespace Go.Proofs.Ytdinhcgkkoceiaa
open Go.RowKit

/-- an act where it lies -/
structure AV where
  d : Int
  n : Int
  B : Option Addr
  l : List UInt8
  cb : Nat
  P : Option Addr
  lp : Nat
  cp : Nat
def AV.cells (x : AV) : List Value := [.int .i64 x.d, .int .i64 x.n, .slice x.B x.l.length x.cb, .slice x.P x.lp x.cp]
def acells (L : List AV) : List Value := L.flatMap AV.cells
def AReads (w : World) (L : List AV) : Prop := ∀ x ∈ L, At w x.B (bs x.l) ∧ x.l.length ≤ x.cb ∧ (kI x.n).wf = true
theorem acells_length (L : List AV) : (acells L).length = L.length * 4 := by
  induction L with
  | nil => rfl
  | cons x L ih => simp only [acells, List.flatMap_cons, List.length_append, List.length_cons] at ih ⊢; simp only [AV.cells, List.length_cons, List.length_nil]; omega
theorem acells_at : ∀ (L : List AV) (k : Nat) (x : AV), L[k]? = some x → ((acells L).drop (k * 4)).take 4 = x.cells := by
  intro L
  induction L with
  | nil => intro k x h; simp at h
  | cons y L ih =>
    intro k x h
    cases k with
    | zero =>
      simp only [List.getElem?_cons_zero, Option.some.injEq] at h
      subst h
      rfl
    | succ k =>
      simp only [List.getElem?_cons_succ] at h
      have := ih k x h
      simp only [acells, List.flatMap_cons] at this ⊢
      rw [List.drop_append, show (k + 1) * 4 - (AV.cells y).length = k * 4 by simp [AV.cells]; omega, List.drop_eq_nil_of_le (by simp [AV.cells]; omega), List.nil_append]
      exact this
theorem At.act {w : World} {b off : Nat} {L : List AV} {k : Nat} {x : AV} (h : At w (some ⟨b, off, none⟩) (acells L)) (hx : L[k]? = some x) : At w (some ⟨b, off + k * 4, none⟩) x.cells := by
  have := h.cut (k * 4) 4
  rw [acells_at L k x hx, Option.map_some, addr_add] at this
  exact this
theorem AReads.below {w w' : World} {L : List AV} {B : Nat} (h : AReads w L) (hb : Below B w w') (hB : w.heap.size ≤ B) : AReads w' L := fun x hx => ⟨(h x hx).1.below hb hB, (h x hx).2⟩

/-- acts that the laws go through -/
def Small (L : List AV) : Prop := L.length ≤ 200 ∧ ∀ x ∈ L, x.l.length ≤ 200 ∧ x.lp ≤ 100

def GreatSays (L : List AV) (w : World) (e : Ending) (w' : World) : Prop := (∃ g : Bool, e = .returned (.bool g) ∧ (g = false → Small L)) ∧ w = w'

set_option maxRecDepth 100000 in
set_option maxHeartbeats 2000000 in
theorem great_any (A : Option Addr) (L : List AV) (n c : Nat) (w : World) (hA : At w A (acells L)) (hn : n = L.length) :
    Calls Try.prog 6 #[.slice A n c] w (GreatSays L w) := by
  have HA := Lib.hid hA
  have Hn := Lib.hid hn
  clear hA hn
  go_enter Try.func6, Try.ntmps6
  go_wp2_with fail
  go_loop [6] (fun i => ∃ j : Nat, j ≤ n ∧ j ≤ 200 ∧ i = .int .i64 j ∧ Hid (∀ k x, k < j → L[k]? = some x → x.l.length ≤ 200 ∧ x.lp ≤ 100)) (fun i => n - (intOf i).toNat)
  case atStart => exact ⟨0, by omega, by omega, rfl, fun k x h => by omega⟩
  case round =>
    obtain ⟨j, hj, hj2, rfl, hall⟩ := hrel
    by_cases hlt : (j : Int) < (n : Int)
    · by_cases h200 : j = 200
      · subst h200
        go_wp2_with fail
        go_ret
        exact ⟨⟨true, rfl, fun h => by cases h⟩, rfl⟩
      · have h200' : ¬ (200 : Int) ≤ (j : Int) := by omega
        obtain ⟨x, hx⟩ : ∃ x, L[j]? = some x := ⟨_, List.getElem?_eq_getElem (by have := Hn.out; omega)⟩
        obtain ⟨b, off, rfl, -, -⟩ := HA.out.all (by rw [acells_length]; have := Hn.out; omega)
        have hX := HA.out.act hx
        obtain ⟨d, nn, B, l, cb, P, lp, cp⟩ := x
        obtain ⟨b', o', e', -, hc⟩ := hX.all (by simp [AV.cells])
        cases e'
        have c2 : w.cell? ⟨b, off + j * 4 + 2, none⟩ = some (.slice B l.length cb) := by have := hc 2 _ rfl; simpa using this
        have c3 : w.cell? ⟨b, off + j * 4 + 3, none⟩ = some (.slice P lp cp) := by have := hc 3 _ rfl; simpa using this
        have Hx := Lib.hid hx
        clear hX hc hx h200
        by_cases hl : (200 : Int) < (l.length : Int)
        · go_wp2_with fail
          go_ret
          exact ⟨⟨true, rfl, fun h => by cases h⟩, rfl⟩
        · by_cases hp : (100 : Int) < (lp : Int)
          · go_wp2_with fail
            go_ret
            exact ⟨⟨true, rfl, fun h => by cases h⟩, rfl⟩
          · go_wp2_with fail
            refine ⟨⟨j + 1, by omega, by omega, by go_num, fun k y hk hy => ?_⟩, by simp [intOf]; omega⟩
            by_cases hkj : k = j
            · subst hkj
              rw [Hx.out] at hy
              cases hy
              exact ⟨by simp only; omega, by simp only; omega⟩
            · exact hall.out k y (by omega) hy
    · go_wp2_with fail
      go_ret
      refine ⟨⟨false, rfl, fun _ => ⟨by have := Hn.out; omega, fun x hx => ?_⟩⟩, rfl⟩
      obtain ⟨k, hk⟩ := List.getElem?_of_mem hx
      exact hall.out k x (by have := (List.getElem?_eq_some_iff.1 hk).1; have := Hn.out; omega) hk
end Go.Proofs.Ytdinhcgkkoceiaa
