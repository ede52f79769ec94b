/- Frames in memory: what a row of frames reads as; what may be joined. -/
import Derived.Test.YtcaejcdmkihmbaaFrameC
import Derived.Test.YtcaejcdmkihmbaaMemArr
namespace Go.Proofs.Ytcaejcdmkihmbaa
open Go.RowKit

/-- a frame where it lies -/
structure FV where
  f : Fr
  A : Option Addr
  c : Nat
def FV.cells (x : FV) : List Value := fc x.f.seq x.f.inc x.f.part x.f.of (n32 x.f.mark) x.A x.f.load.length x.c
def fcells (L : List FV) : List Value := L.flatMap FV.cells
def fcat (L : List FV) : List UInt8 := L.flatMap fun x => x.f.load
def Reads (w : World) (L : List FV) : Prop := ∀ x ∈ L, At w x.A (bs x.f.load)

theorem FV.cells_length (x : FV) : x.cells.length = 6 := rfl
theorem fcells_length (L : List FV) : (fcells L).length = L.length * 6 := by
  induction L with
  | nil => rfl
  | cons x L ih => simp only [fcells, List.flatMap_cons, List.length_append, FV.cells_length, List.length_cons] at ih ⊢; omega
theorem fcells_one (L : List FV) : ∀ u ∈ fcells L, u.oneCell' = true := by
  intro u hu
  obtain ⟨x, _, hx⟩ := List.mem_flatMap.1 hu
  exact fc_one _ _ _ _ _ _ _ _ u hx
theorem fcells_at : ∀ (L : List FV) (k : Nat) (x : FV), L[k]? = some x → ((fcells L).drop (k * 6)).take 6 = x.cells := by
  intro L
  induction L with
  | nil => intro k x h; simp at h
  | cons y L ih =>
    intro k x h
    cases k with
    | zero =>
      simp only [List.getElem?_cons_zero, Option.some.injEq] at h
      subst h
      simp only [fcells, List.flatMap_cons, Nat.zero_mul, List.drop_zero]
      exact List.take_left' rfl
    | succ k =>
      simp only [List.getElem?_cons_succ] at h
      have := ih k x h
      simp only [fcells, List.flatMap_cons] at this ⊢
      rw [List.drop_append, FV.cells_length, show (k + 1) * 6 - 6 = k * 6 by omega, List.drop_eq_nil_of_le (by rw [FV.cells_length]; omega), List.nil_append]
      exact this
theorem At.frame {w : World} {b off : Nat} {L : List FV} {k : Nat} {x : FV} (h : At w (some ⟨b, off, none⟩) (fcells L)) (hx : L[k]? = some x) : At w (some ⟨b, off + k * 6, none⟩) x.cells := by
  have := h.cut (k * 6) 6
  rw [fcells_at L k x hx, Option.map_some, addr_add] at this
  exact this
theorem Reads.below {w w' : World} {L : List FV} {B : Nat} (h : Reads w L) (hb : Below B w w') (hB : w.heap.size ≤ B) : Reads w' L := fun x hx => (h x hx).below hb hB
theorem fcat_snoc (L : List FV) (k : Nat) (x : FV) (h : L[k]? = some x) : fcat (L.take (k + 1)) = fcat (L.take k) ++ x.f.load := by
  rw [List.take_add_one, h]
  simp [fcat]
theorem fcat_le (L : List FV) (k m : Nat) (h : ∀ x ∈ L, x.f.load.length ≤ m) (hk : k ≤ 2) : (fcat (L.take k)).length ≤ 2 * m := by
  have key : ∀ M : List FV, (∀ x ∈ M, x.f.load.length ≤ m) → (fcat M).length ≤ M.length * m := by
    intro M
    induction M with
    | nil => intro _; simp [fcat]
    | cons y M ih =>
      intro hM
      have h1 := ih (fun x hx => hM x (List.mem_cons_of_mem _ hx))
      have h2 := hM y List.mem_cons_self
      simp only [fcat, List.flatMap_cons, List.length_append, List.length_cons] at h1 ⊢
      rw [Nat.succ_mul]
      omega
  have h1 := key (L.take k) (fun x hx => h x (List.mem_of_mem_take hx))
  have h2 : (L.take k).length ≤ 2 := by rw [List.length_take]; omega
  have := Nat.mul_le_mul_right m h2
  omega

/-- is a frame at its place? -/
def goodF (x y : Fr) (k n : Nat) : Prop := x.ok = true ∧ x.part = (k : Int) ∧ x.of = (n : Int) ∧ x.seq = y.seq + (k : Int) ∧ x.inc = y.inc ∧ x.mark = y.mark
/-- may frames be joined? -/
def Joins (L : List FV) : Prop := ∃ y, L[0]? = some y ∧ (∀ k x, L[k]? = some x → goodF x.f y.f k L.length) ∧ Crc.sum (fcat L) = y.f.mark
end Go.Proofs.Ytcaejcdmkihmbaa
