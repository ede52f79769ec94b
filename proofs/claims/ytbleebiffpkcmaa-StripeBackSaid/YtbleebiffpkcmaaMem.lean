/- Words for memory: rows of bytes that are read, blocks that are known whole; small laws on them. No program here. -/
import Derived.WalkKit
import Derived.WalkSpells
import Derived.WalkLawsBesides
import Derived.Outline
import Derived.Deep.AppendLies
import Derived.Deep.Draws
import Derived.Laws.Rows
import Derived.Laws.BitsAllLaws
import Derived.Lib.Hide
namespace Go.Proofs.Ytbleebiffpkcmaa
open Go.RowKit

theorem below_cells {W w1 : World} (hb : Below W.heap.size W w1) : (∀ b o, b < W.heap.size → w1.cell? ⟨b, o, none⟩ = W.cell? ⟨b, o, none⟩) ∧ (∀ b o, b < W.heap.size → w1.frozen? ⟨b, o, none⟩ = W.frozen? ⟨b, o, none⟩) :=
  ⟨fun b o h => hb.cell (p := ⟨b, o, none⟩) h, fun b o h => hb.frozen (p := ⟨b, o, none⟩) h⟩

theorem ret_eq {a b : Value} (h : a = b) : Ending.returned a = .returned b := by rw [h]

/-- the number of a byte, of a word: closed to the walk's simp -/
def n8 (b : UInt8) : Int := (b.toNat : Int)
def n32 (x : BitVec 32) : Int := (x.toNat : Int)
/-- a byte as a value, a word as a value -/
abbrev B8 (b : UInt8) : Value := .int .u8 (n8 b)
abbrev W32 (x : BitVec 32) : Value := .int .u32 (n32 x)
def bs (l : List UInt8) : List Value := l.map B8

theorem n8_0 (b : UInt8) : 0 ≤ n8 b := by unfold n8; omega
theorem n8_lt (b : UInt8) : n8 b < 256 := by have := b.toNat_lt; unfold n8; omega
theorem n32_0 (x : BitVec 32) : 0 ≤ n32 x := by unfold n32; omega
theorem n32_lt (x : BitVec 32) : n32 x < 4294967296 := by have := x.isLt; unfold n32; omega
theorem bs_length (l : List UInt8) : (bs l).length = l.length := by simp [bs]
theorem bs_get (l : List UInt8) (k : Nat) (h : k < l.length) : (bs l)[k]'(by rw [bs_length]; exact h) = B8 l[k] := by simp [bs]
theorem bs_append (a b : List UInt8) : bs (a ++ b) = bs a ++ bs b := by simp [bs]
theorem bs_inj {a b : List UInt8} (h : bs a = bs b) : a = b := by
  unfold bs at h
  refine (List.map_inj_right (fun x y e => ?_)).1 h
  have e2 : n8 x = n8 y := by injection e
  unfold n8 at e2
  exact UInt8.toNat_inj.1 (by omega)

theorem cell_lt {w : World} {a : Addr} {v : Value} (h : w.cell? a = some v) : a.block < w.heap.size := by
  rcases Nat.lt_or_ge a.block w.heap.size with hlt | hge
  · exact hlt
  · unfold World.cell? at h; rw [Array.getElem?_eq_none hge] at h; cases h
theorem cell_spot {w : World} {a : Addr} {v : Value} (h : w.cell? a = some v) : a.spot = none := by
  unfold World.cell? at h
  split at h
  · split at h
    · cases h
    · cases hs : a.spot <;> simp_all
  · cases h

/-- a row of cells that is read: at address A lie the cells xs -/
def At (w : World) (A : Option Addr) (xs : List Value) : Prop :=
  0 < xs.length → ∃ b off, A = some ⟨b, off, none⟩ ∧ ∀ j u, xs[j]? = some u → w.cell? ⟨b, off + j, none⟩ = some u

section
variable {w w' : World} {A : Option Addr} {xs : List Value}
theorem At.nil : At w A [] := fun h => absurd h (by simp)
theorem At.get (h : At w A xs) {k : Nat} (hk : k < xs.length) : ∃ b off, A = some ⟨b, off, none⟩ ∧ b < w.heap.size ∧ w.cell? ⟨b, off + k, none⟩ = some xs[k] := by
  obtain ⟨b, off, e, hc⟩ := h (by omega)
  have := hc k _ (List.getElem?_eq_getElem hk)
  exact ⟨b, off, e, cell_lt this, this⟩
theorem At.all (h : At w A xs) (hn : 0 < xs.length) : ∃ b off, A = some ⟨b, off, none⟩ ∧ b < w.heap.size ∧ ∀ j u, xs[j]? = some u → w.cell? ⟨b, off + j, none⟩ = some u := by
  obtain ⟨b, off, e, hc⟩ := h hn
  exact ⟨b, off, e, cell_lt (hc 0 _ (List.getElem?_eq_getElem hn)), hc⟩
theorem At.below {B : Nat} (h : At w A xs) (hb : Below B w w') (hB : w.heap.size ≤ B) : At w' A xs := fun hn => by
  obtain ⟨b, off, e, hlt, hc⟩ := h.all hn
  exact ⟨b, off, e, fun j u hu => (hb.cell (p := ⟨b, off + j, none⟩) (by show b < B; omega)).trans (hc j u hu)⟩
theorem At.keep (h : At w A xs) (hk : ∀ p : Addr, p.block < w.heap.size → w'.cell? p = w.cell? p) : At w' A xs := fun hn => by
  obtain ⟨b, off, e, hlt, hc⟩ := h.all hn
  exact ⟨b, off, e, fun j u hu => (hk _ hlt).trans (hc j u hu)⟩
theorem At.drew (h : At w A xs) : At w.drew A xs := h
theorem At.drewN (h : At w A xs) (k : Nat) : At (w.drewN k) A xs := h
theorem At.alloc (h : At w A xs) (o : Obj) : At (w.alloc o) A xs := h.keep fun p hp => World.cell?_alloc_lt w o p hp
end

theorem At.left {w : World} {A : Option Addr} {xs ys : List Value} (h : At w A (xs ++ ys)) : At w A xs := fun hn => by
  obtain ⟨b, off, e, hc⟩ := h (by simp; omega)
  refine ⟨b, off, e, fun j u hu => hc j u ?_⟩
  have hj : j < xs.length := by
    rcases Nat.lt_or_ge j xs.length with h | h
    · exact h
    · rw [List.getElem?_eq_none h] at hu; cases hu
  rw [List.getElem?_append_left hj]; exact hu
theorem At.right {w : World} {b off : Nat} {xs ys : List Value} (h : At w (some ⟨b, off, none⟩) (xs ++ ys)) : At w (some ⟨b, off + xs.length, none⟩) ys := fun hn => by
  obtain ⟨b', off', e, hc⟩ := h (by simp; omega)
  cases e
  refine ⟨b, off + xs.length, rfl, fun j u hu => ?_⟩
  rw [Nat.add_assoc]
  exact hc _ u (by rw [List.getElem?_append_right (by omega)]; simpa using hu)

theorem At.right0 {w : World} {b : Nat} {xs ys : List Value} (h : At w (some ⟨b, 0, none⟩) (xs ++ ys)) : At w (some ⟨b, xs.length, none⟩) ys := by
  have := h.right
  rwa [Nat.zero_add] at this

theorem At.cut {w : World} {A : Option Addr} {xs : List Value} (h : At w A xs) (m k : Nat) : At w (A.map (fun x => x.add m)) ((xs.drop m).take k) := fun hn => by
  simp only [List.length_take, List.length_drop] at hn
  obtain ⟨b, off, rfl, hc⟩ := h (by omega)
  refine ⟨b, off + m, by simp only [Option.map_some]; unfold Addr.add; split <;> simp_all, fun j u hu => ?_⟩
  rw [Nat.add_assoc]
  refine hc _ u ?_
  rw [List.getElem?_take] at hu
  split at hu
  · rw [List.getElem?_drop] at hu; exact hu
  · cases hu
theorem At.cut0 {w : World} {A : Option Addr} {xs : List Value} (h : At w A xs) (k : Nat) : At w A (xs.take k) := fun hn => by
  simp only [List.length_take] at hn
  obtain ⟨b, off, rfl, hc⟩ := h (by omega)
  refine ⟨b, off, rfl, fun j u hu => hc j u ?_⟩
  rw [List.getElem?_take] at hu
  split at hu
  · exact hu
  · cases hu

/-- a block that is known whole -/
def Blk (w : World) (g : Nat) (t : TypeId) (cs : List Value) : Prop := w.heap[g]? = some (.cells cs.toArray t (0, 0))

section
variable {w w' : World} {g : Nat} {t : TypeId} {cs : List Value}
theorem Blk.lt (h : Blk w g t cs) : g < w.heap.size := by
  rcases Nat.lt_or_ge g w.heap.size with hlt | hge
  · exact hlt
  · unfold Blk at h; rw [Array.getElem?_eq_none hge] at h; cases h
theorem Blk.cell (h : Blk w g t cs) (i : Nat) : w.cell? ⟨g, i, none⟩ = cs[i]? := by rw [cell_of_row w g i _ t (0, 0) h]; simp
theorem Blk.frozen (h : Blk w g t cs) (i : Nat) : w.frozen? ⟨g, i, none⟩ = false := by
  unfold Blk at h
  simp [World.frozen?, h]
theorem at_new (w : World) (xs : List Value) (t : TypeId) (fr : Nat × Nat) : At (w.alloc (.cells xs.toArray t fr)) (some ⟨w.heap.size, 0, none⟩) xs :=
  fun _ => ⟨w.heap.size, 0, rfl, fun j u hu => by rw [cell_of_row _ _ _ xs.toArray t fr (heap_alloc_new w _)]; simpa using hu⟩
theorem Blk.new (w : World) (t : TypeId) (cs : List Value) : Blk (w.alloc (.cells cs.toArray t)) w.heap.size t cs := heap_alloc_new w _
theorem Blk.drew (h : Blk w g t cs) : Blk w.drew g t cs := h
theorem Blk.drewN (h : Blk w g t cs) (n : Nat) : Blk (w.drewN n) g t cs := h
theorem Blk.alloc (h : Blk w g t cs) (o : Obj) : Blk (w.alloc o) g t cs := (Below.heap_alloc w o g h.lt).trans h
theorem Blk.set_ (h : Blk w g t cs) (i : Nat) (u : Value) : Blk (w.setCell ⟨g, i, none⟩ u) g t (cs.set i u) := by
  unfold Blk at h ⊢
  simp [World.setCell, Array.getElem?_modify, h]
theorem Blk.far (h : Blk w g t cs) {p : Addr} (hp : g ≠ p.block) (u : Value) : Blk (w.setCell p u) g t cs := (Below.heap_setCell w p u g hp).trans h
theorem Blk.row (h : Blk w g t cs) (ds : List Value) : Blk (w.setRow g ds.toArray) g t ds := setRow_heap w g _ _ t _ h
theorem Blk.rowFar (h : Blk w g t cs) {k : Nat} (hk : g ≠ k) (ds : Array Value) : Blk (w.setRow k ds) g t cs := (setRow_other w k g ds hk).trans h
theorem Blk.below {B : Nat} (h : Blk w g t cs) (hb : Below B w w') (hg : g < B) : Blk w' g t cs := (hb.block g hg).trans h
theorem Blk.grown {row : Option Nat} (h : Blk w g t cs) (hb : w.grownBy w' row) (hg : some g ≠ row) : Blk w' g t cs := (hb.block g h.lt hg).trans h
theorem Blk.at_ (h : Blk w g t cs) (off : Nat) (xs : List Value) (hx : ∀ j u, xs[j]? = some u → cs[off + j]? = some u) : At w (some ⟨g, off, none⟩) xs :=
  fun _ => ⟨g, off, rfl, fun j u hu => by rw [h.cell]; exact hx j u hu⟩
end
end Go.Proofs.Ytbleebiffpkcmaa
