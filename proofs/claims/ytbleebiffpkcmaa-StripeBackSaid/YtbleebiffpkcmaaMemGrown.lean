/- What is read stays read while a row grows. Over any program. -/
import Derived.Test.YtbleebiffpkcmaaMemApp
namespace Go.Proofs.Ytbleebiffpkcmaa
open Go.RowKit

theorem At.grown0 {w w' : World} {A : Option Addr} {xs : List Value} (h : At w A xs) (hg : w.grownBy w' none) : At w' A xs :=
  h.keep fun p hp => World.cell?_of_block (w := w) (hg.block p.block hp (by simp))
theorem At.grown {w w' : World} {A : Option Addr} {xs : List Value} {row : Option Nat} (h : At w A xs) (hg : w.grownBy w' row) (hne : ∀ a, A = some a → some a.block ≠ row) : At w' A xs := fun hn => by
  obtain ⟨b, off, e, hlt, hc⟩ := h.all hn
  exact ⟨b, off, e, fun j u hu => (World.cell?_of_block (w := w) (hg.block b hlt (by have := hne _ e; exact this))).trans (hc j u hu)⟩

theorem zero_is {P : Program} {e : TypeId} {size : Nat} {v z : Value} (h : (P.info? e).bind (·.zero) = some z) (hz : z.cells = Array.replicate size v) :
    ∀ i z', P.info? e = some i → i.zero = some z' → z'.cells = Array.replicate size v := by
  intro i z' hi hz'
  rw [hi] at h
  simp only [Option.bind_some] at h
  rw [hz'] at h
  cases h
  exact hz
end Go.Proofs.Ytbleebiffpkcmaa
