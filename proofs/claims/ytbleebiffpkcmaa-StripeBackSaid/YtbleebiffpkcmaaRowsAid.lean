/- What a law's walk is told of a slice of integers that came in; bytes to a string. -/
import Derived.Test.YtbleebiffpkcmaaProg
import Derived.Test.YtbleebiffpkcmaaMemApp
namespace Go.Proofs.Ytbleebiffpkcmaa
open Go.RowKit

theorem convStr (w : World) (A : Option Addr) (n c : Nat) (l : List UInt8) (hA : At w A (bs l)) (hn : n = l.length) : (convert 47 9 (.slice A n c)).run Try.prog w = .ok (.string (str l)) w :=
  run_str w _ _ _ Try.underlying47 Try.underlying5 Try.underlying9 A n c l hA hn

/-- what the rows' step tells of a slice of integers that came in (the words of the kit's own shell) -/
def IsRow (k : IntKind) (w : World) (a : Option Addr) (len cap : Nat) (zs : List Int) : Prop :=
  (a = none ∧ len = 0 ∧ cap = 0 ∧ zs = []) ∨
  ∃ x, a = some x ∧ len ≤ cap ∧ cap ≤ maxLen ∧ zs.length = cap ∧ (∀ i, i < zs.length → w.cell? (x.add i) = some (.int k (zs.getD i 0))) ∧ ∀ n ∈ zs, (Lit.int k n).wf = true

theorem isRow_at {k : IntKind} {w : World} {a : Option Addr} {len cap : Nat} {zs : List Int} (h : IsRow k w a len cap zs) :
    len ≤ cap ∧ (zs.take len).length = len ∧ At w a ((zs.take len).map (Value.int k)) ∧ ∀ n ∈ zs.take len, (Lit.int k n).wf = true := by
  rcases h with ⟨rfl, rfl, rfl, rfl⟩ | ⟨x, rfl, h1, h2, h3, h4, h5⟩
  · exact ⟨Nat.le_refl _, rfl, At.nil, by simp⟩
  · have hl : (zs.take len).length = len := by rw [List.length_take]; omega
    refine ⟨h1, hl, fun hn => ?_, fun n hn => h5 n (List.mem_of_mem_take hn)⟩
    rw [List.length_map, hl] at hn
    have h0 := h4 0 (by omega)
    have hx : x = ⟨x.block, x.off, none⟩ := by
      have := cell_spot h0
      simp [Addr.add] at this
      cases x; simp_all
    refine ⟨x.block, x.off, by rw [← hx], fun j u hu => ?_⟩
    have hj : j < len := by
      rcases Nat.lt_or_ge j len with h | h
      · exact h
      · rw [List.getElem?_eq_none (by simp; omega)] at hu; cases hu
    have := h4 j (by omega)
    rw [hx, addr_add] at this
    rw [this]
    simp only [List.getElem?_map, List.getElem?_take, hj, if_true] at hu
    rw [List.getElem?_eq_getElem (by omega)] at hu
    simp only [Option.map_some, Option.some.injEq] at hu
    rw [← hu]
    simp [List.getD, List.getElem?_eq_getElem (show j < zs.length by omega)]

theorem isRow_bytes {w : World} {a : Option Addr} {len cap : Nat} {zs : List Int} (h : IsRow .u8 w a len cap zs) : ∃ l : List UInt8, l.length = len ∧ len ≤ cap ∧ At w a (bs l) := by
  obtain ⟨h1, h2, h3, h4⟩ := isRow_at h
  refine ⟨(zs.take len).map (fun n => UInt8.ofNat n.toNat), by simpa using h2, h1, ?_⟩
  have : bs ((zs.take len).map (fun n => UInt8.ofNat n.toNat)) = (zs.take len).map (Value.int .u8) := by
    unfold bs
    rw [List.map_map]
    apply List.map_congr_left
    intro n hn
    have hw := h4 n hn
    simp [Lit.wf, IntKind.min, IntKind.max, IntKind.signed, IntKind.bits] at hw
    show Value.int .u8 (n8 _) = _
    congr 1
    unfold n8
    rw [UInt8.toNat_ofNat']
    omega
  rw [this]
  exact h3

theorem u32_of_wf {n : Int} (h : (Lit.int .u32 n).wf = true) : ∃ x : BitVec 32, n = n32 x := by
  simp [Lit.wf, IntKind.min, IntKind.max, IntKind.signed, IntKind.bits] at h
  refine ⟨BitVec.ofNat 32 n.toNat, ?_⟩
  unfold n32
  rw [BitVec.toNat_ofNat, Nat.mod_eq_of_lt (by omega)]
  omega
theorem u8_of_wf {n : Int} (h : (Lit.int .u8 n).wf = true) : ∃ x : UInt8, n = n8 x := by
  simp [Lit.wf, IntKind.min, IntKind.max, IntKind.signed, IntKind.bits] at h
  refine ⟨UInt8.ofNat n.toNat, ?_⟩
  unfold n8
  rw [UInt8.toNat_ofNat']
  omega
theorem i64_of_wf {n : Int} (h : (Lit.int .i64 n).wf = true) : -9223372036854775808 ≤ n ∧ n ≤ 9223372036854775807 := by
  simp [Lit.wf, IntKind.min, IntKind.max, IntKind.signed, IntKind.bits] at h
  omega
end Go.Proofs.Ytbleebiffpkcmaa
