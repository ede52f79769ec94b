/- The walk of the layer-1 laws' own 'wakes'. -/
import Derived.Test.YtdblcefamlhmfaaSumsC
import Derived.Lib.SlBytesConst
namespace Go.Proofs.Ytdblcefamlhmfaa
open Go.RowKit

def nine : List UInt8 := [49, 50, 51, 52, 53, 54, 55, 56, 57]
theorem crc_nine : n32 (Crc.sum nine) = 3421780262 := by decide +kernel
theorem crc_none : n32 (Crc.sum []) = 0 := by decide +kernel

set_option maxRecDepth 100000 in
set_option maxHeartbeats 400000 in
theorem wakes1_any (w : World) : Calls Try.prog 7 #[] w fun e w' => e = .returned (.bool true) ∧ Below w.heap.size w w' := by
  have kc := fun (w : World) (C : Array Value) (n c : Nat) => Lib.run_convert_bytes_const (P := Try.prog) w 22 5 C n c Try.underlying22 Try.underlying5
  go_enter Try.func7, Try.ntmps7
  go_wp2_with fail
  refine (sum_any none [] _ _ _ At.nil rfl (by decide)).mono ?_
  rintro e w1 ⟨rfl, hb1⟩
  rw [crc_none]
  go_wp2_with fail
  have hT : At (w1.alloc (.cells (bs nine).toArray 5 (9, 10))) (some ⟨w1.heap.size, 0, none⟩) (bs nine) := at_new w1 _ _ _
  refine (sum_any _ nine _ _ _ hT rfl (by decide)).mono ?_
  rintro e w2 ⟨rfl, hb2⟩
  rw [crc_nine]
  go_wp2_with fail
  go_ret
  exact ⟨rfl, (hb1.alloc hb1.size _).trans (hb2.mono (by have := hb1.size; simp; omega))⟩

theorem step_le {k : Nat} {w1 w2 : World} (h : Below w1.heap.size w1 w2) (hk : k ≤ w1.heap.size) : Below k w1 w2 := h.mono hk

/-- what the rows' step tells of a slice of integers that came in (the words of the kit's own shell) -/
def IsRow (k : IntKind) (w : World) (a : Option Addr) (len cap : Nat) (zs : List Int) : Prop :=
  (a = none ∧ len = 0 ∧ cap = 0 ∧ zs = []) ∨
  ∃ x, a = some x ∧ len ≤ cap ∧ cap ≤ maxLen ∧ zs.length = cap ∧ (∀ i, i < zs.length → w.cell? (x.add i) = some (.int k (zs.getD i 0))) ∧ ∀ n ∈ zs, (Lit.int k n).wf = true

theorem isRow_at {k : IntKind} {w : World} {a : Option Addr} {len cap : Nat} {zs : List Int} (h : IsRow k w a len cap zs) :
    len ≤ cap ∧ (zs.take len).length = len ∧ At w a ((zs.take len).map (Value.int k)) ∧ ∀ n ∈ zs.take len, (Lit.int k n).wf = true := by
  rcases h with ⟨rfl, rfl, rfl, rfl⟩ | ⟨x, rfl, h1, h2, h3, h4, h5⟩
  · exact ⟨Nat.le_refl _, rfl, At.nil, by simp⟩
  · have hl : (zs.take len).length = len := by rw [List.length_take]; omega
    refine ⟨h1, hl, fun hn => ?_, fun n hn => h5 n (List.mem_of_mem_take hn)⟩
    rw [List.length_map, hl] at hn
    have h0 := h4 0 (by omega)
    have hx : x = ⟨x.block, x.off, none⟩ := by
      have := cell_spot h0
      simp [Addr.add] at this
      cases x; simp_all
    refine ⟨x.block, x.off, by rw [← hx], fun j u hu => ?_⟩
    have hj : j < len := by
      rcases Nat.lt_or_ge j len with h | h
      · exact h
      · rw [List.getElem?_eq_none (by simp; omega)] at hu; cases hu
    have := h4 j (by omega)
    rw [hx, addr_add] at this
    rw [this]
    simp only [List.getElem?_map, List.getElem?_take, hj, if_true] at hu
    rw [List.getElem?_eq_getElem (by omega)] at hu
    simp only [Option.map_some, Option.some.injEq] at hu
    rw [← hu]
    simp [List.getD, List.getElem?_eq_getElem (show j < zs.length by omega)]

theorem isRow_bytes {w : World} {a : Option Addr} {len cap : Nat} {zs : List Int} (h : IsRow .u8 w a len cap zs) : ∃ l : List UInt8, l.length = len ∧ len ≤ cap ∧ At w a (bs l) := by
  obtain ⟨h1, h2, h3, h4⟩ := isRow_at h
  refine ⟨(zs.take len).map (fun n => UInt8.ofNat n.toNat), by simpa using h2, h1, ?_⟩
  have : bs ((zs.take len).map (fun n => UInt8.ofNat n.toNat)) = (zs.take len).map (Value.int .u8) := by
    unfold bs
    rw [List.map_map]
    apply List.map_congr_left
    intro n hn
    have hw := h4 n hn
    simp [Lit.wf, IntKind.min, IntKind.max, IntKind.signed, IntKind.bits] at hw
    show Value.int .u8 (n8 _) = _
    congr 1
    unfold n8
    rw [UInt8.toNat_ofNat']
    omega
  rw [this]
  exact h3

theorem u32_of_wf {n : Int} (h : (Lit.int .u32 n).wf = true) : ∃ x : BitVec 32, n = n32 x := by
  simp [Lit.wf, IntKind.min, IntKind.max, IntKind.signed, IntKind.bits] at h
  refine ⟨BitVec.ofNat 32 n.toNat, ?_⟩
  unfold n32
  rw [BitVec.toNat_ofNat, Nat.mod_eq_of_lt (by omega)]
  omega
theorem u8_of_wf {n : Int} (h : (Lit.int .u8 n).wf = true) : ∃ x : UInt8, n = n8 x := by
  simp [Lit.wf, IntKind.min, IntKind.max, IntKind.signed, IntKind.bits] at h
  refine ⟨UInt8.ofNat n.toNat, ?_⟩
  unfold n8
  rw [UInt8.toNat_ofNat']
  omega
theorem i64_of_wf {n : Int} (h : (Lit.int .i64 n).wf = true) : -9223372036854775808 ≤ n ∧ n ≤ 9223372036854775807 := by
  simp [Lit.wf, IntKind.min, IntKind.max, IntKind.signed, IntKind.bits] at h
  omega
end Go.Proofs.Ytdblcefamlhmfaa
