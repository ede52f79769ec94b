/- Package frame's Cut in the words of frames; the law's own wakes. -/
import Derived.Test.YtcaejcdmkihmbaaFrameJ
namespace Go.Proofs.Ytcaejcdmkihmbaa
open Go.RowKit

/-- a record's frames -/
def Fr.cut (l : List UInt8) (seq inc : Int) : List Fr :=
  if l.length ≤ 45 then [⟨seq, inc, 0, 1, Crc.sum l, l⟩] else [⟨seq, inc, 0, 2, Crc.sum l, l.take 45⟩, ⟨seq + 1, inc, 1, 2, Crc.sum l, l.drop 45⟩]
theorem cut_len (l : List UInt8) (seq inc : Int) : (Fr.cut l seq inc).length = if l.length ≤ 45 then 1 else 2 := by unfold Fr.cut; split <;> rfl
theorem cut_pos (l : List UInt8) (seq inc : Int) : 1 ≤ (Fr.cut l seq inc).length ∧ (Fr.cut l seq inc).length ≤ 2 := by rw [cut_len]; split <;> omega

theorem cutOk_parts {n : Nat} {seq inc : Int} (h : Fr.cutOk n seq inc = true) : 1 ≤ n ∧ n ≤ 90 ∧ 1 ≤ seq ∧ 0 ≤ inc ∧ inc ≤ 1048576 ∧ seq ≤ 1099511627776 ∧ (45 < n → seq + 1 ≤ 1099511627776) := by
  unfold Fr.cutOk at h
  rw [decide_eq_true_eq] at h
  obtain ⟨h1, h2, h3, h4, h5, h6⟩ := h
  refine ⟨h1, h2, h3, h4, h5, by omega, fun h => by omega⟩

theorem cut_yes (A : Option Addr) (l : List UInt8) (n c : Nat) (seq inc : Int) (w : World) (hA : At w A (bs l)) (hn : n = l.length) (hc : n ≤ c) (hok : Fr.cutOk n seq inc = true) :
    Calls Try.prog 8 #[.slice A n c, .int .i64 seq, .int .i64 inc] w fun e w' => ∃ g d L, e = .returned (.tuple #[.slice (some ⟨g, 0, none⟩) L.length d, .int .i64 0]) ∧ L.map FV.f = Fr.cut l seq inc ∧ L.length ≤ d ∧ w.heap.size ≤ g ∧
      At w' (some ⟨g, 0, none⟩) (fcells L) ∧ Reads w' L ∧ Below w.heap.size w w' := by
  obtain ⟨h1, h2, h3, h4, h5, h6, h7⟩ := cutOk_parts hok
  by_cases h45 : n ≤ 45
  · refine (cut_one A l n c seq inc w hA hn hc h1 h45 h3 h6 h4 h5).mono ?_
    rintro e w' ⟨v, B, d, rfl, hB, hown, hb⟩
    obtain ⟨g, d', rfl, hd, _, hg, hat⟩ := own_shape hown (by decide)
    subst hn
    refine ⟨g, d', [⟨⟨seq, inc, 0, 1, Crc.sum l, l⟩, B, d⟩], rfl, ?_, hd, hg, ?_, ?_, hb⟩
    · unfold Fr.cut; rw [if_pos h45]; rfl
    · simpa [fcells, FV.cells] using hat
    · intro x hx
      simp only [List.mem_singleton] at hx
      subst hx
      exact hB
  · have hl : l = l.take 45 ++ l.drop 45 := (List.take_append_drop 45 l).symm
    have hlen : (l.take 45).length = 45 := by rw [List.length_take]; omega
    have hlen2 : (l.drop 45).length = n - 45 := by rw [List.length_drop]; omega
    refine (cut_two A (l.take 45) (l.drop 45) n c seq inc w (by rw [← hl]; exact hA) hlen (by omega) (by omega) (by omega) hc h3 (h7 (by omega)) h4 h5).mono ?_
    rintro e w' ⟨v, B, d, B', d', rfl, hB, hB', hown, hb⟩
    rw [← hl] at hown
    obtain ⟨g, e', rfl, hd, _, hg, hat⟩ := own_shape hown (by decide)
    refine ⟨g, e', [⟨⟨seq, inc, 0, 2, Crc.sum l, l.take 45⟩, B, d⟩, ⟨⟨seq + 1, inc, 1, 2, Crc.sum l, l.drop 45⟩, B', d'⟩], rfl, ?_, hd, hg, ?_, ?_, hb⟩
    · unfold Fr.cut; rw [if_neg (by omega)]; rfl
    · simp only [fcells, FV.cells, List.flatMap_cons, List.flatMap_nil, List.append_nil]
      rw [hlen]
      exact hat
    · intro x hx
      simp only [List.mem_cons, List.not_mem_nil, or_false] at hx
      rcases hx with rfl | rfl
      · exact hB
      · exact hB'

theorem two_of {L : List FV} {a b : Fr} (h : L.map FV.f = [a, b]) : ∃ B d B' d', L = [⟨a, B, d⟩, ⟨b, B', d'⟩] := by
  rcases L with _ | ⟨x, _ | ⟨y, _ | ⟨z, L⟩⟩⟩ <;> simp at h
  obtain ⟨rfl, rfl⟩ := h
  exact ⟨x.A, x.c, y.A, y.c, rfl⟩
theorem one_of {L : List FV} {a : Fr} (h : L.map FV.f = [a]) : ∃ B d, L = [⟨a, B, d⟩] := by
  rcases L with _ | ⟨x, _ | ⟨z, L⟩⟩ <;> simp at h
  subst h
  exact ⟨x.A, x.c, rfl⟩

theorem cut_ok (l : List UInt8) (seq inc : Int) (h : Fr.cutOk l.length seq inc = true) : ∀ (k : Nat) (x : Fr), (Fr.cut l seq inc)[k]? = some x → x.ok = true := by
  obtain ⟨h1, h2, h3, h4, h5, h6, h7⟩ := cutOk_parts h
  intro k x hx
  unfold Fr.cut at hx
  split at hx
  · rcases k with _ | k <;> simp at hx
    subst hx
    unfold Fr.ok Fr.may
    rw [decide_eq_true_eq]
    simp only
    omega
  · rcases k with _ | _ | k <;> simp at hx
    all_goals
      subst hx
      unfold Fr.ok Fr.may
      rw [decide_eq_true_eq]
      simp only [List.length_take, List.length_drop]
      omega

/-- a record's frames may be joined, and give it -/
theorem cut_joins (l : List UInt8) (seq inc : Int) (h : Fr.cutOk l.length seq inc = true) (L : List FV) (hL : L.map FV.f = Fr.cut l seq inc) : Joins L ∧ fcat L = l := by
  have hok := cut_ok l seq inc h
  unfold Fr.cut at hL hok
  split at hL
  · rename_i h45
    rw [if_pos h45] at hok
    obtain ⟨B, d, rfl⟩ := one_of hL
    have hc : fcat [⟨⟨seq, inc, 0, 1, Crc.sum l, l⟩, B, d⟩] = l := by simp [fcat]
    refine ⟨⟨_, rfl, ?_, by rw [hc]⟩, hc⟩
    intro k x hx
    rcases k with _ | k <;> simp at hx
    subst hx
    exact ⟨hok 0 _ rfl, by simp, by simp, by simp, rfl, rfl⟩
  · rename_i h45
    rw [if_neg h45] at hok
    obtain ⟨B, d, B', d', rfl⟩ := two_of hL
    have hc : fcat [⟨⟨seq, inc, 0, 2, Crc.sum l, l.take 45⟩, B, d⟩, ⟨⟨seq + 1, inc, 1, 2, Crc.sum l, l.drop 45⟩, B', d'⟩] = l := by simp [fcat]
    refine ⟨⟨_, rfl, ?_, by rw [hc]⟩, hc⟩
    intro k x hx
    rcases k with _ | _ | k <;> simp at hx
    · subst hx
      exact ⟨hok 0 _ rfl, by simp, by simp, by simp, rfl, rfl⟩
    · subst hx
      exact ⟨hok 1 _ rfl, by simp, by simp, by simp, rfl, rfl⟩

theorem cut_shape (l : List UInt8) (seq inc : Int) (h : 45 < l.length) : ∃ s l0 l1, Fr.cut l seq inc = [⟨seq, inc, 0, 2, s, l0⟩, ⟨seq + 1, inc, 1, 2, s, l1⟩] ∧ l0.length = 45 ∧ l1.length = l.length - 45 ∧ s = Crc.sum l := by
  refine ⟨Crc.sum l, l.take 45, l.drop 45, ?_, by rw [List.length_take]; omega, by rw [List.length_drop], rfl⟩
  unfold Fr.cut
  rw [if_neg (by omega)]

theorem bs_zeros (n : Nat) : List.replicate n (Value.int .u8 0) = bs (List.replicate n 0) := by unfold bs; rw [List.map_replicate]; rfl

set_option maxRecDepth 100000 in
set_option maxHeartbeats 2000000 in
theorem wakes4_any (w : World) : Calls Try.prog 7 #[] w fun e w' => e = .returned (.bool true) ∧ Below w.heap.size w w' := by
  have Hv0 := Lib.hid (zero_is (P := Try.prog) (e := 5) (size := 1) (v := .int .u8 0) (z := .int .u8 0) (by kernel_rfl) rfl)
  obtain ⟨z85, hz⟩ : ∃ z : List UInt8, z = List.replicate 85 0 := ⟨_, rfl⟩
  have hzl : z85.length = 85 := by rw [hz, List.length_replicate]
  have Hz := Lib.hid (show List.replicate (85 * 1) (Value.int .u8 0) = bs z85 by rw [hz, bs_zeros])
  obtain ⟨s, l0, l1, hcut, h45, h40, -⟩ := cut_shape z85 7 1 (by omega)
  rw [hzl] at h40
  have Hzl := Lib.hid hzl
  have hok : Fr.cutOk z85.length 7 1 = true := by rw [hzl]; decide
  have Hcut := Lib.hid hcut
  have Hok := Lib.hid hok
  have H45 := Lib.hid h45
  have H40 := Lib.hid h40
  clear hz hzl hcut hok h45 h40
  go_enter Try.func7, Try.ntmps7
  go_wp2_with (refine wpList_make rfl (.const (.int .i64 85)) (.const (.int .i64 85)) bytesTy rfl (.int .u8 0) Hv0.out _ _ 85 85 rfl rfl rfl rfl (Nat.le_refl _) (by decide) (by decide) (bs z85) Hz.out ?_)
  have hA0 : At (w.alloc (.cells (bs z85).toArray 5)) (some ⟨w.heap.size, 0, none⟩) (bs z85) := at_new _ _ _ _
  have hb1 : Below w.heap.size w (w.alloc (.cells (bs z85).toArray 5)) := (Below.refl _ _).alloc (Nat.le_refl _) _
  refine (cut_yes _ z85 85 85 7 1 _ hA0 Hzl.out.symm (Nat.le_refl _) (by have := Hok.out; rwa [Hzl.out] at this)).mono ?_
  rintro e w2 ⟨g, d, L, rfl, hL, hd, hg, hat, hR, hb2⟩
  have hj := cut_joins z85 7 1 Hok.out L hL
  have hb02 : Below w.heap.size w w2 := hb1.trans (hb2.mono hb1.size)
  rw [Hcut.out] at hL
  obtain ⟨B, e, B', e', rfl⟩ := two_of hL
  have hd2 : 2 ≤ d := hd
  have hd3 : (1 : Int) ≤ (d : Int) := by omega
  have hd4 : ¬ (d = 1) := by omega
  have HJ := Lib.hid hj
  have Hat := Lib.hid hat
  have HR := Lib.hid hR
  clear hL hj hat hR hA0 hb1 hb2 hd
  go_wp2_with fail
  refine (fjoin_any _ _ 2 d _ Hat.out HR.out rfl (by decide) (by decide) (by intro x hx; simp only [List.mem_cons, List.not_mem_nil, or_false] at hx; rcases hx with rfl | rfl; exact Nat.le_trans (Nat.le_of_eq H45.out) (by decide); exact Nat.le_trans (Nat.le_of_eq H40.out) (by decide))).mono ?_
  rintro e3 w3 ⟨h3 | ⟨_, hno⟩, hb3⟩
  case inr => exact absurd HJ.out.1 hno
  obtain ⟨v3, rfl, hown3, -⟩ := h3
  rw [HJ.out.2, Hzl.out] at hown3
  obtain ⟨A3, c3, rfl, -, -, -⟩ := own_at hown3
  have Hat3 := Lib.hid (Hat.out.below hb3 (Nat.le_refl _))
  have HR3 := Lib.hid (HR.out.below hb3 (Nat.le_refl _))
  have hb03 : Below w.heap.size w w3 := hb02.trans (hb3.mono hb02.size)
  clear hown3 hb3
  go_wp2_with fail
  have hat1 : At w3 (some ⟨g, 6, none⟩) (fcells [⟨⟨7 + 1, 1, 1, 2, s, l1⟩, B', e'⟩]) := by
    have h : At w3 (some ⟨g, 0, none⟩) (FV.cells ⟨⟨7, 1, 0, 2, s, l0⟩, B, e⟩ ++ fcells [⟨⟨7 + 1, 1, 1, 2, s, l1⟩, B', e'⟩]) := Hat3.out
    exact h.right0
  refine (fjoin_any _ _ 1 _ _ hat1 (fun x hx => HR3.out x (List.mem_cons_of_mem _ hx)) rfl (by decide) (by decide) (by intro x hx; simp only [List.mem_singleton] at hx; subst hx; exact Nat.le_trans (Nat.le_of_eq H40.out) (by decide))).mono ?_
  rintro e4 w4 ⟨⟨v4, _, _, hyes⟩ | ⟨rfl, -⟩, hb4⟩
  · obtain ⟨y, hy, hgood, _⟩ := hyes
    have := (hgood 0 _ rfl).2.1
    simp at this
  have hb04 : Below w.heap.size w w4 := hb03.trans (hb4.mono hb03.size)
  have Hat4 := Hat3.out.below hb4 (Nat.le_refl _)
  obtain ⟨bx, ox, ex, -, hcell⟩ := Hat4.all (by rw [fcells_length]; exact Nat.zero_lt_succ _)
  cases ex
  have c5 : w4.cell? ⟨g, 5, none⟩ = some (.slice B 45 e) := by have := hcell 5 (.slice B l0.length e) rfl; rw [H45.out] at this; simpa using this
  have c6 : w4.cell? ⟨g, 6, none⟩ = some (.int .i64 8) := by have := hcell 6 _ rfl; simpa using this
  have c8 : w4.cell? ⟨g, 8, none⟩ = some (.int .i64 1) := by have := hcell 8 _ rfl; simpa using this
  have c11 : w4.cell? ⟨g, 11, none⟩ = some (.slice B' 40 e') := by have := hcell 11 (.slice B' l1.length e') rfl; rw [H40.out] at this; simpa using this
  clear hcell hat1 Hat4
  go_wp2_with fail
  go_ret
  exact ⟨rfl, hb04⟩
end Go.Proofs.Ytcaejcdmkihmbaa
