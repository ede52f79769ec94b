/- The law StripeBack: aids. -/
import Derived.Test.YtbleebiffpkcmaaStripeG
namespace Go.Proofs.Ytbleebiffpkcmaa
open Go.RowKit

/-- how many slots of shard s are taken by the blocks below k -/
def U (of : List Int) (k s : Nat) : Nat := St.used of (k / 4) (k % 4) s
theorem U_zero (of : List Int) (s : Nat) : U of 0 s = 0 := by unfold U St.used; simp
theorem shard_of {of : List Int} {k S : Nat} (hS : of[k / 4]? = some (S : Int)) : St.shard of k = S := by
  unfold St.shard
  rw [List.getD_eq_getElem?_getD, hS]
  simp
theorem U_succ (of : List Int) (k s : Nat) (h8 : of.length = 8) (hok : St.okOf of = true) (hk : k < 32) : U of (k + 1) s = U of k s + (if St.shard of k = s then 1 else 0) := by
  obtain ⟨S, hS, _⟩ := okOf_get hok (k / 4) (by omega)
  rw [shard_of hS]
  have key : ∀ m, St.used of (k / 4) (m + 1) s = St.used of (k / 4) m s + (if S = s then 1 else 0) := by
    intro m
    unfold St.used
    rw [hS]
    by_cases h : S = s
    · subst h; simp; omega
    · rw [if_neg (by simp; omega), if_neg (by simp; omega), if_neg h]
  unfold U
  by_cases h3 : k % 4 = 3
  · rw [show (k + 1) / 4 = k / 4 + 1 by omega, show (k + 1) % 4 = 0 by omega, ← St.used_turn of (k / 4) s (by omega), h3]
    exact key 3
  · rw [show (k + 1) / 4 = k / 4 by omega, show (k + 1) % 4 = k % 4 + 1 by omega]
    exact key _
theorem U_le (of : List Int) (s : Nat) (h8 : of.length = 8) (hok : St.okOf of = true) : ∀ k, k ≤ 32 → U of k s ≤ k := by
  intro k
  induction k with
  | zero => intro _; rw [U_zero]; omega
  | succ k ih =>
    intro hk
    rw [U_succ of k s h8 hok (by omega)]
    have := ih (by omega)
    split <;> omega
theorem U_mono (of : List Int) (s : Nat) (h8 : of.length = 8) (hok : St.okOf of = true) (b k : Nat) (hk : k ≤ 32) (hbk : b ≤ k) : U of b s ≤ U of k s := by
  induction k with
  | zero => have : b = 0 := by omega
            rw [this]; exact Nat.le_refl _
  | succ k ih =>
    by_cases h : b = k + 1
    · rw [h]; exact Nat.le_refl _
    · rw [U_succ of k s h8 hok (by omega)]
      have := ih (by omega) (by omega)
      omega
theorem slot_U (of : List Int) (k : Nat) (h8 : of.length = 8) (hok : St.okOf of = true) (hk : k < 32) : St.slot of k = U of k (St.shard of k) := by
  obtain ⟨S, hS, _⟩ := okOf_get hok (k / 4) (by omega)
  rw [shard_of hS]
  unfold St.slot U St.used
  rw [List.getD_eq_getElem?_getD, hS]
  simp
theorem slot_apart (of : List Int) (k : Nat) (h8 : of.length = 8) (hok : St.okOf of = true) (hk : k < 32) : ∀ b, b < k → ¬ (St.shard of b = St.shard of k ∧ St.slot of b = St.slot of k) := by
  rintro b hb ⟨h1, h2⟩
  rw [slot_U of b h8 hok (by omega), slot_U of k h8 hok hk, h1] at h2
  have h3 := U_succ of b (St.shard of k) h8 hok (by omega)
  rw [if_pos h1] at h3
  have h4 := U_mono of (St.shard of k) h8 hok (b + 1) k (by omega) (by omega)
  omega

/-- which places are seen, how many of each shard: behind k blocks -/
def sn (of : List Int) (k s j : Nat) : Bool := decide (s ≠ 0 ∧ j < U of k s)
def mn (of : List Int) (k s : Nat) : Nat := if s = 0 then 0 else U of k s
def seenv (of : List Int) (k : Nat) : List Value := (List.range 160).map fun i => .bool (sn of k (i / 32) (i % 32))
def manyv (of : List Int) (k : Nat) : List Value := (List.range 5).map fun s => .int .i64 (mn of k s : Int)
theorem seenv_length (of : List Int) (k : Nat) : (seenv of k).length = 160 := by simp [seenv]
theorem manyv_length (of : List Int) (k : Nat) : (manyv of k).length = 5 := by simp [manyv]
theorem seenv_zero (of : List Int) : List.replicate 160 (.bool false) = seenv of 0 := by
  apply List.ext_getElem
  · simp [seenv]
  · intro i h1 h2
    rw [List.getElem_replicate]
    simp only [seenv, List.getElem_map, List.getElem_range, sn, U_zero]
    simp
theorem manyv_zero (of : List Int) : List.replicate 5 (.int .i64 0) = manyv of 0 := by
  apply List.ext_getElem
  · simp [manyv]
  · intro i h1 h2
    rw [List.getElem_replicate]
    simp only [manyv, List.getElem_map, List.getElem_range, mn, U_zero]
    simp
theorem seenv_get (of : List Int) (k s j : Nat) (hs : s < 5) (hj : j < 32) : (seenv of k)[s * 32 + j]? = some (.bool (sn of k s j)) := by
  unfold seenv
  rw [List.getElem?_map, List.getElem?_range (by omega)]
  simp only [Option.map_some]
  rw [show (s * 32 + j) / 32 = s by omega, show (s * 32 + j) % 32 = j by omega]
theorem manyv_get (of : List Int) (k s : Nat) (hs : s < 5) : (manyv of k)[s]? = some (.int .i64 (mn of k s : Int)) := by
  unfold manyv
  rw [List.getElem?_map, List.getElem?_range hs]
  rfl
theorem seenv_same (of : List Int) (k : Nat) (h8 : of.length = 8) (hok : St.okOf of = true) (hk : k < 32) (h0 : St.shard of k = 0) : seenv of (k + 1) = seenv of k := by
  unfold seenv
  apply List.map_congr_left
  intro i _
  unfold sn
  by_cases h : i / 32 = 0
  · simp [h]
  · rw [U_succ of k _ h8 hok hk, if_neg (by omega), Nat.add_zero]
theorem manyv_same (of : List Int) (k : Nat) (h8 : of.length = 8) (hok : St.okOf of = true) (hk : k < 32) (h0 : St.shard of k = 0) : manyv of (k + 1) = manyv of k := by
  unfold manyv
  apply List.map_congr_left
  intro i _
  unfold mn
  by_cases h : i = 0
  · simp [h]
  · rw [if_neg h, if_neg h, U_succ of k _ h8 hok hk, if_neg (by omega), Nat.add_zero]
theorem seenv_set (of : List Int) (k : Nat) (h8 : of.length = 8) (hok : St.okOf of = true) (hk : k < 32) (h0 : St.shard of k ≠ 0) :
    (seenv of k).set (St.shard of k * 32 + St.slot of k) (.bool true) = seenv of (k + 1) := by
  have hsl := slot_U of k h8 hok hk
  have hle := U_le of (St.shard of k) h8 hok k (by omega)
  apply List.ext_getElem
  · simp [seenv]
  · intro i h1 h2
    have hi : i < 160 := by simpa [seenv] using h2
    rw [List.getElem_set]
    simp only [seenv, List.getElem_map, List.getElem_range, sn]
    rw [U_succ of k (i / 32) h8 hok hk]
    by_cases h : St.shard of k * 32 + St.slot of k = i
    · rw [if_pos h]
      have e1 : i / 32 = St.shard of k := by omega
      have e2 : i % 32 = St.slot of k := by omega
      rw [e1, e2, if_pos rfl, decide_eq_true ⟨h0, by omega⟩]
    · rw [if_neg h]
      congr 1
      rw [Bool.eq_iff_iff]
      simp only [decide_eq_true_eq]
      by_cases hs : St.shard of k = i / 32
      · rw [if_pos hs, ← hs]
        constructor
        · intro ⟨a, b⟩; exact ⟨a, by omega⟩
        · intro ⟨a, b⟩; refine ⟨a, ?_⟩; rw [hs] at h hsl b ⊢; omega
      · rw [if_neg hs, Nat.add_zero]
theorem manyv_set (of : List Int) (k : Nat) (h8 : of.length = 8) (hok : St.okOf of = true) (hk : k < 32) (h0 : St.shard of k ≠ 0) :
    (manyv of k).set (St.shard of k) (.int .i64 ((mn of k (St.shard of k) : Int) + 1)) = manyv of (k + 1) := by
  apply List.ext_getElem
  · simp [manyv]
  · intro i h1 h2
    rw [List.getElem_set]
    simp only [manyv, List.getElem_map, List.getElem_range, mn]
    rw [U_succ of k i h8 hok hk]
    by_cases h : St.shard of k = i
    · rw [if_pos h, ← h, if_neg h0, if_pos rfl, if_neg h0]
      congr 1
    · rw [if_neg h, if_neg h, Nat.add_zero]

theorem ap_dl (oa ob : List Int) (ha : oa.length = 8) (hb : ob.length = 8) : ∀ k, k ≤ 8 → ap oa (dl oa ob k) = ob.take k ++ oa.drop k := by
  intro k
  induction k with
  | zero => intro _; rfl
  | succ k ih =>
    intro hk
    have hka : k < oa.length := by omega
    have hkb : k < ob.length := by omega
    have ea : oa.getD k 0 = oa[k] := by rw [List.getD_eq_getElem?_getD, List.getElem?_eq_getElem hka]; rfl
    have eb : ob.getD k 0 = ob[k] := by rw [List.getD_eq_getElem?_getD, List.getElem?_eq_getElem hkb]; rfl
    have et : ob.take (k + 1) = ob.take k ++ [ob[k]] := List.take_succ_eq_append_getElem hkb
    have ed : oa.drop k = oa[k] :: oa.drop (k + 1) := List.drop_eq_getElem_cons hka
    have hl : (ob.take k).length = k := by rw [List.length_take]; omega
    rw [dl_succ, ea, eb]
    by_cases h : oa[k] = ob[k]
    · rw [if_pos h, List.append_nil, ih (by omega), et, ed, h, List.append_assoc]; rfl
    · rw [if_neg h, ap_snoc, ih (by omega), et, ed]
      simp only
      rw [List.set_append_right _ _ (by omega), hl, Nat.sub_self, List.set_cons_zero, List.append_assoc]
      rfl
theorem ap_dl_all (oa ob : List Int) (ha : oa.length = 8) (hb : ob.length = 8) : ap oa (dl oa ob 8) = ob := by
  rw [ap_dl oa ob ha hb 8 (Nat.le_refl _), List.take_of_length_le (by omega), List.drop_eq_nil_of_le (by omega), List.append_nil]
theorem dl_good (oa ob : List Int) (hb : ob.length = 8) (hok : St.okOf ob = true) (hg : gone oa ob 8 = false) : GoodCh (dl oa ob 8) := by
  intro x hx
  unfold dl at hx
  obtain ⟨i, hi, h2⟩ := List.mem_filterMap.1 hx
  have hi8 := List.mem_range.1 hi
  obtain ⟨S, hS, hS4⟩ := okOf_get hok i (by omega)
  have eb : ob.getD i 0 = (S : Int) := by rw [List.getD_eq_getElem?_getD, hS]; rfl
  by_cases h : oa.getD i 0 = ob.getD i 0
  · rw [if_pos h] at h2; cases h2
  · rw [if_neg h] at h2
    cases h2
    refine ⟨hi8, ?_, by show ob.getD i 0 ≤ 4; rw [eb]; omega⟩
    show 1 ≤ ob.getD i 0
    rw [eb]
    by_cases hS0 : S = 0
    · exfalso
      unfold gone at hg
      have h5 := List.any_eq_false.1 hg i hi
      rw [decide_eq_true h, eb, hS0] at h5
      simp at h5
    · omega

/-- an array of eight integers is loaded, in an operation that a guard lets -/
theorem wpList_load_of {ops : Array Oper} {Q : Exit → Act → World → Prop} {a : Act} {w : World} {rest : List Oper} {o : Oper} (hw : Region.wanted o (yielded ops a.tmps) = true) (x : Operand) (ho : o.op = .load 32 x)
    (g : Nat) (hx : a.eval x = .pointer (some ⟨g, 1, none⟩)) (V : Int) (of : List Int) (h8 : of.length = 8) (hB : Blk w g 34 (mp V of))
    (h : wpList Try.prog ops Q rest (a.put o.dst (.agg (is of).toArray)) w) : wpList Try.prog ops Q (o :: rest) a w := by
  refine wpList_wants hw fun K hK => ?_
  have hs : (Try.prog.info? 32).map (·.size) = some (is of).length := by rw [List.length_map, h8]; kernel_rfl
  have hrun := run_load_at (P := Try.prog) w (ty := 32) Try.underlying32 rfl hs g 1 (fun j v hv => by rw [hB.cell, Nat.add_comm]; exact hv)
  unfold Oper.wp execOp
  simp only [ho, hx, Instr.loadAt, Instr.sureAddr, Sem.run_bind, Sem.run_pure, Result.andThen_ok, hrun]
  exact hK _ _ h
end Go.Proofs.Ytbleebiffpkcmaa
