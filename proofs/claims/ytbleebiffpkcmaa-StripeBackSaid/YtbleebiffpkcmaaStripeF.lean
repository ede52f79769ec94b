/- The walk of package stripe: Diff. -/
import Derived.Test.YtbleebiffpkcmaaStripeE
namespace Go.Proofs.Ytbleebiffpkcmaa
open Go.RowKit

theorem wpList_wants {P : Program} {ops : Array Oper} {Q : Exit → Act → World → Prop} {a : Act} {w : World} {rest : List Oper} {o : Oper} (hw : Region.wanted o (yielded ops a.tmps) = true)
    (h : ∀ K : Act → World → Prop, (∀ a w, wpList P ops Q rest a w → K a w) → o.wp P a w K Q) : wpList P ops Q (o :: rest) a w :=
  wpList_step fun K hK => by simp only [hw, if_true]; exact h K hK
/-- a map is loaded, in an operation that a guard lets -/
theorem wpList_load_map {ops : Array Oper} {Q : Exit → Act → World → Prop} {a : Act} {w : World} {rest : List Oper} {o : Oper} (hw : Region.wanted o (yielded ops a.tmps) = true) (x : Operand) (ho : o.op = .load 34 x)
    (g : Nat) (hx : a.eval x = .pointer (some ⟨g, 0, none⟩)) (V : Int) (of : List Int) (h8 : of.length = 8) (hB : Blk w g 34 (mp V of))
    (h : wpList Try.prog ops Q rest (a.put o.dst (.agg (mp V of).toArray)) w) : wpList Try.prog ops Q (o :: rest) a w := by
  refine wpList_wants hw fun K hK => ?_
  have hs : (Try.prog.info? 34).map (·.size) = some (mp V of).length := by rw [mp_length, h8]; kernel_rfl
  have hrun := run_load_at (P := Try.prog) w (ty := 34) Try.underlying34 rfl hs g 0 (fun j v hv => by rw [Nat.zero_add, hB.cell]; exact hv)
  unfold Oper.wp execOp
  simp only [ho, hx, Instr.loadAt, Instr.sureAddr, Sem.run_bind, Sem.run_pure, Result.andThen_ok, hrun]
  exact hK _ _ h

/-- what makes one map of another, among the first k stripes -/
def dl (oa ob : List Int) (k : Nat) : List (Nat × Int) := (List.range k).filterMap fun i => if oa.getD i 0 = ob.getD i 0 then none else some (i, ob.getD i 0)
/-- changes' cells -/
def chc (L : List (Nat × Int)) : List Value := L.flatMap fun x => [.int .i64 (x.1 : Int), .int .i64 x.2]
theorem chc_length (L : List (Nat × Int)) : (chc L).length = L.length * 2 := by
  induction L with
  | nil => rfl
  | cons x L ih => simp only [chc, List.flatMap_cons, List.length_append, List.length_cons, List.length_nil] at ih ⊢; omega
theorem chc_append (L M : List (Nat × Int)) : chc (L ++ M) = chc L ++ chc M := by simp [chc]
theorem dl_succ (oa ob : List Int) (k : Nat) : dl oa ob (k + 1) = dl oa ob k ++ (if oa.getD k 0 = ob.getD k 0 then [] else [(k, ob.getD k 0)]) := by
  unfold dl
  rw [List.range_succ, List.filterMap_append]
  congr 1
  by_cases h : oa.getD k 0 = ob.getD k 0
  · rw [if_pos h]; simp only [List.filterMap_cons, List.filterMap_nil, if_pos h]
  · rw [if_neg h]; simp only [List.filterMap_cons, List.filterMap_nil, if_neg h]
theorem dl_le (oa ob : List Int) (k : Nat) : (dl oa ob k).length ≤ k := by
  have h := List.length_filterMap_le (fun i => if oa.getD i 0 = ob.getD i 0 then none else some (i, ob.getD i 0)) (List.range k)
  rw [List.length_range] at h
  exact h
/-- is a stripe taken from all shards? -/
def gone (oa ob : List Int) (k : Nat) : Bool := (List.range k).any fun i => decide (oa.getD i 0 ≠ ob.getD i 0) && decide (ob.getD i 0 = 0)
theorem gone_succ (oa ob : List Int) (k : Nat) : gone oa ob (k + 1) = (gone oa ob k || (decide (oa.getD k 0 ≠ ob.getD k 0) && decide (ob.getD k 0 = 0))) := by
  unfold gone
  rw [List.range_succ, List.any_append]
  simp
theorem gone_mono (oa ob : List Int) (k m : Nat) (h : k ≤ m) (hg : gone oa ob k = true) : gone oa ob m = true := by
  unfold gone at *
  rw [List.any_eq_true] at *
  obtain ⟨i, hi, h2⟩ := hg
  exact ⟨i, List.mem_range.2 (by have := List.mem_range.1 hi; omega), h2⟩
theorem dl_same (oa : List Int) (k : Nat) : dl oa oa k = [] := by unfold dl; simp
theorem gone_same (oa : List Int) (k : Nat) : gone oa oa k = false := by unfold gone; simp
theorem chTy : SliceTy Try.prog 51 36 2 16 := SliceTy.mk' (z := .agg #[.int .i64 0, .int .i64 0]) Try.underlying51 (by kernel_rfl) rfl (by decide)

/-- what Diff answers -/
def DiffSays (oa ob : List Int) (w : World) (e : Ending) (w' : World) : Prop :=
  ((gone oa ob 8 = true ∧ e = .returned (.tuple #[.slice none 0 0, .int .i64 2])) ∨
    (gone oa ob 8 = false ∧ ∃ v, e = .returned (.tuple #[v, .int .i64 0]) ∧ w'.ownsRow w.heap.size 36 2 v (dl oa ob 8).length (chc (dl oa ob 8)))) ∧ Below w.heap.size w w'

set_option maxRecDepth 100000 in
set_option maxHeartbeats 4000000 in
theorem sdiff_in (V U : Int) (oa ob : List Int) (w : World) (ha8 : oa.length = 8) (hb8 : ob.length = 8) (hoka : St.ok V oa = true) (hokb : St.ok U ob = true) :
    Calls Try.prog 19 #[.agg (mp V oa).toArray, .agg (mp U ob).toArray] w (DiffSays oa ob w) := by
  have HA8 := Lib.hid ha8
  have HB8 := Lib.hid hb8
  have Hoka := Lib.hid hoka
  have Hokb := Lib.hid hokb
  obtain ⟨w1, hw1⟩ : ∃ w1, w1 = Bx (Bx w V oa) U ob := ⟨_, rfl⟩
  have hb01 : Below w.heap.size w w1 := by rw [hw1]; exact ((Below.refl _ _).alloc (Nat.le_refl _) _).alloc (by rw [World.size_alloc]; omega) _
  have hBa0 : Blk (Bx (Bx w V oa) U ob) w.heap.size 34 (mp V oa) := (Blk.new w 34 (mp V oa)).alloc _
  have hBb0 : Blk (Bx (Bx w V oa) U ob) (w.heap.size + 1) 34 (mp U ob) := by
    have h := Blk.new (Bx w V oa) 34 (mp U ob)
    rwa [World.size_alloc] at h
  have HBa0 := Lib.hid hBa0
  have HBa1 := Lib.hid (show Blk w1 w.heap.size 34 (mp V oa) by rw [hw1]; exact hBa0)
  have HBb1 := Lib.hid (show Blk w1 (w.heap.size + 1) 34 (mp U ob) by rw [hw1]; exact hBb0)
  have Hw1 := Lib.hid hw1
  have hs8 : ∀ of : List Int, of.length = 8 → (Try.prog.info? 32).map (·.size) = some (is of).length := fun of h => by rw [List.length_map, h]; kernel_rfl
  have HSa := Lib.hid (hs8 oa ha8)
  have HSb := Lib.hid (hs8 ob hb8)
  clear ha8 hb8 hoka hokb hw1 hBa0 hBb0 hs8
  go_enter Try.func19, Try.ntmps19
  go_wp2_with (refine wpList_load_map (by rfl) (.tmp 2) rfl w.heap.size rfl V oa HA8.out HBa0.out ?_)
  change Calls _ _ _ (Bx (Bx w V oa) U ob) _
  rw [← Hw1.out]
  refine (check_any V oa _ HA8.out).mono ?_
  rintro e w2 ⟨rfl, hb12⟩
  rw [Hoka.out]
  have HBa2 := Lib.hid (HBa1.out.below hb12 HBa1.out.lt)
  have HBb2 := Lib.hid (HBb1.out.below hb12 HBb1.out.lt)
  have hb02 : Below w.heap.size w w2 := hb01.trans (hb12.mono hb01.size)
  simp only [if_true]
  go_wp2_with (refine wpList_load_map (by rfl) (.tmp 3) rfl (w.heap.size + 1) rfl U ob HB8.out HBb2.out ?_)
  refine (check_any U ob _ HB8.out).mono ?_
  rintro e w3 ⟨rfl, hb23⟩
  rw [Hokb.out]
  have HBa3 := Lib.hid (HBa2.out.below hb23 HBa2.out.lt)
  have HBb3 := Lib.hid (HBb2.out.below hb23 HBb2.out.lt)
  have hb03 : Below w.heap.size w w3 := hb02.trans (hb23.mono hb02.size)
  simp only [if_true]
  have HMa := Lib.hid (mp_at HBa3.out)
  have HMb := Lib.hid (mp_at HBb3.out)
  have heq := fun w' : World => eq_of8 w' oa ob HA8.out HB8.out
  have hgd : Try.prog.eqGuardType Try.prog.depth 32 = false := by kernel_rfl
  clear hb12 hb23
  by_cases hab : oa = ob
  · have hd : decide (oa = ob) = true := decide_eq_true hab
    rw [hd] at heq
    have Hab := Lib.hid hab
    clear hab hd
    go_wp2_with (first
      | (refine wpList_load_at rfl 32 (.tmp 16) rfl w.heap.size 1 rfl (is oa) _ HMa.out (by rw [List.length_map, HA8.out]; decide) Try.underlying32 rfl HSa.out ?_)
      | (refine wpList_load_at rfl 32 (.tmp 18) rfl (w.heap.size + 1) 1 rfl (is ob) _ HMb.out (by rw [List.length_map, HB8.out]; decide) Try.underlying32 rfl HSb.out ?_))
    go_ret2
    refine ⟨.inr ⟨?_, .slice none 0 0, rfl, ?_⟩, hb03⟩
    · rw [Hab.out]; exact gone_same _ _
    · rw [Hab.out, dl_same]; exact World.ownsRow_nil _ _ _ _
  · have hd : decide (oa = ob) = false := decide_eq_false hab
    rw [hd] at heq
    clear hab hd
    go_wp2_with (first
      | (refine wpList_load_at rfl 32 (.tmp 16) rfl w.heap.size 1 rfl (is oa) _ HMa.out (by rw [List.length_map, HA8.out]; decide) Try.underlying32 rfl HSa.out ?_)
      | (refine wpList_load_at rfl 32 (.tmp 18) rfl (w.heap.size + 1) 1 rfl (is ob) _ HMb.out (by rw [List.length_map, HB8.out]; decide) Try.underlying32 rfl HSb.out ?_)
      | (refine wpList_load_at rfl 32 (.tmp 21) rfl (w.heap.size + 1) 1 rfl (is ob) _ HMb.out (by rw [List.length_map, HB8.out]; decide) Try.underlying32 rfl HSb.out ?_))
    clear heq
    go_loopw [4, 23] (fun v i wr => ∃ k : Nat, k ≤ 8 ∧ i = .int .i64 k ∧ Hid (gone oa ob k = false) ∧ Hid (wr.ownsRow w3.heap.size 36 2 v (dl oa ob k).length (chc (dl oa ob k))) ∧ Below w3.heap.size w3 wr) (fun _ i _ => 8 - (intOf i).toNat)
    case atStart => exact ⟨0, by omega, rfl, rfl, World.ownsRow_nil _ _ _ _, Below.refl _ _⟩
    case round =>
      obtain ⟨k, hk, rfl, hgn, ho, hb⟩ := hrel
      by_cases hlt : k < 8
      · have hlt' : (k : Int) < 8 := by omega
        obtain ⟨S, hS, hS4⟩ := okOf_get (St.ok_of Hoka.out) k (by rw [HA8.out]; exact hlt)
        obtain ⟨T, hT, hT4⟩ := okOf_get (St.ok_of Hokb.out) k (by rw [HB8.out]; exact hlt)
        have ix := fun w' : World => run_index (P := Try.prog) w' Try.underlying32 Try.underlying3 rfl (by kernel_rfl) (is ob) k hlt (.int .i64 (T : Int)) (by rw [List.getElem?_map, hT]; rfl)
        have HBar := HBa3.out.below hb HBa3.out.lt
        have hca : wr.cell? ⟨w.heap.size, 1 + k, none⟩ = some (.int .i64 (S : Int)) := by
          rw [HBar.cell, Nat.add_comm]
          show (is oa)[k]? = _
          rw [List.getElem?_map, hS]; rfl
        have hdS : oa.getD k 0 = (S : Int) := by rw [List.getD_eq_getElem?_getD, hS]; rfl
        have hdT : ob.getD k 0 = (T : Int) := by rw [List.getD_eq_getElem?_getD, hT]; rfl
        have HdS := Lib.hid hdS
        have HdT := Lib.hid hdT
        have hb0r : Below w.heap.size w wr := hb03.trans (hb.mono hb03.size)
        clear hS hT hdS hdT HBar
        by_cases hst : (T : Int) = (S : Int)
        · have Hst := Lib.hid hst
          have hst2 : ((T : Int) == (S : Int)) = true := by simpa using hst
          clear hst
          go_wp2_with fail
          go_roundw
          case rel =>
            have e : oa.getD k 0 = ob.getD k 0 := by rw [HdS.out, HdT.out, Hst.out]
            refine ⟨k + 1, by omega, by go_num, ?_, ?_, hb⟩
            · unfold Hid; rw [gone_succ, hgn.out, e]; simp
            · unfold Hid; rw [dl_succ, if_pos e, List.append_nil]; exact ho.out
          case measure => simp [intOf]; omega
        · have Hst := Lib.hid hst
          have hst2 : ((T : Int) == (S : Int)) = false := by simpa using hst
          have hne : Hid (¬ oa.getD k 0 = ob.getD k 0) := by unfold Hid; rw [HdS.out, HdT.out]; exact fun h => hst h.symm
          clear hst
          by_cases hT0 : (T : Int) = 0
          · have HT0 := Lib.hid hT0
            have hT2 : ((T : Int) == 0) = true := by simpa using hT0
            clear hT0
            go_wp2_with fail
            go_ret2
            refine ⟨.inl ⟨gone_mono oa ob (k + 1) 8 (by omega) ?_, rfl⟩, hb0r⟩
            rw [gone_succ, decide_eq_true hne.out, HdT.out, decide_eq_true HT0.out]
            simp
          · have HT0 := Lib.hid hT0
            have hT2 : ((T : Int) == 0) = false := by simpa using hT0
            have hl := dl_le oa ob k
            have HTn := Lib.hid (at_new wr [.int .i64 (k : Int), .int .i64 (T : Int)] 36 (0, 0))
            have HO := Lib.hid (ho.out.alloc (.cells #[.int .i64 (k : Int), .int .i64 (T : Int)] 36))
            have hba := hb.alloc hb.size (.cells #[.int .i64 (k : Int), .int .i64 (T : Int)] 36)
            obtain ⟨n, hn⟩ : ∃ n, n = (dl oa ob k).length := ⟨_, rfl⟩
            rw [← hn] at hl HO
            have R1 := Lib.hid (show n + 1 ≤ maxLen by unfold maxLen; omega)
            have R2 := Lib.hid (show (n + 1) * 16 ≤ 140737488355328 by omega)
            have bl := fun (w : World) => run_build (P := Try.prog) w 36 #[(0, .int .i64 (k : Int)), (1, .int .i64 (T : Int))] #[.int .i64 (k : Int), .int .i64 (T : Int)] (by kernel_rfl)
            have Hn := Lib.hid hn
            clear hT0 hn
            go_wp2_with (first
              | (refine wpList_build1 rfl (.tmp 30) chTy rfl [.int .i64 (k : Int), .int .i64 (T : Int)] rfl rfl (by omega) ?_)
              | (at_builtin; refine wpList_app_own rfl (.tmp 27) (.tmp 31) chTy rfl w3.heap.size u4 n (chc (dl oa ob k)) rfl HO.out (some ⟨wr.heap.size, 0, none⟩) 1 1 [.int .i64 (k : Int), .int .i64 (T : Int)] rfl HTn.out rfl (by intro u hu; simp at hu; rcases hu with rfl | rfl <;> rfl) R1.out R2.out hba.size ?_; intro v4 w4 hown4 hg4 hat4; have HO4 := Lib.hid hown4; have hb4 := hba.grown hg4 hba.size (fun j hj => (HO.out.lt j hj).1); clear hown4 hg4 hat4))
            go_roundw
            case rel =>
              refine ⟨k + 1, by omega, by go_num, ?_, ?_, hb4⟩
              · unfold Hid; rw [gone_succ, hgn.out, HdT.out, decide_eq_false HT0.out]; simp
              · unfold Hid
                rw [dl_succ, if_neg hne.out, HdT.out, chc_append, List.length_append, List.length_singleton, ← Hn.out]
                exact HO4.out
            case measure => simp [intOf]; omega
      · have hk8 : k = 8 := by omega
        have hlt' : ¬ (k : Int) < 8 := by omega
        rw [hk8] at ho hgn
        have hb0r : Below w.heap.size w wr := hb03.trans (hb.mono hb03.size)
        clear hk8
        go_wp2_with fail
        go_ret2
        exact ⟨.inr ⟨hgn.out, _, rfl, own_mono ho.out hb03.size⟩, hb0r⟩
end Go.Proofs.Ytbleebiffpkcmaa
