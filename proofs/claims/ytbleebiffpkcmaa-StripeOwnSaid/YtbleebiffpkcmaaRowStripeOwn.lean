/- The law StripeOwn: it returns true for every input, and the input reads behind the call as it read before. No condition. (The frame was written by a program, after the kit's shell.) -/
import Derived.Test.YtbleebiffpkcmaaRows
import Derived.WalkKit
import Derived.ProofKit
import Derived.OpenShut
import Derived.ShutString
import Derived.ChangeOld
import Derived.Below
import Derived.Lib.SmallJoins
import Derived.Test.YtbleebiffpkcmaaRowsStruct
import Derived.Test.YtbleebiffpkcmaaStripeOwn
namespace Go.Proofs.Ytbleebiffpkcmaa.stripeOwn
open Go.ChangeShapes Go.WideShapes Go.ChangeAt Go.RowKit
open Go.ChangeMaps (open_string shut_string)

theorem own : ownKnob Try.prog.godebug = none := by kernel_rfl
theorem laidOut : laidOutB Try.prog = true := by kernel_rfl

theorem walk (z0 : List Int) (a1 b1 : Int) (w : World) (w0 : z0.length = 9 ∧ ∀ z ∈ z0, (Lit.int .i64 z).wf = true) :
    Calls Try.prog 4 #[.agg (z0.map (.int .i64)).toArray, .agg #[.int .i64 a1, .int .i64 b1]] w fun e w' => e = .returned (.bool true) ∧ Below w.heap.size w w' := by
  obtain ⟨hl, hw⟩ := w0
  rcases z0 with _ | ⟨V, of⟩
  · simp at hl
  · have h8 : of.length = 8 := by simpa using hl
    have e0 : ((V :: of).map (Value.int .i64)).toArray = (mp V of).toArray := rfl
    rw [e0]
    by_cases hyes : St.ok V of = true ∧ 0 ≤ a1 ∧ a1 < 8 ∧ 1 ≤ b1 ∧ b1 ≤ 4 ∧ V ≠ 1099511627776
    · obtain ⟨h1, h2, h3, h4, h5, h6⟩ := hyes
      obtain ⟨s, rfl⟩ : ∃ s : Nat, a1 = (s : Int) := ⟨a1.toNat, by omega⟩
      have h7 : V < 1099511627776 := by
        have := h1
        unfold St.ok at this
        simp only [Bool.and_eq_true, decide_eq_true_eq] at this
        omega
      exact sown_yes V of s b1 w h8 h1 (by omega) h4 h5 h7
    · exact sown_no V of a1 b1 w h8 hyes

set_option maxRecDepth 100000 in
theorem lifted (os : Os) (started : os.Started) (H : Type) (enc : TypeId × Value → H) :
    ReturnsInHanded {} Try.checked os 4 .any (Rows.stripeOwnSpec.pre6 enc Try.prog Try.f4 Rows.stripeOwnRow.domain false) (Rows.stripeOwnSpec.post enc Try.prog Try.f4 false true false false) := by
  refine returnsInHanded_of_change (C := Try.checked) own started (by kernel_rfl) Try.func4
    (ChangeSpec.witness6 (enc := enc) (C := Try.checked) false ⟨#[], #[.agg #[.int .i64 0, .int .i64 0, .int .i64 0, .int .i64 0, .int .i64 0, .int .i64 0, .int .i64 0, .int .i64 0, .int .i64 0], .agg #[.int .i64 0, .int .i64 0]], []⟩ 8 (by kernel_rfl) (by kernel_rfl) (by kernel_rfl) (by kernel_rfl)) ?_
  intro W base args ds gs before hval0 hW _ _
  have hval : ∀ (j : Nat) t v, Try.f4.params[j]? = some t → args[j]? = some v → Value.okWide Try.prog W .any base t v := hval0
  have hW' := hW
  obtain ⟨p, q, hA0, hV, rfl, hfz, hnd⟩ := hW
  have hA : DataW.TrodAll enc Try.prog W 0 (fun _ => true) true Try.f4.params.toList args.toList ds p := hA0
  rw [Try.params4] at hA hval
  obtain ⟨v0, vs0, d0, ds0, p0, q0, hargs, rfl, rfl, h0, r0⟩ := trodAll_cons hA
  obtain ⟨v1, vs1, d1, ds1, p1, q1, rfl, rfl, rfl, h1, r1⟩ := trodAll_cons r0
  obtain ⟨rfl, rfl, rfl⟩ := trodAll_nil r1
  obtain rfl : args = #[v0, v1] := by cases args; simp_all
  obtain ⟨rfl, rfl⟩ := trodVars_none hV
  have k0 := h0
  have lt0 : ∀ x ∈ p0, x.block < W.heap.size := by obtain ⟨m, hm⟩ := k0; exact DataW.trod_lt m _ _ _ hm
  obtain ⟨z0, rfl, w0⟩ := open_ints_struct (k := .i64) (n := 9) Try.underlying34 (by kernel_rfl) (hval 0 34 v0 rfl rfl) h0
  have k1 := h1
  have lt1 : ∀ x ∈ p1, x.block < W.heap.size := by obtain ⟨m, hm⟩ := k1; exact DataW.trod_lt m _ _ _ hm
  obtain ⟨a1, b1, rfl⟩ : ∃ x y : Int, v1 = .agg #[.int .i64 x, .int .i64 y] := by
    obtain ⟨u0, u1, y0, y1, n, e, _, _, t0, t1⟩ := Go.Joins.open_agg2 Try.underlying36 (by kernel_rfl) (by kernel_rfl) (hval 1 36 v1 rfl rfl) h1
    obtain ⟨x, ex, _, _⟩ := DataW.trod_int Try.underlying3 t0
    obtain ⟨y, ey, _, _⟩ := DataW.trod_int Try.underlying3 t1
    simp only [List.cons.injEq, and_true] at ex ey
    exact ⟨x, y, by rw [e, ex, ey]⟩
  clear hA0 hval0
  refine (walk z0 a1 b1 W w0).mono fun e W' ⟨he, bel⟩ => ?_
  subst he
  exact ⟨_, rfl, _, _, _, [], _, [], hW', trodAll_mk1 (shut_bool Try.underlying4 _), (trodAll_cons_mk (Below.trod laidOut (by kernel_rfl) (of_decide_eq_true (by kernel_rfl)) k0 bel lt0) (trodAll_cons_mk (Below.trod laidOut (by kernel_rfl) (of_decide_eq_true (by kernel_rfl)) k1 bel lt1) trodAll_mk0)), rfl, bel.frame _, fun h => by cases h⟩

theorem over : Rows.stripeOwnRow.holds Try.pinned (OpenSpec.ofChange Rows.stripeOwnSpec) :=
  OpenClaim.holds_of_wide 4 Try.f4 rfl rfl rfl rfl rfl rfl rfl ⟨rfl, rfl, rfl, rfl, rfl⟩ rfl rfl rfl rfl rfl (by kernel_rfl) Try.func4 (by kernel_rfl)
    (of_decide_eq_true (by kernel_rfl)) (by unfold Func.isWrapper; first | (rw [if_pos (by decide +kernel)]; kernel_rfl) | (rw [if_neg (by decide +kernel)]; exact ⟨rfl, rfl⟩))
    (fun os started H enc _ => lifted os started H enc)

theorem proved : Rows.StripeOwnSaid := over
#print axioms proved
end Go.Proofs.Ytbleebiffpkcmaa.stripeOwn
