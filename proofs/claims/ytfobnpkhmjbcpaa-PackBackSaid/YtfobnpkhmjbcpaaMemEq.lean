/- two arrays of bytes compared: over any program. -/
import Derived.Test.YtfobnpkhmjbcpaaMem
import Derived.ChangeKeysEq
import Derived.Laws.StructEq
namespace Go.Proofs.Ytfobnpkhmjbcpaa
open Go.RowKit

theorem eq_items {P : Program} (w : World) {e : TypeId} (he : P.underlying e = some (.int .u8)) (d : Nat) (xs ys : List UInt8) (hxy : xs.length = ys.length) : ∀ (k s : Nat), s + k = xs.length →
    (Op.eqItems (d + 1) e 1 (bs xs).toArray (bs ys).toArray (List.range' s k)).run P w = .ok (decide (xs.drop s = ys.drop s)) w
  | 0, s, h => by
    have h1 : xs.drop s = [] := List.drop_eq_nil_of_le (by omega)
    have h2 : ys.drop s = [] := List.drop_eq_nil_of_le (by omega)
    simp [Op.eqItems, h1, h2]
  | k + 1, s, h => by
    have ih := eq_items w he d xs ys hxy k (s + 1) (by omega)
    have hs : s < xs.length := by omega
    have hs' : s < ys.length := by omega
    have hag : (isAgg e).run P w = .ok false w := by
      unfold isAgg
      rw [Sem.run_bind, run_underlying he w]; rfl
    have hp : ∀ (zs : List UInt8) (hz : s < zs.length), (part e (bs zs).toArray (s * 1)).run P w = .ok (B8 zs[s]) w := by
      intro zs hz
      simp [part, Sem.run_bind, hag, bs, hz]
    rw [List.range'_succ]
    simp only [Op.eqItems, Sem.run_bind, hp xs hs, hp ys hs', Result.andThen_ok, run_equalIn_int w d e .u8 .u8 _ _ he]
    have key : decide (xs.drop s = ys.drop s) = (decide (xs[s] = ys[s]) && decide (xs.drop (s + 1) = ys.drop (s + 1))) := by
      rw [List.drop_eq_getElem_cons hs, List.drop_eq_getElem_cons hs', Bool.eq_iff_iff]
      simp only [decide_eq_true_eq, Bool.and_eq_true, List.cons.injEq]
    rw [key]
    by_cases hx : xs[s] = ys[s]
    · rw [hx]
      simpa using ih
    · have hn : (n8 xs[s] == n8 ys[s]) = false := by
        simp only [beq_eq_false_iff_ne, ne_eq]
        intro h
        unfold n8 at h
        exact hx (UInt8.toNat_inj.1 (by omega))
      simp [hn, hx]

theorem eq_rows {P : Program} (w : World) {t e : TypeId} {n : Nat} (hu : P.underlying t = some (.array n e)) (he : P.underlying e = some (.int .u8)) (hi : (P.info? e).map (·.size) = some 1) (xs ys : List UInt8) (hx : xs.length = n) (hy : ys.length = n) :
    (Op.equalIn 10000 t (.agg (bs xs).toArray) (.agg (bs ys).toArray)).run P w = .ok (decide (xs = ys)) w := by
  cases hq : P.info? e with
  | none => simp [hq] at hi
  | some i =>
    have hc : P.cellsOf e = 1 := by
      unfold Program.cellsOf; simpa [hq] using hi
    rw [show (10000 : Nat) = 9999 + 1 from rfl, run_equalIn_array w 9999 _ _ hu hq, hc, List.range_eq_range']
    have := eq_items (P := P) w he 9998 xs ys (by omega) n 0 (by omega)
    simpa using this
end Go.Proofs.Ytfobnpkhmjbcpaa
