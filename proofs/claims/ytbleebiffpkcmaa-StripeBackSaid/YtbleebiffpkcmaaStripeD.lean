/- The walks of package stripe: Change at the last version; Bytes, Read. -/
import Derived.Test.YtbleebiffpkcmaaStripeW
import Derived.Test.YtbleebiffpkcmaaStripeOwn
import Derived.Test.YtbleebiffpkcmaaPackA
import Derived.Test.YtbleebiffpkcmaaMemGrown
import Derived.Test.YtbleebiffpkcmaaMemRes
import Derived.Test.YtbleebiffpkcmaaMemBuild
import Derived.ChangeKeysEq
namespace Go.Proofs.Ytbleebiffpkcmaa
open Go.RowKit

set_option maxRecDepth 100000 in
set_option maxHeartbeats 2000000 in
theorem change_full (of : List Int) (s t : Int) (w : World) (h8 : of.length = 8) (hok : St.ok 1099511627776 of = true) (h1 : 0 ≤ s) (h2 : s < 8) (h3 : 1 ≤ t) (h4 : t ≤ 4) :
    Calls Try.prog 12 #[.agg (mp 1099511627776 of).toArray, .agg #[.int .i64 s, .int .i64 t]] w fun e w' => e = .returned (.tuple #[.agg (mp 0 (List.replicate 8 0)).toArray, .int .i64 50]) ∧ Below w.heap.size w w' := by
  have H8 := Lib.hid h8
  have Hz := Lib.hid (show (Try.prog.info? 34).map (·.size) = some 9 by kernel_rfl)
  obtain ⟨w1, hw1⟩ : ∃ w1, w1 = ((Bx w 1099511627776 of).alloc (.cells [Value.int .i64 s, .int .i64 t].toArray 36)).alloc (.cells (mp 0 (List.replicate 8 0)).toArray 34) := ⟨_, rfl⟩
  have hA0 : Blk (((Bx w 1099511627776 of).alloc (.cells [Value.int .i64 s, .int .i64 t].toArray 36)).alloc (.cells (mp 0 (List.replicate 8 0)).toArray 34)) w.heap.size 34 (mp 1099511627776 of) := ((Blk.new w 34 (mp 1099511627776 of)).alloc _).alloc _
  have hA : Blk w1 w.heap.size 34 (mp 1099511627776 of) := by rw [hw1]; exact hA0
  have hC : Blk w1 (w.heap.size + 1) 36 [.int .i64 s, .int .i64 t] := by
    have := Blk.new (Bx w 1099511627776 of) 36 [.int .i64 s, .int .i64 t]
    rw [World.size_alloc] at this
    rw [hw1]; exact this.alloc _
  have hR : Blk w1 (w.heap.size + 1 + 1) 34 (mp 0 (List.replicate 8 0)) := by
    have := Blk.new ((Bx w 1099511627776 of).alloc (.cells [Value.int .i64 s, .int .i64 t].toArray 36)) 34 (mp 0 (List.replicate 8 0))
    rw [World.size_alloc, World.size_alloc] at this
    rw [hw1]; exact this
  have hb01 : Below w.heap.size w w1 := by rw [hw1]; exact (((Below.refl _ _).alloc (Nat.le_refl _) _).alloc (by simp) _).alloc (by simp; omega) _
  have HA0 := Lib.hid hA0
  have HA := Lib.hid hA
  have HC := Lib.hid hC
  have HR := Lib.hid hR
  have Hw1 := Lib.hid hw1
  have Hs := Lib.hid (show (Try.prog.info? 34).map (·.size) = some (mp 1099511627776 of).toArray.size by rw [List.size_toArray, mp_length, h8]; exact Hz.out)
  have bl0 := fun (w : World) => run_build (P := Try.prog) w 34 #[] (mp 0 (List.replicate 8 0)).toArray (by kernel_rfl)
  have Hs2 := Lib.hid (show (Try.prog.info? 34).map (·.size) = some (mp 0 (List.replicate 8 0)).toArray.size by kernel_rfl)
  have Hone := Lib.hid (show (mp 0 (List.replicate 8 0)).toArray.all (·.oneCell') = true by rw [List.all_toArray, List.all_eq_true]; exact mp_one _ _)
  clear hA0 hA hC hR hw1 h8
  have Hok := Lib.hid hok
  clear hok
  go_enter Try.func12, Try.ntmps12
  go_wp2_with (refine wpList_load_row rfl _ (.tmp 2) rfl w.heap.size rfl 34 (mp 1099511627776 of).toArray (0, 0) _ HA0.out Try.underlying34 rfl Hs.out ?_)
  change Calls _ _ _ (((Bx w 1099511627776 of).alloc (.cells [Value.int .i64 s, .int .i64 t].toArray 36)).alloc (.cells (mp 0 (List.replicate 8 0)).toArray 34)) _
  rw [← Hw1.out]
  refine (check_any 1099511627776 of _ H8.out).mono ?_
  rintro e w2 ⟨rfl, hb12⟩
  rw [Hok.out]
  simp only [if_true]
  have hC2 := HC.out.below hb12 HC.out.lt
  have hR2 := Lib.hid (HR.out.below hb12 HR.out.lt)
  have hA2 := HA.out.below hb12 HA.out.lt
  have hb02 : Below w.heap.size w w2 := hb01.trans (hb12.mono hb01.size)
  have a0 : w2.cell? ⟨w.heap.size, 0, none⟩ = some (.int .i64 1099511627776) := hA2.cell 0
  have c0 : w2.cell? ⟨w.heap.size + 1, 0, none⟩ = some (.int .i64 s) := hC2.cell 0
  have c1 : w2.cell? ⟨w.heap.size + 1, 1, none⟩ = some (.int .i64 t) := hC2.cell 1
  clear hA2 hC2
  go_wp2_with (refine wpList_store_row rfl _ (.tmp 4) (.tmp 35) rfl (w.heap.size + 1 + 1) (mp 0 (List.replicate 8 0)).toArray rfl rfl 34 (mp 0 (List.replicate 8 0)).toArray hR2.out Hs2.out rfl Hone.out ?_)
  refine bodyPost_ret (v := .tuple #[.agg (mp 0 (List.replicate 8 0)).toArray, .int .i64 50]) ?_ rfl ⟨rfl, ?_⟩
  · exact results_cell_tmp_blk (p := 4) (u := 5) rfl _ _ rfl (hR2.out.row (mp 0 (List.replicate 8 0))) Try.underlying34 rfl Hs2.out
  · exact below_setRow hb02 (by omega) _

theorem eq_items_int {P : Program} (w : World) {e : TypeId} {k : IntKind} (he : P.underlying e = some (.int k)) (d : Nat) (xs ys : List Int) (hxy : xs.length = ys.length) : ∀ (m s : Nat), s + m = xs.length →
    (Op.eqItems (d + 1) e 1 (xs.map (Value.int k)).toArray (ys.map (Value.int k)).toArray (List.range' s m)).run P w = .ok (decide (xs.drop s = ys.drop s)) w
  | 0, s, h => by
    have h1 : xs.drop s = [] := List.drop_eq_nil_of_le (by omega)
    have h2 : ys.drop s = [] := List.drop_eq_nil_of_le (by omega)
    simp [Op.eqItems, h1, h2]
  | m + 1, s, h => by
    have ih := eq_items_int w he d xs ys hxy m (s + 1) (by omega)
    have hs : s < xs.length := by omega
    have hs' : s < ys.length := by omega
    have hag : (isAgg e).run P w = .ok false w := by
      unfold isAgg
      rw [Sem.run_bind, run_underlying he w]; rfl
    have hp : ∀ (zs : List Int) (hz : s < zs.length), (part e (zs.map (Value.int k)).toArray (s * 1)).run P w = .ok (.int k zs[s]) w := by
      intro zs hz
      simp [part, Sem.run_bind, hag, hz]
    rw [List.range'_succ]
    simp only [Op.eqItems, Sem.run_bind, hp xs hs, hp ys hs', Result.andThen_ok, run_equalIn_int w d e k k _ _ he]
    have key : decide (xs.drop s = ys.drop s) = (decide (xs[s] = ys[s]) && decide (xs.drop (s + 1) = ys.drop (s + 1))) := by
      rw [List.drop_eq_getElem_cons hs, List.drop_eq_getElem_cons hs', Bool.eq_iff_iff]
      simp only [decide_eq_true_eq, Bool.and_eq_true, List.cons.injEq]
    rw [key]
    by_cases hx : xs[s] = ys[s]
    · rw [hx]
      simpa using ih
    · have hn : (xs[s] == ys[s]) = false := by simpa using hx
      simp [hn, hx]
theorem eq_ints {P : Program} (w : World) {t e : TypeId} {n : Nat} {k : IntKind} (hu : P.underlying t = some (.array n e)) (he : P.underlying e = some (.int k)) (hi : (P.info? e).map (·.size) = some 1) (D : Nat) (xs ys : List Int) (hx : xs.length = n) (hy : ys.length = n) :
    (Op.equalIn (D + 2) t (.agg (xs.map (Value.int k)).toArray) (.agg (ys.map (Value.int k)).toArray)).run P w = .ok (decide (xs = ys)) w := by
  cases hq : P.info? e with
  | none => simp [hq] at hi
  | some i =>
    have hc : P.cellsOf e = 1 := by
      unfold Program.cellsOf; simpa [hq] using hi
    rw [show D + 2 = (D + 1) + 1 from rfl, run_equalIn_array w (D + 1) _ _ hu hq, hc, List.range_eq_range']
    have := eq_items_int (P := P) w he D xs ys (by omega) n 0 (by omega)
    simpa using this
theorem eq_of8 (w : World) (xs ys : List Int) (hx : xs.length = 8) (hy : ys.length = 8) : (Op.equalIn 10000 32 (.agg (is xs).toArray) (.agg (is ys).toArray)).run Try.prog w = .ok (decide (xs = ys)) w :=
  eq_ints w Try.underlying32 Try.underlying3 (by kernel_rfl) 9998 xs ys hx hy
theorem eq_map (w : World) (V : Int) (of : List Int) (h8 : of.length = 8) : (Op.equalIn 10000 34 (.agg (mp V of).toArray) (.agg (mp V of).toArray)).run Try.prog w = .ok true w := by
  have e8 : (Op.equalIn 9999 32 (.agg (is of).toArray) (.agg (is of).toArray)).run Try.prog w = .ok (decide (of = of)) w := eq_ints (P := Try.prog) w Try.underlying32 Try.underlying3 (by kernel_rfl) 9997 of of h8 h8
  have hfs : Try.prog.fieldsOf 34 = #[{ name := "V", type := 3, offset := 0, embedded := false, tag := "", pkgPath := "", byteOffset := 0 }, { name := "Of", type := 32, offset := 1, embedded := false, tag := "", pkgPath := "", byteOffset := 8 }] := by
    unfold Program.fieldsOf
    rw [Try.underlying34]
  rw [show (10000 : Nat) = 9999 + 1 from rfl, run_equalIn_struct w 9999 _ _ _ (by kernel_rfl) (by kernel_rfl), hfs]
  have p1 : (part 3 (mp V of).toArray 0).run Try.prog w = .ok (.int .i64 V) w := by
    have hag : (isAgg 3).run Try.prog w = .ok false w := by
      unfold isAgg
      rw [Sem.run_bind, run_underlying Try.underlying3 w]; rfl
    simp [part, Sem.run_bind, hag, mp]
  have p2 : (part 32 (mp V of).toArray 1).run Try.prog w = .ok (.agg (is of).toArray) w := by
    have hag : (isAgg 32).run Try.prog w = .ok true w := by
      unfold isAgg
      rw [Sem.run_bind, run_underlying Try.underlying32 w]; rfl
    simp [part, Sem.run_bind, hag, mp, h8]
    exact List.take_of_length_le (by simp [h8])
  have i1 : (Op.equalIn 9999 3 (.int .i64 V) (.int .i64 V)).run Try.prog w = .ok (V == V) w := run_equalIn_int (P := Try.prog) w 9998 3 .i64 .i64 V V Try.underlying3
  simp [Op.eqFields, Sem.run_bind, p1, p2, i1, e8]

/-- a map's bytes -/
def sb (V : Int) (of : List Int) : List UInt8 := Pk.le V.toNat 6 ++ of.map (fun o => UInt8.ofNat o.toNat)
theorem sb_length (V : Int) (of : List Int) (h8 : of.length = 8) : (sb V of).length = 14 := by unfold sb; rw [List.length_append, Pk.le_length, List.length_map, h8]
theorem st_parts {V : Int} {of : List Int} (h : St.ok V of = true) : 0 ≤ V ∧ V ≤ 1099511627776 := by
  unfold St.ok at h
  simp only [Bool.and_eq_true, decide_eq_true_eq] at h
  exact h.1
theorem u8_small (S : Nat) (h : S < 256) : n8 (UInt8.ofNat S) = (S : Int) := by
  unfold n8
  rw [UInt8.toNat_ofNat']
  omega

set_option maxRecDepth 100000 in
set_option maxHeartbeats 4000000 in
theorem sbytes_in (V : Int) (of : List Int) (w : World) (h8 : of.length = 8) (hok : St.ok V of = true) :
    Calls Try.prog 17 #[.agg (mp V of).toArray] w fun e w' => ∃ A c, e = .returned (.tuple #[.slice A 14 c, .int .i64 0]) ∧ 14 ≤ c ∧ At w' A (bs (sb V of)) ∧ Below w.heap.size w w' := by
  obtain ⟨v1, v2⟩ := st_parts hok
  have H8 := Lib.hid h8
  have Hok := Lib.hid hok
  have HV1 := Lib.hid v1
  have HV2 := Lib.hid v2
  obtain ⟨w1, hw1⟩ : ∃ w1, w1 = Bx w V of := ⟨_, rfl⟩
  have hb01 : Below w.heap.size w w1 := by rw [hw1]; exact (Below.refl _ _).alloc (Nat.le_refl _) _
  have hB1 : Blk w1 w.heap.size 34 (mp V of) := by rw [hw1]; exact Blk.new w 34 (mp V of)
  have HB0 := Lib.hid (show Blk (Bx w V of) w.heap.size 34 (mp V of) from Blk.new w 34 (mp V of))
  have HB1 := Lib.hid hB1
  have Hs := Lib.hid (show (Try.prog.info? 34).map (·.size) = some (mp V of).toArray.size by rw [List.size_toArray, mp_length, h8]; kernel_rfl)
  have Hs8 := Lib.hid (show (Try.prog.info? 32).map (·.size) = some (is of).length by rw [List.length_map, h8]; kernel_rfl)
  have Hw1 := Lib.hid hw1
  clear h8 hok hw1 hB1 v1 v2
  go_enter Try.func17, Try.ntmps17
  go_wp2_with (refine wpList_load_row rfl _ (.tmp 1) rfl w.heap.size rfl 34 (mp V of).toArray (0, 0) _ HB0.out Try.underlying34 rfl Hs.out ?_)
  change Calls _ _ _ (Bx w V of) _
  rw [← Hw1.out]
  refine (check_any V of _ H8.out).mono ?_
  rintro e w2 ⟨rfl, hb12⟩
  rw [Hok.out]
  have HB2 := Lib.hid (HB1.out.below hb12 HB1.out.lt)
  have hb02 : Below w.heap.size w w2 := hb01.trans (hb12.mono hb01.size)
  simp only [if_true]
  have c0 : w2.cell? ⟨w.heap.size, 0, none⟩ = some (.int .i64 V) := HB2.out.cell 0
  go_wp2_with fail
  refine (put_int none [] 0 0 V 6 V.toNat 6 _ (by have := HV1.out; omega) rfl At.nil rfl (by decide) (by decide) (by decide) (by have := HV1.out; have := HV2.out; omega)).mono ?_
  rintro e w3 ⟨v3, rfl, ho3, hb3⟩
  rw [List.nil_append] at ho3
  have HB3 := Lib.hid (HB2.out.below hb3 HB2.out.lt)
  have HM3 := Lib.hid (mp_at HB3.out)
  have Ho3 := Lib.hid ho3
  have hb03 : Below w.heap.size w w3 := hb02.trans (hb3.mono hb02.size)
  have hsz := hb3.size
  clear c0 hb3 ho3
  go_wp2_with (refine wpList_load_at rfl 32 (.tmp 20) rfl w.heap.size 1 rfl (is of) _ HM3.out (by rw [List.length_map, H8.out]; decide) Try.underlying32 rfl Hs8.out ?_)
  go_loopw [5, 22] (fun v i wr => ∃ k : Nat, k ≤ 8 ∧ i = .int .i64 k ∧ Hid (wr.ownsRow w2.heap.size 5 1 v (6 + k) (bs (Pk.le V.toNat 6 ++ (of.take k).map (fun o => UInt8.ofNat o.toNat)))) ∧ Below w.heap.size w wr ∧ w2.heap.size ≤ wr.heap.size) (fun _ i _ => 8 - (intOf i).toNat)
  case atStart => exact ⟨0, by omega, rfl, by simpa [Hid] using Ho3.out, hb03, hsz⟩
  case round =>
    obtain ⟨k, hk, rfl, ho, hb, hs2⟩ := hrel
    by_cases hlt : k < 8
    · have hlt' : (k : Int) < 8 := by omega
      obtain ⟨S, hS, hS4⟩ := okOf_get (St.ok_of Hok.out) k (by rw [H8.out]; exact hlt)
      have ix := fun w' : World => run_index (P := Try.prog) w' Try.underlying32 Try.underlying3 rfl (by kernel_rfl) (is of) k hlt (.int .i64 (S : Int)) (by rw [List.getElem?_map, hS]; rfl)
      have HS := Lib.hid hS
      have HT := Lib.hid (at_new wr [.int .u8 (S : Int)] 5 (0, 0))
      have HO := Lib.hid (ho.out.alloc (.cells #[.int .u8 (S : Int)] 5))
      have hba := hb.alloc hb.size (.cells #[.int .u8 (S : Int)] 5)
      have hsa : w2.heap.size ≤ (wr.alloc (.cells #[.int .u8 (S : Int)] 5)).heap.size := by rw [World.size_alloc]; omega
      have R1 := Lib.hid (show 6 + k + 1 ≤ maxLen by unfold maxLen; omega)
      have R2 := Lib.hid (show (6 + k + 1) * 1 ≤ 140737488355328 by omega)
      have hw8 : IntKind.u8.wrap (S : Int) = (S : Int) := by rw [show IntKind.u8.wrap (S : Int) = (S : Int) % 256 from by simp [IntKind.wrap, IntKind.bits, IntKind.signed]]; omega
      clear hS
      go_wp2_with (at_builtin; refine wpList_app_own rfl (.tmp 25) (.tmp 28) bytesTyP rfl w2.heap.size u5 (6 + k) _ rfl HO.out (some ⟨wr.heap.size, 0, none⟩) 1 1 [.int .u8 (S : Int)] rfl HT.out rfl (by intro u hu; simp at hu; subst hu; rfl) R1.out R2.out hsa ?_; intro v4 w4 hown4 hg4 hat4; have HO4 := Lib.hid hown4; have hb4 := hba.grown hg4 hba.size (fun j hj => Nat.le_trans hb02.size (HO.out.lt j hj).1); have hs4 : w2.heap.size ≤ w4.heap.size := Nat.le_trans hsa hg4.size; clear hown4 hg4 hat4)
      go_roundw
      case rel =>
        refine ⟨k + 1, by omega, by go_num, ?_, hb4, hs4⟩
        unfold Hid
        have h := HO4.out
        rw [List.take_add_one, HS.out]
        simp only [Option.toList_some, List.map_append, List.map_cons, List.map_nil, Int.toNat_natCast]
        rw [← List.append_assoc, bs_append _ [UInt8.ofNat S]]
        have e1 : bs [UInt8.ofNat S] = [.int .u8 (S : Int)] := by unfold bs; rw [List.map_cons, List.map_nil, ← u8_small S (by omega)]
        rw [e1]
        exact h
      case measure => simp [intOf]; omega
    · have hk8 : k = 8 := by omega
      rw [hk8, List.take_of_length_le (by rw [H8.out]; exact Nat.le_refl _)] at ho
      have hlt' : ¬ (k : Int) < 8 := by omega
      obtain ⟨A, c, hv, hc, -, hA⟩ := own_at ho.out
      subst hv
      have HA := Lib.hid hA
      clear hk8 hA
      go_wp2_with fail
      go_ret2
      exact ⟨A, c, rfl, hc, HA.out, hb⟩
end Go.Proofs.Ytbleebiffpkcmaa
