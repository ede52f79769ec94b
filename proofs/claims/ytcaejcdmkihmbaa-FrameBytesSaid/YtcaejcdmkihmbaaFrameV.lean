/- The walk of the reference of frames: Read. -/
import Derived.Test.YtcaejcdmkihmbaaFrameZ
import Derived.Test.YtcaejcdmkihmbaaRegionF
import Derived.Test.YtcaejcdmkihmbaaFrameK
namespace Go.Proofs.Ytcaejcdmkihmbaa
open Go.RowKit

set_option maxRecDepth 100000 in
set_option maxHeartbeats 4000000 in
theorem rfread_unsealed (A : Option Addr) (l : List UInt8) (n c : Nat) (w : World) (hA : At w A (bs l)) (hn : n = l.length) (hc : n ≤ c) (hb : n ≤ 900000) (hok : Crc.okSealed l = false) :
    Calls Try.prog 16 #[.slice A n c] w (ReadSays l w) := by
  have HA := Lib.hid hA
  have Hn := Lib.hid hn
  have Hok := Lib.hid hok
  have HZ := Lib.hid (Blk.new w 33 zfc)
  have hb1 : Below w.heap.size w (w.alloc (.cells zfc.toArray 33)) := (Below.refl _ _).alloc (Nat.le_refl _) _
  have HA1 := Lib.hid (HA.out.alloc (.cells zfc.toArray 33))
  have Hi := Lib.hid (show (Try.prog.info? 33).map (·.size) = some 6 by kernel_rfl)
  have Hone := Lib.hid (show zfc.toArray.all (·.oneCell') = true from fc_all _ _ _ _ _ _ _ _)
  have zb := fun (w : World) => run_build (P := Try.prog) w 33 #[] zfc.toArray (by kernel_rfl)
  clear hA hn hok
  go_enter Try.func16, Try.ntmps16
  go_wp2_with fail
  refine (ropen_no A l n c _ HA1.out Hn.out hc hb Hok.out).mono ?_
  rintro e w2 ⟨rfl, hb2⟩
  have HZ2 := Lib.hid (HZ.out.below hb2 HZ.out.lt)
  have hb3 := hb1.trans (hb2.mono hb1.size)
  clear hb2 hb1
  go_wp2_with (refine wpList_store_row rfl _ (.tmp 2) (.tmp 22) rfl w.heap.size zfc.toArray rfl rfl 33 zfc.toArray HZ2.out Hi.out rfl Hone.out ?_)
  refine bodyPost_ret (v := .tuple #[.agg zfc.toArray, .int .i64 40]) ?_ rfl ⟨.inr ⟨rfl, ?_⟩, below_setRow hb3 (Nat.le_refl _) _⟩
  · exact results_cell_tmp_blk (p := 2) (u := 3) rfl _ _ rfl (HZ2.out.row zfc) Try.underlying33 rfl Hi.out
  unfold Fr.read
  rw [if_neg]
  rw [Hok.out]
  simp

set_option maxRecDepth 100000 in
set_option maxHeartbeats 4000000 in
theorem rfread_len (A : Option Addr) (l : List UInt8) (n c : Nat) (w : World) (hA : At w A (bs l)) (hn : n = l.length) (hc : n ≤ c) (hb : n ≤ 900000) (hok : Crc.okSealed l = true) (h64 : n ≠ 64) :
    Calls Try.prog 16 #[.slice A n c] w (ReadSays l w) := by
  have HA := Lib.hid hA
  have Hn := Lib.hid hn
  have Hok := Lib.hid hok
  have HZ := Lib.hid (Blk.new w 33 zfc)
  have hb1 : Below w.heap.size w (w.alloc (.cells zfc.toArray 33)) := (Below.refl _ _).alloc (Nat.le_refl _) _
  have HA1 := Lib.hid (HA.out.alloc (.cells zfc.toArray 33))
  have Hi := Lib.hid (show (Try.prog.info? 33).map (·.size) = some 6 by kernel_rfl)
  have Hone := Lib.hid (show zfc.toArray.all (·.oneCell') = true from fc_all _ _ _ _ _ _ _ _)
  have zb := fun (w : World) => run_build (P := Try.prog) w 33 #[] zfc.toArray (by kernel_rfl)
  have n1 : ¬ ((n : Int) = 64) := by omega
  have n2 : ((n : Int) == 64) = false := by simpa using n1
  clear hA hn hok
  go_enter Try.func16, Try.ntmps16
  go_wp2_with fail
  refine (ropen_yes A l n c _ HA1.out Hn.out hc hb Hok.out).mono ?_
  rintro e w2 ⟨v, rfl, -, hb2⟩
  have HZ2 := Lib.hid (HZ.out.below hb2 HZ.out.lt)
  have hb3 := hb1.trans (hb2.mono hb1.size)
  clear hb2 hb1
  go_wp2_with (refine wpList_store_row rfl _ (.tmp 2) (.tmp 22) rfl w.heap.size zfc.toArray rfl rfl 33 zfc.toArray HZ2.out Hi.out rfl Hone.out ?_)
  refine bodyPost_ret (v := .tuple #[.agg zfc.toArray, .int .i64 40]) ?_ rfl ⟨.inr ⟨rfl, ?_⟩, below_setRow hb3 (Nat.le_refl _) _⟩
  · exact results_cell_tmp_blk (p := 2) (u := 3) rfl _ _ rfl (HZ2.out.row zfc) Try.underlying33 rfl Hi.out
  unfold Fr.read
  rw [if_neg]
  rw [← Hn.out]
  exact fun h => h64 h.2.1

set_option maxRecDepth 100000 in
set_option maxHeartbeats 4000000 in
theorem rfread_long (A : Option Addr) (l : List UInt8) (c : Nat) (w : World) (hA : At w A (bs l)) (hn : 64 = l.length) (hc : 64 ≤ c) (hok : Crc.okSealed l = true) (h45 : 45 < ((l.take 60).getD 10 0).toNat) :
    Calls Try.prog 16 #[.slice A 64 c] w (ReadSays l w) := by
  have HA := Lib.hid hA
  have Hn := Lib.hid hn
  have Hok := Lib.hid hok
  have HZ := Lib.hid (Blk.new w 33 zfc)
  have hb1 : Below w.heap.size w (w.alloc (.cells zfc.toArray 33)) := (Below.refl _ _).alloc (Nat.le_refl _) _
  have HA1 := Lib.hid (HA.out.alloc (.cells zfc.toArray 33))
  have Hi := Lib.hid (show (Try.prog.info? 33).map (·.size) = some 6 by kernel_rfl)
  have Hone := Lib.hid (show zfc.toArray.all (·.oneCell') = true from fc_all _ _ _ _ _ _ _ _)
  have zb := fun (w : World) => run_build (P := Try.prog) w 33 #[] zfc.toArray (by kernel_rfl)
  have H45 := Lib.hid h45
  clear hA hn hok h45
  go_enter Try.func16, Try.ntmps16
  go_wp2_with fail
  refine (ropen_yes A l 64 c _ HA1.out Hn.out hc (by decide) Hok.out).mono ?_
  rintro e w2 ⟨v, rfl, hown, hb2⟩
  rw [← Hn.out] at hown
  obtain ⟨g, c', rfl, hc', -, -, hA'⟩ := own_shape hown (by decide)
  have HZ2 := Lib.hid (HZ.out.below hb2 HZ.out.lt)
  have hb3 := hb1.trans (hb2.mono hb1.size)
  obtain ⟨b, off, e, -, hx⟩ := hA'.get (k := 10) (by rw [bs_length, List.length_take, ← Hn.out]; decide)
  cases e
  rw [bs_get _ _ (by rw [List.length_take, ← Hn.out]; decide)] at hx
  obtain ⟨x, hxx⟩ : ∃ x, x = (l.take 60)[10]'(by rw [List.length_take, ← Hn.out]; decide) := ⟨_, rfl⟩
  have hx45 : 45 < n8 x := by
    have h := H45.out
    rw [List.getD_eq_getElem?_getD, List.getElem?_eq_getElem (by rw [List.length_take, ← Hn.out]; decide)] at h
    rw [hxx]
    unfold n8
    simp only [Option.getD_some] at h
    omega
  rw [← hxx] at hx
  have x0 := n8_0 x
  have x1 := n8_lt x
  clear hb2 hb1 hA' hown hxx
  go_wp2_with (refine wpList_store_row rfl _ (.tmp 2) (.tmp 29) rfl w.heap.size zfc.toArray rfl rfl 33 zfc.toArray HZ2.out Hi.out rfl Hone.out ?_)
  refine bodyPost_ret (v := .tuple #[.agg zfc.toArray, .int .i64 40]) ?_ rfl ⟨.inr ⟨rfl, ?_⟩, below_setRow hb3 (Nat.le_refl _) _⟩
  · exact results_cell_tmp_blk (p := 2) (u := 3) rfl _ _ rfl (HZ2.out.row zfc) Try.underlying33 rfl Hi.out
  unfold Fr.read
  rw [if_neg]
  intro h
  have := H45.out
  omega

def rtree : PT := .still 0 (.still 1 (.still 4 (.still 5 (.still 8 (.still 9 (.still 10 (.still 11 (.still 12 (.still 13 (.still 14 (.still 15 (.still 16 (.still 17 (.still 18 (.still 19 (.fork 2 (.still 3 (.fork 6 (.still 7 (.fork 20 (.still 21 (.still 22 (.alone 23 (.alone 24 .nil)))) 23 (.alone 20 (.still 21 (.still 22 (.alone 24 .nil)))))) 23 (.alone 6 (.still 7 (.alone 20 (.still 21 (.still 22 (.alone 24 .nil)))))))) 23 (.alone 2 (.still 3 (.alone 6 (.still 7 (.alone 20 (.still 21 (.still 22 (.alone 24 .nil))))))))))))))))))))))))

theorem setRow_alloc_drew (w : World) (c c' : Array Value) (t : TypeId) : (w.drew.alloc (.cells c t)).setRow w.heap.size c' = w.drew.alloc (.cells c' t) := World.setRow_alloc_new w.drew c c' t
theorem cut_in {X Y : Prop} (h : X → Y) (x : X) : Y := h x

set_option maxRecDepth 100000 in
set_option maxHeartbeats 4000000 in
theorem rfread_full (A : Option Addr) (l : List UInt8) (c : Nat) (w : World) (hA : At w A (bs l)) (hn : 64 = l.length) (hc : 64 ≤ c) (hok : Crc.okSealed l = true) (h45 : ((l.take 60).getD 10 0).toNat ≤ 45) :
    Calls Try.prog 16 #[.slice A 64 c] w (ReadSays l w) := by
  have HA := Lib.hid hA
  have Hn := Lib.hid hn
  have Hok := Lib.hid hok
  have HZ := Lib.hid (Blk.new w 33 zfc)
  have hb1 : Below w.heap.size w (w.alloc (.cells zfc.toArray 33)) := (Below.refl _ _).alloc (Nat.le_refl _) _
  have HA1 := Lib.hid (HA.out.alloc (.cells zfc.toArray 33))
  have Hi := Lib.hid (show (Try.prog.info? 33).map (·.size) = some 6 by kernel_rfl)
  have Hone := Lib.hid (show zfc.toArray.all (·.oneCell') = true from fc_all _ _ _ _ _ _ _ _)
  have zb := fun (w : World) => run_build (P := Try.prog) w 33 #[] zfc.toArray (by kernel_rfl)
  have H45 := Lib.hid h45
  clear hA hn hok h45
  go_enter Try.func16, Try.ntmps16
  go_wp2_with fail
  refine (ropen_yes A l 64 c _ HA1.out Hn.out hc (by decide) Hok.out).mono ?_
  rintro e w2 ⟨v, rfl, hown, hb2⟩
  rw [← Hn.out] at hown
  obtain ⟨g, c', rfl, hc', -, -, hA'⟩ := own_shape hown (by decide)
  have HZ2 := Lib.hid (HZ.out.below hb2 HZ.out.lt)
  have hb3 := hb1.trans (hb2.mono hb1.size)
  obtain ⟨L, hL⟩ : ∃ L, L = l.take (64 - 4) := ⟨_, rfl⟩
  rw [← hL] at hA'
  have HL := Lib.hid hL
  have HL60 : Hid (L.length = 60) := by rw [hL, List.length_take, ← Hn.out]; rfl
  obtain ⟨b, off, e, -, hx⟩ := hA'.get (k := 10) (by rw [bs_length, HL60.out]; decide)
  cases e
  rw [bs_get _ _ (by rw [HL60.out]; decide)] at hx
  obtain ⟨b, off, e, -, hy⟩ := hA'.get (k := 9) (by rw [bs_length, HL60.out]; decide)
  cases e
  rw [bs_get _ _ (by rw [HL60.out]; decide)] at hy
  obtain ⟨k, hk⟩ : ∃ k, k = (L.getD 10 0).toNat := ⟨_, rfl⟩
  have Hk := Lib.hid hk
  have k45 : k ≤ 45 := by rw [hk, hL]; exact H45.out
  have hx' : w2.cell? ⟨g, 10, none⟩ = some (.int .u8 (k : Int)) := by
    rw [Nat.zero_add] at hx
    rw [hx, hk, List.getD_eq_getElem?_getD, List.getElem?_eq_getElem (by rw [HL60.out]; decide)]
    rfl
  obtain ⟨V2, hV2⟩ : ∃ V, V = Pk.num ((L.drop 9).take 1) := ⟨_, rfl⟩
  have HV2 := Lib.hid hV2
  have hy' : w2.cell? ⟨g, 9, none⟩ = some (.int .u8 (V2 : Int)) := by
    rw [Nat.zero_add] at hy
    have e1 : (L.drop 9).take 1 = [L[9]'(by rw [HL60.out]; decide)] := by rw [List.drop_eq_getElem_cons (by rw [HL60.out]; decide)]; rfl
    rw [hy, hV2, e1]
    show some (Value.int .u8 (n8 _)) = _
    simp [Pk.num, n8]
  have v2 : V2 < 256 := by rw [HV2.out]; have := Pk.num_lt ((L.drop 9).take 1); simpa [HL60.out] using this
  have HA2 := Lib.hid hA'
  have c60 : 60 ≤ c' := hc'
  clear hb2 hb1 hA' hown hL hx hk hc' hy hV2
  go_wp2_with fail
  have hbd : Below w2.heap.size w2 w2.drew := (Below.refl _ _).drew
  obtain ⟨V0, hV0⟩ : ∃ V, V = Pk.num (L.take 6) := ⟨_, rfl⟩
  obtain ⟨V1, hV1⟩ : ∃ V, V = Pk.num ((L.drop 6).take 3) := ⟨_, rfl⟩
  obtain ⟨V4, hV4⟩ : ∃ V, V = Pk.num ((L.drop 11).take 4) := ⟨_, rfl⟩
  have HV0 := Lib.hid hV0
  have HV1 := Lib.hid hV1
  have HV4 := Lib.hid hV4
  have v0 : V0 < 281474976710656 := by rw [HV0.out]; have := Pk.num_lt (L.take 6); simp [HL60.out] at this; omega
  have v1 : V1 < 16777216 := by rw [HV1.out]; have := Pk.num_lt ((L.drop 6).take 3); simp [HL60.out] at this; omega
  have v4 : V4 < 4294967296 := by rw [HV4.out]; have := Pk.num_lt ((L.drop 11).take 4); simp [HL60.out] at this; omega
  obtain ⟨M, hM⟩ : ∃ M, M = BitVec.ofNat 32 V4 := ⟨_, rfl⟩
  have hM4 : (V4 : Int) = n32 M := by rw [hM]; unfold n32; rw [BitVec.toNat_ofNat, Nat.mod_eq_of_lt (by omega)]
  have HM := Lib.hid hM
  have hcut : ∀ i m, At w2 (some ⟨g, i, none⟩) (bs ((L.drop i).take m)) := by
    intro i m
    have h := HA2.out.cut i m
    have e1 : ((bs L).drop i).take m = bs ((L.drop i).take m) := by unfold bs; rw [List.map_take, List.map_drop]
    rw [e1, Option.map_some, addr_add, Nat.zero_add] at h
    exact h
  have HN0 : Hid (At w2 (some ⟨g, 0, none⟩) (bs (L.take 6))) := hcut 0 6
  have HN1 := Lib.hid (hcut 6 3)
  have HN2 := Lib.hid (hcut 11 4)
  have HNL := Lib.hid (hcut 15 k)
  have HE0 := Lib.hid (show 6 = (L.take 6).length by simp [HL60.out])
  have HE1 := Lib.hid (show 3 = ((L.drop 6).take 3).length by simp [HL60.out])
  have HE2 := Lib.hid (show 4 = ((L.drop 11).take 4).length by simp [HL60.out])
  have a6 : ¬ c' = 6 := by omega
  have a11 : ¬ c' = 11 := by omega
  have a15 : ¬ c' = 15 := by omega
  have b6 : (6 : Int) ≤ (c' : Int) := by omega
  have b9 : (9 : Int) ≤ (c' : Int) := by omega
  have b15 : (15 : Int) ≤ (c' : Int) := by omega
  have G9 : ∀ w', Below w2.heap.size w2 w' → w'.cell? ⟨g, 9, none⟩ = some (.int .u8 (V2 : Int)) := fun w' h => (h.cell (p := ⟨g, 9, none⟩) (cell_lt hy')).trans hy'
  have hbe : Below w2.heap.size w2 (w2.drew.alloc (.cells zfc.toArray 33)) := hbd.alloc (Nat.le_refl _) _
  have hbf : Below w2.heap.size w2 (w2.drew.alloc (.cells (fc (V0 : Int) (V1 : Int) ((V2 : Int) / 16) ((V2 : Int) % 16) (n32 M) none 0 0).toArray 33)) := hbd.alloc (Nat.le_refl _) _
  have HNew := Lib.hid (Blk.new w2.drew 33 zfc)
  have fb5 := fun (w : World) (a b c d e : Int) => run_build (P := Try.prog) w 33 #[(0, .int .i64 a), (1, .int .i64 b), (2, .int .i64 c), (3, .int .i64 d), (4, .int .u32 e)] (fc a b c d e none 0 0).toArray (by kernel_rfl)
  have W0 : IntKind.i64.wrap (V0 : Int) = (V0 : Int) := IntWalk.i64_in _ (by omega)
  have W1 : IntKind.i64.wrap (V1 : Int) = (V1 : Int) := IntWalk.i64_in _ (by omega)
  have W4 : IntKind.u32.wrap (V4 : Int) = n32 M := by rw [IntKind.wrap_u32, ← hM4]; omega
  have X1 : IntKind.u8.wrap ((V2 : Int) / 16) = (V2 : Int) / 16 := by rw [show IntKind.u8.wrap ((V2 : Int) / 16) = (V2 : Int) / 16 % 256 from by simp [IntKind.wrap, IntKind.bits, IntKind.signed]]; omega
  have X2 : IntKind.i64.wrap ((V2 : Int) / 16) = (V2 : Int) / 16 := IntWalk.i64_in _ (by omega)
  have X3 : ((V2 : Int)).tmod 16 = (V2 : Int) % 16 := Int.tmod_eq_emod_of_nonneg (by omega)
  have X4 : IntKind.u8.wrap ((V2 : Int) % 16) = (V2 : Int) % 16 := by rw [show IntKind.u8.wrap ((V2 : Int) % 16) = (V2 : Int) % 16 % 256 from by simp [IntKind.wrap, IntKind.bits, IntKind.signed]]; omega
  have X5 : IntKind.i64.wrap ((V2 : Int) % 16) = (V2 : Int) % 16 := IntWalk.i64_in _ (by omega)
  clear hV0 hV1 hV4 hM hM4 hcut hy' hx'
  apply cut_in
  · intro hfin
    refine region_tree (S := fun w' => Below w2.heap.size w2 w') rtree (by kernel_rfl) (by kernel_rfl) (by kernel_rfl) (by decide) hbd ?_
    unfold rtree
    iterate 16
      refine tree_still2 (v := ?_) (a' := ?_) rfl (by rfl) (fun w' hS' => ?_) ?_ ?_
      rotate_left 2
      (focus (simp only [nth_succ, nth_zero]; go_simp <;> with_reducible rfl))
      (focus (simp only [nth_succ, nth_zero, Act.put, List.setIfInBounds_toArray, List.set_cons_zero, List.set_cons_succ] <;> rfl))
    refine tree_fork rfl (by rfl) (by rfl) (fun K hK => ?_) (fun K hK => ?_)
    · simp only [nth_succ, nth_zero]
      go_simp
      refine (number_any (some ⟨g, 0, none⟩) (L.take 6) 6 c' _ (HN0.out.below hbd (Nat.le_refl _)) HE0.out (by decide)).mono ?_
      rintro e w' ⟨rfl, rfl⟩
      rw [← HV0.out]
      refine hK.out _ _ hbd ?_
      clear hK K
      refine tree_still2 (v := ?_) (a' := ?_) rfl (by rfl) (fun w' hS' => ?_) ?_ ?_
      rotate_left 2
      (focus (simp only [nth_succ, nth_zero]; go_simp <;> with_reducible rfl))
      (focus (simp only [nth_succ, nth_zero, Act.put, List.setIfInBounds_toArray, List.set_cons_zero, List.set_cons_succ] <;> rfl))
      refine tree_fork rfl (by rfl) (by rfl) (fun K hK => ?_) (fun K hK => ?_)
      · simp only [nth_succ, nth_zero]
        go_simp
        refine (number_any (some ⟨g, 6, none⟩) ((L.drop 6).take 3) 3 (c' - 6) _ (HN1.out.below hbd (Nat.le_refl _)) HE1.out (by decide)).mono ?_
        rintro e w' ⟨rfl, rfl⟩
        rw [← HV1.out]
        refine hK.out _ _ hbd ?_
        clear hK K
        refine tree_still2 (v := ?_) (a' := ?_) rfl (by rfl) (fun w' hS' => ?_) ?_ ?_
        rotate_left 2
        (focus (simp only [nth_succ, nth_zero]; go_simp <;> with_reducible rfl))
        (focus (simp only [nth_succ, nth_zero, Act.put, List.setIfInBounds_toArray, List.set_cons_zero, List.set_cons_succ] <;> rfl))
        refine tree_fork rfl (by rfl) (by rfl) (fun K hK => ?_) (fun K hK => ?_)
        · simp only [nth_succ, nth_zero]
          go_simp
          refine (number_any (some ⟨g, 11, none⟩) ((L.drop 11).take 4) 4 (c' - 11) _ (HN2.out.below hbd (Nat.le_refl _)) HE2.out (by decide)).mono ?_
          rintro e w' ⟨rfl, rfl⟩
          rw [← HV4.out]
          refine hK.out _ _ hbd ?_
          clear hK K
          refine tree_still2 (v := ?_) (a' := ?_) rfl (by rfl) (fun w' hS' => ?_) ?_ ?_
          rotate_left 2
          (focus (simp only [nth_succ, nth_zero]; go_simp <;> with_reducible rfl))
          (focus (simp only [nth_succ, nth_zero, Act.put, List.setIfInBounds_toArray, List.set_cons_zero, List.set_cons_succ] <;> rfl))
          refine tree_still2 (v := ?_) (a' := ?_) rfl (by rfl) (fun w' hS' => ?_) ?_ ?_
          rotate_left 2
          (focus (simp only [nth_succ, nth_zero]; go_simp <;> with_reducible rfl))
          (focus (simp only [nth_succ, nth_zero, Act.put, List.setIfInBounds_toArray, List.set_cons_zero, List.set_cons_succ] <;> rfl))
          refine tree_alone rfl (by rfl) (fun K hK => ?_)
          simp only [nth_succ, nth_zero]
          go_simp
          refine hK.out _ _ hbe ?_
          clear hK K
          refine tree_alone rfl (by rfl) (fun K hK => ?_)
          simp only [nth_succ, nth_zero]
          change Oper.wp _ _ _ (w2.drew.alloc (.cells zfc.toArray 33)) _ _
          refine wp_store_row _ (.tmp 7) (.tmp 52) rfl w2.heap.size (fc (V0 : Int) (V1 : Int) ((V2 : Int) / 16) ((V2 : Int) % 16) (n32 M) none 0 0).toArray rfl rfl 33 zfc.toArray HNew.out Hi.out rfl (fc_all _ _ _ _ _ _ _ _) ?_
          rw [setRow_alloc_drew]
          refine hK.out _ _ hbf ?_
          clear hK K
          refine tree_nil ?_
          exact hfin
        · simp only [nth_succ, nth_zero]
          go_simp
          refine hK.out _ _ hbe ?_
          clear hK K
          refine tree_alone rfl (by rfl) (fun K hK => ?_)
          simp only [nth_succ, nth_zero]
          go_simp
          refine (number_any (some ⟨g, 11, none⟩) ((L.drop 11).take 4) 4 (c' - 11) _ (HN2.out.below hbe (Nat.le_refl _)) HE2.out (by decide)).mono ?_
          rintro e w' ⟨rfl, rfl⟩
          rw [← HV4.out]
          refine hK.out _ _ hbe ?_
          clear hK K
          refine tree_still2 (v := ?_) (a' := ?_) rfl (by rfl) (fun w' hS' => ?_) ?_ ?_
          rotate_left 2
          (focus (simp only [nth_succ, nth_zero]; go_simp <;> with_reducible rfl))
          (focus (simp only [nth_succ, nth_zero, Act.put, List.setIfInBounds_toArray, List.set_cons_zero, List.set_cons_succ] <;> rfl))
          refine tree_still2 (v := ?_) (a' := ?_) rfl (by rfl) (fun w' hS' => ?_) ?_ ?_
          rotate_left 2
          (focus (simp only [nth_succ, nth_zero]; go_simp <;> with_reducible rfl))
          (focus (simp only [nth_succ, nth_zero, Act.put, List.setIfInBounds_toArray, List.set_cons_zero, List.set_cons_succ] <;> rfl))
          refine tree_alone rfl (by rfl) (fun K hK => ?_)
          simp only [nth_succ, nth_zero]
          change Oper.wp _ _ _ (w2.drew.alloc (.cells zfc.toArray 33)) _ _
          refine wp_store_row _ (.tmp 7) (.tmp 52) rfl w2.heap.size (fc (V0 : Int) (V1 : Int) ((V2 : Int) / 16) ((V2 : Int) % 16) (n32 M) none 0 0).toArray rfl rfl 33 zfc.toArray HNew.out Hi.out rfl (fc_all _ _ _ _ _ _ _ _) ?_
          rw [setRow_alloc_drew]
          refine hK.out _ _ hbf ?_
          clear hK K
          refine tree_nil ?_
          exact hfin
      · simp only [nth_succ, nth_zero]
        go_simp
        refine hK.out _ _ hbe ?_
        clear hK K
        refine tree_alone rfl (by rfl) (fun K hK => ?_)
        simp only [nth_succ, nth_zero]
        go_simp
        refine (number_any (some ⟨g, 6, none⟩) ((L.drop 6).take 3) 3 (c' - 6) _ (HN1.out.below hbe (Nat.le_refl _)) HE1.out (by decide)).mono ?_
        rintro e w' ⟨rfl, rfl⟩
        rw [← HV1.out]
        refine hK.out _ _ hbe ?_
        clear hK K
        refine tree_still2 (v := ?_) (a' := ?_) rfl (by rfl) (fun w' hS' => ?_) ?_ ?_
        rotate_left 2
        (focus (simp only [nth_succ, nth_zero]; go_simp <;> with_reducible rfl))
        (focus (simp only [nth_succ, nth_zero, Act.put, List.setIfInBounds_toArray, List.set_cons_zero, List.set_cons_succ] <;> rfl))
        refine tree_alone rfl (by rfl) (fun K hK => ?_)
        simp only [nth_succ, nth_zero]
        go_simp
        refine (number_any (some ⟨g, 11, none⟩) ((L.drop 11).take 4) 4 (c' - 11) _ (HN2.out.below hbe (Nat.le_refl _)) HE2.out (by decide)).mono ?_
        rintro e w' ⟨rfl, rfl⟩
        rw [← HV4.out]
        refine hK.out _ _ hbe ?_
        clear hK K
        refine tree_still2 (v := ?_) (a' := ?_) rfl (by rfl) (fun w' hS' => ?_) ?_ ?_
        rotate_left 2
        (focus (simp only [nth_succ, nth_zero]; go_simp <;> with_reducible rfl))
        (focus (simp only [nth_succ, nth_zero, Act.put, List.setIfInBounds_toArray, List.set_cons_zero, List.set_cons_succ] <;> rfl))
        refine tree_still2 (v := ?_) (a' := ?_) rfl (by rfl) (fun w' hS' => ?_) ?_ ?_
        rotate_left 2
        (focus (simp only [nth_succ, nth_zero]; go_simp <;> with_reducible rfl))
        (focus (simp only [nth_succ, nth_zero, Act.put, List.setIfInBounds_toArray, List.set_cons_zero, List.set_cons_succ] <;> rfl))
        refine tree_alone rfl (by rfl) (fun K hK => ?_)
        simp only [nth_succ, nth_zero]
        change Oper.wp _ _ _ (w2.drew.alloc (.cells zfc.toArray 33)) _ _
        refine wp_store_row _ (.tmp 7) (.tmp 52) rfl w2.heap.size (fc (V0 : Int) (V1 : Int) ((V2 : Int) / 16) ((V2 : Int) % 16) (n32 M) none 0 0).toArray rfl rfl 33 zfc.toArray HNew.out Hi.out rfl (fc_all _ _ _ _ _ _ _ _) ?_
        rw [setRow_alloc_drew]
        refine hK.out _ _ hbf ?_
        clear hK K
        refine tree_nil ?_
        exact hfin
    · simp only [nth_succ, nth_zero]
      go_simp
      refine hK.out _ _ hbe ?_
      clear hK K
      refine tree_alone rfl (by rfl) (fun K hK => ?_)
      simp only [nth_succ, nth_zero]
      go_simp
      refine (number_any (some ⟨g, 0, none⟩) (L.take 6) 6 c' _ (HN0.out.below hbe (Nat.le_refl _)) HE0.out (by decide)).mono ?_
      rintro e w' ⟨rfl, rfl⟩
      rw [← HV0.out]
      refine hK.out _ _ hbe ?_
      clear hK K
      refine tree_still2 (v := ?_) (a' := ?_) rfl (by rfl) (fun w' hS' => ?_) ?_ ?_
      rotate_left 2
      (focus (simp only [nth_succ, nth_zero]; go_simp <;> with_reducible rfl))
      (focus (simp only [nth_succ, nth_zero, Act.put, List.setIfInBounds_toArray, List.set_cons_zero, List.set_cons_succ] <;> rfl))
      refine tree_alone rfl (by rfl) (fun K hK => ?_)
      simp only [nth_succ, nth_zero]
      go_simp
      refine (number_any (some ⟨g, 6, none⟩) ((L.drop 6).take 3) 3 (c' - 6) _ (HN1.out.below hbe (Nat.le_refl _)) HE1.out (by decide)).mono ?_
      rintro e w' ⟨rfl, rfl⟩
      rw [← HV1.out]
      refine hK.out _ _ hbe ?_
      clear hK K
      refine tree_still2 (v := ?_) (a' := ?_) rfl (by rfl) (fun w' hS' => ?_) ?_ ?_
      rotate_left 2
      (focus (simp only [nth_succ, nth_zero]; go_simp <;> with_reducible rfl))
      (focus (simp only [nth_succ, nth_zero, Act.put, List.setIfInBounds_toArray, List.set_cons_zero, List.set_cons_succ] <;> rfl))
      refine tree_alone rfl (by rfl) (fun K hK => ?_)
      simp only [nth_succ, nth_zero]
      go_simp
      refine (number_any (some ⟨g, 11, none⟩) ((L.drop 11).take 4) 4 (c' - 11) _ (HN2.out.below hbe (Nat.le_refl _)) HE2.out (by decide)).mono ?_
      rintro e w' ⟨rfl, rfl⟩
      rw [← HV4.out]
      refine hK.out _ _ hbe ?_
      clear hK K
      refine tree_still2 (v := ?_) (a' := ?_) rfl (by rfl) (fun w' hS' => ?_) ?_ ?_
      rotate_left 2
      (focus (simp only [nth_succ, nth_zero]; go_simp <;> with_reducible rfl))
      (focus (simp only [nth_succ, nth_zero, Act.put, List.setIfInBounds_toArray, List.set_cons_zero, List.set_cons_succ] <;> rfl))
      refine tree_still2 (v := ?_) (a' := ?_) rfl (by rfl) (fun w' hS' => ?_) ?_ ?_
      rotate_left 2
      (focus (simp only [nth_succ, nth_zero]; go_simp <;> with_reducible rfl))
      (focus (simp only [nth_succ, nth_zero, Act.put, List.setIfInBounds_toArray, List.set_cons_zero, List.set_cons_succ] <;> rfl))
      refine tree_alone rfl (by rfl) (fun K hK => ?_)
      simp only [nth_succ, nth_zero]
      change Oper.wp _ _ _ (w2.drew.alloc (.cells zfc.toArray 33)) _ _
      refine wp_store_row _ (.tmp 7) (.tmp 52) rfl w2.heap.size (fc (V0 : Int) (V1 : Int) ((V2 : Int) / 16) ((V2 : Int) % 16) (n32 M) none 0 0).toArray rfl rfl 33 zfc.toArray HNew.out Hi.out rfl (fc_all _ _ _ _ _ _ _ _) ?_
      rw [setRow_alloc_drew]
      refine hK.out _ _ hbf ?_
      clear hK K
      refine tree_nil ?_
      exact hfin
  have HF := Blk.new w2.drew 33 (fc (V0 : Int) (V1 : Int) ((V2 : Int) / 16) ((V2 : Int) % 16) (n32 M) none 0 0)
  change Blk _ w2.heap.size _ _ at HF
  have hWs : w2.heap.size < (w2.drew.alloc (.cells (fc (V0 : Int) (V1 : Int) ((V2 : Int) / 16) ((V2 : Int) % 16) (n32 M) none 0 0).toArray 33)).heap.size := HF.lt
  generalize w2.drew.alloc (.cells (fc (V0 : Int) (V1 : Int) ((V2 : Int) / 16) ((V2 : Int) % 16) (n32 M) none 0 0).toArray 33) = W at HF hbf hWs ⊢
  obtain ⟨m, hm⟩ : ∃ m, m = 15 + k := ⟨_, rfl⟩
  have d0 : IntKind.i64.wrap (15 + (k : Int)) = (m : Int) := by rw [hm, IntWalk.i64_in _ (by omega)]; omega
  have d1 : (m : Int) ≤ (c' : Int) := by omega
  have d3 : (15 : Int) ≤ (m : Int) := by omega
  have d4 : m - 15 = k := by omega
  obtain ⟨ld, hld⟩ : ∃ ld, ld = (L.drop 15).take k := ⟨_, rfl⟩
  have hldl : ld.length = k := by rw [hld, List.length_take, List.length_drop, HL60.out]; omega
  have HBl := Lib.hid (HNL.out.below hbf.drew (Nat.le_refl _))
  rw [← hld] at HBl
  have Hld := Lib.hid hld
  have Hldl := Lib.hid hldl
  have Q1 := Lib.hid (show (bs ld).length = k * 1 by rw [bs_length, hldl, Nat.mul_one])
  have Q2 := Lib.hid (show 0 + k ≤ maxLen by unfold maxLen; omega)
  have Q3 := Lib.hid (show (0 + k) * 1 ≤ 140737488355328 by omega)
  have HFW := Lib.hid HF
  have c5 : W.cell? ⟨w2.heap.size, 5, none⟩ = some (.slice none 0 0) := HF.cell 5
  clear hm hld hldl HF hbe HNew fb5 W0 W1 W4 X1 X2 X3 X4 X5 G9 a6 a11 b6 b9 HN0 HN1 HN2 HE0 HE1 HE2 hbd v0 v1
  go_wp2_with fail
  refine region_plan (S := fun _ => True) [(true, 0), (true, 2), (true, 3), (true, 4), (true, 5), (false, 1), (false, 6), (true, 7), (false, 8)] (by kernel_rfl) (by kernel_rfl) (by kernel_rfl) rfl trivial ?_
  simp only [planned_nil, planned_cons, nth_zero, nth_succ]
  iterate 5
    refine plan_still2 (v := ?_) (a' := ?_) (by rfl) (fun w' hS' => ?_) ?_ ?_
    rotate_left 2
    (focus (go_simp <;> with_reducible rfl))
    (focus (simp only [Act.put, List.setIfInBounds_toArray, List.set_cons_zero, List.set_cons_succ] <;> rfl))
  refine plan_do (by rfl) (fun K' hK' => ?_)
  go_simp
  refine hK'.out _ _ trivial ?_
  clear hK' K'
  refine plan_do (by rfl) (fun K' hK' => ?_)
  refine wp_app_own (.tmp 54) (.tmp 58) bytesTy rfl W.heap.size (.slice none 0 0) 0 [] rfl (World.ownsRow_nil _ _ _ _) (some ⟨g, 15, none⟩) k (c' - 15) (bs ld) rfl HBl.out Q1.out (one_bs _) Q2.out Q3.out (Nat.le_refl _) ?_
  intro v6 w6 hown6 hg6 hat6
  rw [Nat.zero_add, List.nil_append] at hown6
  obtain ⟨A6, c6, rfl, hc6, hA6, hne6⟩ := own_at2 hown6
  have HA6 := Lib.hid hA6
  have Hne6 := Lib.hid hne6
  have hs6 : Below W.heap.size W w6 := (Below.refl _ _).drew.grown hg6 (Nat.le_refl _) (by simp [Value.ownBlock])
  have HF6 := Lib.hid (HFW.out.below hs6 hWs)
  have c5' : w6.cell? ⟨w2.heap.size, 5, none⟩ = some (.slice none 0 0) := HF6.out.cell 5
  have f5' := HF6.out.frozen 5
  have hb26 : Below w2.heap.size w2 w6 := hbf.trans (hs6.mono (Nat.le_of_lt hWs))
  refine hK'.out _ _ trivial ?_
  clear hK' K' hown6 hat6 hA6 hne6 hg6 c5
  refine plan_still2 (v := ?_) (a' := ?_) (by rfl) (fun w' hS' => ?_) ?_ ?_
  rotate_left 2
  (focus (go_simp <;> with_reducible rfl))
  (focus (simp only [Act.put, List.setIfInBounds_toArray, List.set_cons_zero, List.set_cons_succ] <;> rfl))
  refine plan_do (by rfl) (fun K' hK' => ?_)
  go_simp
  refine hK'.out _ _ trivial ?_
  clear hK' K'
  refine plan_nil ?_
  obtain ⟨cs, hcs⟩ : ∃ cs, cs = fc (V0 : Int) (V1 : Int) ((V2 : Int) / 16) ((V2 : Int) % 16) (n32 M) A6 k c6 := ⟨_, rfl⟩
  have hB7 : Blk (w6.setCell ⟨w2.heap.size, 5, none⟩ (.slice A6 k c6)) w2.heap.size 33 cs := by rw [hcs]; exact HF6.out.set_ 5 (.slice A6 k c6)
  have hs7 : Below w2.heap.size w2 (w6.setCell ⟨w2.heap.size, 5, none⟩ (.slice A6 k c6)) := hb26.setCell (p := ⟨w2.heap.size, 5, none⟩) (Nat.le_refl _) _
  have hA7 : At (w6.setCell ⟨w2.heap.size, 5, none⟩ (.slice A6 k c6)) A6 (bs ld) := by
    intro hn
    obtain ⟨b, off, e, hc⟩ := HA6.out hn
    refine ⟨b, off, e, fun j u hu => ?_⟩
    have hne : b ≠ w2.heap.size := by have := Hne6.out _ e; simp only at this; omega
    rw [World.cell?_of_block (w := w6) (Below.heap_setCell w6 ⟨w2.heap.size, 5, none⟩ _ b hne)]
    exact hc j u hu
  generalize w6.setCell ⟨w2.heap.size, 5, none⟩ (.slice A6 k c6) = W7 at hB7 hs7 hA7 ⊢
  have hb7 : Below w.heap.size w W7 := hb3.trans (hs7.mono hb3.size)
  have HZ7 := Lib.hid (HZ2.out.below hs7 HZ2.out.lt)
  have HB7 := Lib.hid hB7
  have HA7 := Lib.hid hA7
  rw [hcs] at hB7
  obtain ⟨g0, g1, g2, g3, g4, g5⟩ := fc_cells hB7
  have Hcs := Lib.hid hcs
  have Hall : Hid (cs.toArray.all (·.oneCell') = true) := by rw [hcs]; exact fc_all _ _ _ _ _ _ _ _
  have Hsz : Hid (zfc.toArray.size = cs.toArray.size) := by rw [hcs]; rfl
  have Hi6 : Hid ((Try.prog.info? 33).map (·.size) = some cs.toArray.size) := by rw [hcs]; exact Hi.out
  have Hf : Hid (Fr.of_ L = ⟨V0, V1, (V2 : Int) / 16, (V2 : Int) % 16, M, ld⟩) := by
    unfold Hid Fr.of_
    rw [HM.out, Hld.out, Hk.out, HV0.out, HV1.out, HV2.out, HV4.out]
    simp
  have hZlt : w.heap.size < w2.heap.size := HZ2.out.lt
  have hfin : ∀ w8, Below W7.heap.size W7 w8 → Fr.read l = none → ReadSays l w (.returned (.tuple #[.agg zfc.toArray, .int .i64 40])) (w8.setRow w.heap.size zfc.toArray) :=
    fun w8 h8 hr => ⟨.inr ⟨rfl, hr⟩, below_setRow (hb7.trans (h8.mono hb7.size)) (Nat.le_refl _) _⟩
  have q0 : (0 : Int) ≤ (V2 : Int) % 16 := by omega
  clear hB7 hA7 hcs c5' f5' d0 d1 d3 d4 a15 b15 v2 v4
  rcases Bool.eq_false_or_eq_true (Fr.may (V0 : Int) (V1 : Int) ((V2 : Int) / 16) ((V2 : Int) % 16) k) with hmay | hmay
  case inr =>
    go_wp2_with fail
    refine (rfbytes_no V0 V1 ((V2 : Int) / 16) ((V2 : Int) % 16) (n32 M) A6 k c6 _ (by omega) hmay).mono ?_
    rintro e w8 ⟨rfl, hb8⟩
    have HZ8 := Lib.hid (HZ7.out.below hb8 HZ7.out.lt)
    have Hend := Lib.hid (hfin w8 hb8 (by
      unfold Fr.read
      rw [if_neg]
      rintro ⟨-, -, -, h, -⟩
      rw [← HL.out, Hf.out] at h
      unfold Fr.ok at h
      simp only [Hldl.out, hmay] at h
      cases h))
    clear hfin hb8
    go_wp2_with (refine wpList_store_row rfl _ (.tmp 2) (.tmp 75) rfl w.heap.size zfc.toArray rfl rfl 33 zfc.toArray HZ8.out Hi.out rfl Hone.out ?_)
    refine bodyPost_ret (v := .tuple #[.agg zfc.toArray, .int .i64 40]) ?_ rfl Hend.out
    · exact results_cell_tmp_blk (p := 2) (u := 3) rfl _ _ rfl (HZ8.out.row zfc) Try.underlying33 rfl Hi.out
  case inl =>
    go_wp2_with fail
    refine (rfbytes_yes ⟨V0, V1, (V2 : Int) / 16, (V2 : Int) % 16, M, ld⟩ A6 k c6 _ HA7.out Hldl.out.symm (by unfold Fr.ok; simp only [Hldl.out]; exact hmay)).mono ?_
    rintro e w8 ⟨v, rfl, hown8, hb8⟩
    obtain ⟨f, hf⟩ : ∃ f : Fr, f = ⟨V0, V1, (V2 : Int) / 16, (V2 : Int) % 16, M, ld⟩ := ⟨_, rfl⟩
    rw [← hf] at hown8
    have Hff := Lib.hid hf
    rw [← hf] at Hf
    have hfok : Hid (f.ok = true) := by rw [hf]; unfold Hid Fr.ok; simp only [Hldl.out]; exact hmay
    have H64 : Hid (f.bytes.length = 64) := by have := hown8.1; rw [bs_length] at this; show f.bytes.length = 64; omega
    obtain ⟨A8, c8, rfl, hc8, -, hA8⟩ := own_at hown8
    have HZ8 := Lib.hid (HZ7.out.below hb8 HZ7.out.lt)
    have HB8 := Lib.hid (HB7.out.below hb8 HB7.out.lt)
    have hl8 := HA.out.below (hb7.trans (hb8.mono hb7.size)) (Nat.le_refl _)
    have hA78 := Lib.hid (HA7.out.below hb8 (Nat.le_refl _))
    have cv1 := fun (c : Nat) => convStr w8 A8 64 c f.bytes hA8 H64.out.symm
    have cv2 := fun (c : Nat) => convStr w8 A 64 c l hl8 Hn.out
    have hb08 := hb7.trans (hb8.mono hb7.size)
    clear hown8 hA8 hl8 hf
    by_cases heq : f.bytes = l
    · have ht : ((str f.bytes).toList == (str l).toList) = true := by rw [str_beq]; exact decide_eq_true heq
      have hr : Hid (Fr.read l = some f) := by
        unfold Hid Fr.read
        rw [← HL.out, Hf.out, if_pos]
        refine ⟨Hok.out, Hn.out.symm, ?_, hfok.out, heq⟩
        rw [← Hk.out]; exact k45
      have hBc := HB8.out
      rw [Hcs.out] at hBc
      obtain ⟨x0, x1, x2, x3, x4, x5⟩ := fc_cells hBc
      clear hfin hb8 hBc heq
      go_wp2_with (refine wpList_store_row rfl _ (.tmp 2) (.tmp 76) rfl w.heap.size cs.toArray rfl (by rw [Hcs.out]; rfl) 33 zfc.toArray HZ8.out Hi6.out Hsz.out Hall.out ?_)
      refine bodyPost_ret (v := .tuple #[.agg cs.toArray, .int .i64 0]) ?_ rfl ⟨.inl ⟨f, A6, c6, ?_, hr.out, ?_, ?_, fun a ha => Nat.le_trans (Nat.le_of_lt (Nat.lt_trans hZlt hWs)) (Hne6.out a ha)⟩, below_setRow hb08 (Nat.le_refl _) _⟩
      · exact results_cell_tmp_blk (p := 2) (u := 3) rfl _ _ rfl (HZ8.out.row cs) Try.underlying33 rfl Hi6.out
      · rw [Hcs.out, Hff.out]
        simp only [Hldl.out]
      · rw [Hff.out]; simp only [Hldl.out]; exact hc6
      · rw [Hff.out]
        exact hA78.out.rowFar (g := w.heap.size) (fun a ha => Nat.ne_of_gt (Nat.lt_of_lt_of_le (Nat.lt_trans hZlt hWs) (Hne6.out a ha))) cs.toArray
    · have ht : ((str f.bytes).toList == (str l).toList) = false := by rw [str_beq]; exact decide_eq_false heq
      have Hend := Lib.hid (hfin w8 hb8 (by
        unfold Fr.read
        rw [if_neg]
        rintro ⟨-, -, -, -, h⟩
        rw [← HL.out, Hf.out] at h
        exact heq h))
      clear hfin hb8 heq
      go_wp2_with (refine wpList_store_row rfl _ (.tmp 2) (.tmp 75) rfl w.heap.size zfc.toArray rfl rfl 33 zfc.toArray HZ8.out Hi.out rfl Hone.out ?_)
      refine bodyPost_ret (v := .tuple #[.agg zfc.toArray, .int .i64 40]) ?_ rfl Hend.out
      · exact results_cell_tmp_blk (p := 2) (u := 3) rfl _ _ rfl (HZ8.out.row zfc) Try.underlying33 rfl Hi.out

theorem rfread_any (A : Option Addr) (l : List UInt8) (n c : Nat) (w : World) (hA : At w A (bs l)) (hn : n = l.length) (hc : n ≤ c) (hb : n ≤ 900000) :
    Calls Try.prog 16 #[.slice A n c] w (ReadSays l w) := by
  rcases Bool.eq_false_or_eq_true (Crc.okSealed l) with h | h
  · by_cases h64 : n = 64
    · subst h64
      by_cases h45 : ((l.take 60).getD 10 0).toNat ≤ 45
      · exact rfread_full A l c w hA hn hc h h45
      · exact rfread_long A l c w hA hn hc h (by omega)
    · exact rfread_len A l n c w hA hn hc hb h h64
  · exact rfread_unsealed A l n c w hA hn hc hb h
end Go.Proofs.Ytcaejcdmkihmbaa
