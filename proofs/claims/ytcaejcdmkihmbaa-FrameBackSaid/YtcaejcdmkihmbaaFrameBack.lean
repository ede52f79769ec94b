/- The walk of the law FrameBack: a record that is cut. -/
import Derived.Test.YtcaejcdmkihmbaaFrameBackN
namespace Go.Proofs.Ytcaejcdmkihmbaa
open Go.RowKit

/-- frames that are read, none of whose loads lies in v's own block -/
def Apart (w : World) (L : List FV) (v : Value) : Prop := ∀ x ∈ L, At w x.A (bs x.f.load) ∧ ∀ a, x.A = some a → 0 < x.f.load.length → some a.block ≠ v.ownBlock
theorem Apart.below {w w' : World} {L : List FV} {v : Value} (h : Apart w L v) (hb : Below w.heap.size w w') : Apart w' L v := fun x hx => ⟨(h x hx).1.below hb (Nat.le_refl _), (h x hx).2⟩
theorem Apart.reads {w : World} {L : List FV} {v : Value} (h : Apart w L v) : Reads w L := fun x hx => (h x hx).1
theorem Apart.push {w w1 w6 : World} {L : List FV} {v v6 : Value} {x : FV} (h : Apart w L v) (hb : Below w.heap.size w w1) (hv : ∀ g, v.ownBlock = some g → g < w.heap.size)
    (hx : At w1 x.A (bs x.f.load)) (hxn : ∀ a, x.A = some a → w.heap.size ≤ a.block) (hg : w1.grownBy w6 v.ownBlock) (hat : v6.ownBlock = v.ownBlock ∨ v6.ownBlock = some w1.heap.size) : Apart w6 (L ++ [x]) v6 := by
  have key : ∀ y ∈ L ++ [x], At w1 y.A (bs y.f.load) ∧ ∀ a, y.A = some a → 0 < y.f.load.length → some a.block ≠ v.ownBlock := by
    intro y hy
    rcases List.mem_append.1 hy with hy | hy
    · exact h.below hb y hy
    · rw [List.mem_singleton] at hy
      subst hy
      refine ⟨hx, fun a ha _ e => ?_⟩
      have := hv _ e.symm
      have := hxn a ha
      omega
  intro y hy
  obtain ⟨h1, h2⟩ := key y hy
  have hlt : ∀ a, y.A = some a → 0 < y.f.load.length → a.block < w1.heap.size := by
    intro a ha h0
    obtain ⟨b, off, e, hb, _⟩ := h1.all (by rw [bs_length]; exact h0)
    rw [ha] at e
    cases e
    exact hb
  refine ⟨fun hn => ?_, fun a ha h0 e => ?_⟩
  · obtain ⟨b, off, e, hl, hc⟩ := h1.all hn
    rw [bs_length] at hn
    exact ⟨b, off, e, fun j u hu => (World.cell?_of_block (w := w1) (hg.block b hl (h2 _ e hn))).trans (hc j u hu)⟩
  · rcases hat with e2 | e2
    · exact h2 a ha h0 (e.trans e2)
    · rw [e2] at e
      have := hlt a ha h0
      injection e with e
      omega
theorem fcells_snoc (L : List FV) (x : FV) : fcells (L ++ [x]) = fcells L ++ x.cells := by simp [fcells]
theorem grown_trans {w w1 w2 : World} {g : Nat} (h1 : w.grownBy w1 (some g)) (h2 : w1.grownBy w2 (some g)) : w.grownBy w2 (some g) :=
  ⟨h2.os.trans h1.os, h2.tape.trans h1.tape, h2.output.trans h1.output, Nat.le_trans h1.size h2.size, fun k hk hne => (h2.block k (Nat.lt_of_lt_of_le hk h1.size) hne).trans (h1.block k hk hne)⟩

set_option maxRecDepth 100000 in
set_option maxHeartbeats 40000000 in
theorem fback_yes (A R : Option Addr) (l raw : List UInt8) (n c nr cr : Nat) (seq inc : Int) (b : BitVec 32) (at_ : Int) (w : World) (hA : At w A (bs l)) (hn : n = l.length) (hc : n ≤ c) (hR : At w R (bs raw)) (hnr : nr = raw.length) (hcr : nr ≤ cr) (hr : nr ≤ 1000)
    (hok : Fr.cutOk n seq inc = true) :
    Calls Try.prog 6 #[.slice A n c, .int .i64 seq, .int .i64 inc, .int .u32 (n32 b), .int .i64 at_, .slice R nr cr] w fun e w' => e = .returned (.bool true) ∧ Below w.heap.size w w' := by
  have HA := Lib.hid hA
  have Hn := Lib.hid hn
  have HR := Lib.hid hR
  have Hnr := Lib.hid hnr
  have Hok := Lib.hid hok
  obtain ⟨q1, q2, -, -, -, -, -⟩ := cutOk_parts hok
  have h1 : ¬ (90 : Int) < (n : Int) := by omega
  have h2 : ¬ (1000 : Int) < (nr : Int) := by omega
  clear hA hn hR hnr hok
  go_enter Try.func6, Try.ntmps6
  go_wp2_with fail
  refine (cut_yes A l n c seq inc _ HA.out Hn.out hc Hok.out).mono ?_
  rintro e w2 ⟨g, d, L, rfl, hL, hd, hg, hat, hRd, hb2⟩
  have hok' : Fr.cutOk l.length seq inc = true := by have := Hok.out; rwa [Hn.out] at this
  have Hmay : Hid (∀ (k : Nat) (x : FV), L[k]? = some x → x.f.ok = true) := fun k x hx => cut_ok l seq inc hok' k x.f (by rw [← hL, List.getElem?_map, hx]; rfl)
  have HL := Lib.hid hL
  have hlen : L.length = (Fr.cut l seq inc).length := by rw [← hL, List.length_map]
  have hl1 : 1 ≤ L.length := by rw [hlen]; exact (cut_pos l seq inc).1
  have hl2 : L.length ≤ 2 := by rw [hlen]; exact (cut_pos l seq inc).2
  obtain ⟨m, hm⟩ : ∃ m, m = L.length := ⟨_, rfl⟩
  have Hm := Lib.hid hm
  rw [← hm] at hl1 hl2 hd ⊢
  have Hat := Lib.hid hat
  have HRd := Lib.hid hRd
  have hgl : g < w2.heap.size := by
    obtain ⟨b', off', e, hlt, _⟩ := hat.all (by rw [fcells_length]; omega)
    cases e; exact hlt
  obtain ⟨mm, hmm, hme⟩ := place512 at_
  have Hok' := Lib.hid hok'
  clear hL hat hRd hlen hm hok'
  go_wp2_with fail
  go_loopw [15, 16] (fun bv i wr => ∃ (k : Nat) (LB : List FV), k ≤ m ∧ i = .int .i64 k ∧ Hid (LB.map FV.f = (Fr.cut l seq inc).take k) ∧ Hid (wr.ownsRow w2.heap.size 33 6 bv k (fcells LB)) ∧ Hid (Apart wr LB bv) ∧ Below w2.heap.size w2 wr) (fun _ i _ => m - (intOf i).toNat)
  case atStart => exact ⟨0, [], by omega, rfl, rfl, World.ownsRow_nil _ _ _ _, fun x hx => absurd hx (by simp), Below.refl _ _⟩
  case round =>
    obtain ⟨k, LB, hk, rfl, hLB, hown, hap, hb2r⟩ := hrel
    have hatr := Lib.hid (Hat.out.below hb2r (Nat.le_refl _))
    have hRr := Lib.hid (HRd.out.below hb2r (Nat.le_refl _))
    have hb : Below w.heap.size w wr := hb2.trans (hb2r.mono hb2.size)
    by_cases hlt : (k : Int) < (m : Int)
    · obtain ⟨x, hx⟩ : ∃ x, L[k]? = some x := ⟨_, List.getElem?_eq_getElem (by have := Hm.out; omega)⟩
      have hxok := Hmay.out k x hx
      have hX := hatr.out.frame hx
      rw [Nat.zero_add] at hX
      have hXl := hRr.out x (List.mem_of_getElem? hx)
      have hxf : (Fr.cut l seq inc)[k]? = some x.f := by rw [← HL.out, List.getElem?_map, hx]; rfl
      obtain ⟨f, B, d'⟩ := x
      simp only [FV.cells] at hxok hX hXl hxf
      obtain ⟨nl, hnl⟩ : ∃ nl, nl = f.load.length := ⟨_, rfl⟩
      rw [← hnl] at hX
      have Hxok := Lib.hid hxok
      have HX := Lib.hid hX
      have HXl := Lib.hid hXl
      have Hxf := Lib.hid hxf
      have Hnl := Lib.hid hnl
      have HI := Lib.hid (show (Try.prog.info? 33).map (·.size) = some 6 by kernel_rfl)
      clear hx hxok hX hXl hxf hnl
      go_wp2_with (refine wpList_load_at rfl 33 (.tmp 60) rfl g (k * 6) rfl [.int .i64 f.seq, .int .i64 f.inc, .int .i64 f.part, .int .i64 f.of, .int .u32 (n32 f.mark), .slice B nl d'] _ HX.out (Nat.zero_lt_succ _) Try.underlying33 rfl HI.out ?_)
      refine (fbytes_yes f B nl d' _ HXl.out Hnl.out Hxok.out).mono ?_
      rintro e w3 ⟨v, rfl, hown3, hb3⟩
      have H64 : Hid (64 = f.bytes.length) := by have := hown3.1; rw [bs_length] at this; show 64 = f.bytes.length; omega
      obtain ⟨g3, c3, rfl, hc3, -, hg3, hA3⟩ := own_shape hown3 (by decide)
      have HA3 := Lib.hid hA3
      clear hown3 hA3
      go_wp2_with fail
      refine (fread_any _ f.bytes 64 c3 _ HA3.out H64.out hc3 (by decide)).mono ?_
      rintro e w4 ⟨hx4, hb4⟩
      rcases hx4 with ⟨f4, B4, d4, rfl, hf4, hd4, hB4, hn4⟩ | ⟨-, hno⟩
      case inr => rw [read_bytes f Hxok.out] at hno; cases hno
      have hf44 : f4 = f := by rw [read_bytes f Hxok.out] at hf4; cases hf4; rfl
      rw [hf44] at hd4 hB4 ⊢
      clear hf44 hf4 f4
      rw [← Hnl.out] at hd4 ⊢
      have hbr4 : Below wr.heap.size wr w4 := hb3.trans (hb4.mono hb3.size)
      have HB4 := Lib.hid hB4
      have Hn4 : Hid (∀ a, B4 = some a → wr.heap.size ≤ a.block) := fun a ha => Nat.le_trans hb3.size (hn4 a ha)
      have HA4 := Lib.hid (HA3.out.below hb4 (Nat.le_refl _))
      clear hB4 hn4 hb3 hb4
      go_wp2_with (refine wpList_frame_new rfl (.tmp 19) (.tmp 68) rfl rfl f.seq f.inc f.part f.of (n32 f.mark) B4 nl d4 rfl ?_)
      have hF := Blk.new w4 33 (fc f.seq f.inc f.part f.of (n32 f.mark) B4 nl d4)
      have hbrW : Below wr.heap.size wr (w4.alloc (.cells (fc f.seq f.inc f.part f.of (n32 f.mark) B4 nl d4).toArray 33)) := hbr4.alloc hbr4.size _
      have hB4W := HB4.out.alloc (.cells (fc f.seq f.inc f.part f.of (n32 f.mark) B4 nl d4).toArray 33)
      have hA4W := HA4.out.alloc (.cells (fc f.seq f.inc f.part f.of (n32 f.mark) B4 nl d4).toArray 33)
      change Code.wp _ _ _ _ (w4.alloc (.cells (fc f.seq f.inc f.part f.of (n32 f.mark) B4 nl d4).toArray 33))
      generalize w4.alloc (.cells (fc f.seq f.inc f.part f.of (n32 f.mark) B4 nl d4).toArray 33) = W at hF hbrW hB4W hA4W ⊢
      have HF := Lib.hid hF
      have HB4W := Lib.hid hB4W
      have HA4W := Lib.hid hA4W
      have HXW := Lib.hid (HX.out.below hbrW (Nat.le_refl _))
      have HXlW := Lib.hid (HXl.out.below hbrW (Nat.le_refl _))
      have HFa := Lib.hid (hF.at_ 0 (fc f.seq f.inc f.part f.of (n32 f.mark) B4 nl d4) (fun j u h => by rw [Nat.zero_add]; exact h))
      clear hF hB4W hA4W
      have hbwd : Below W.heap.size W W.drew := (Below.refl _ _).drew
      refine region_plan (S := fun w' => Below W.heap.size W w') [(true, 0), (true, 1), (true, 2), (true, 3), (true, 4), (true, 5), (true, 6), (true, 7), (true, 8), (true, 9), (true, 10), (true, 11), (true, 12), (true, 13), (true, 14), (true, 15), (true, 16), (false, 17), (true, 18), (true, 19)] (by kernel_rfl) (by kernel_rfl) (by kernel_rfl) rfl hbwd ?_
      simp only [planned_nil, planned_cons, nth_zero, nth_succ]
      iterate 12
        first
          | (refine plan_still2 (v := ?_) (a' := ?_) (by rfl) (fun w' hS' => ?_) ?_ ?_; rotate_left 2; (focus (go_simp <;> with_reducible rfl)); (focus (simp only [Act.put, List.setIfInBounds_toArray, List.set_cons_zero, List.set_cons_succ] <;> rfl)))
          | (refine plan_skip2 (a' := ?_) (by rfl) ?_ ?_; rotate_left 1; (focus (simp only [Act.put, List.setIfInBounds_toArray, List.set_cons_zero, List.set_cons_succ] <;> rfl)))
      refine plan_still2 (v := .agg #[.int .i64 f.seq, .int .i64 f.inc, .int .i64 f.part, .int .i64 f.of, .int .u32 (n32 f.mark), .slice B4 nl d4]) (a' := ?_) (by rfl) (fun w' hS' => exec_load_at 33 (.tmp 19) rfl w4.heap.size 0 rfl (fc f.seq f.inc f.part f.of (n32 f.mark) B4 nl d4) _ (HFa.out.below hS' (Nat.le_refl _)) (Nat.zero_lt_succ _) Try.underlying33 rfl HI.out) ?_ ?_
      rotate_left 1
      (focus (simp only [Act.put, List.setIfInBounds_toArray, List.set_cons_zero, List.set_cons_succ] <;> rfl))
      iterate 3
        first
          | (refine plan_still2 (v := ?_) (a' := ?_) (by rfl) (fun w' hS' => ?_) ?_ ?_; rotate_left 2; (focus (go_simp <;> with_reducible rfl)); (focus (simp only [Act.put, List.setIfInBounds_toArray, List.set_cons_zero, List.set_cons_succ] <;> rfl)))
          | (refine plan_skip2 (a' := ?_) (by rfl) ?_ ?_; rotate_left 1; (focus (simp only [Act.put, List.setIfInBounds_toArray, List.set_cons_zero, List.set_cons_succ] <;> rfl)))
      refine plan_still2 (v := .agg #[.int .i64 f.seq, .int .i64 f.inc, .int .i64 f.part, .int .i64 f.of, .int .u32 (n32 f.mark), .slice B nl d']) (a' := ?_) (by rfl) (fun w' hS' => exec_load_at 33 (.tmp 85) rfl g (k * 6) rfl (fc f.seq f.inc f.part f.of (n32 f.mark) B nl d') _ (HXW.out.below hS' (Nat.le_refl _)) (Nat.zero_lt_succ _) Try.underlying33 rfl HI.out) ?_ ?_
      rotate_left 1
      (focus (simp only [Act.put, List.setIfInBounds_toArray, List.set_cons_zero, List.set_cons_succ] <;> rfl))
      refine plan_do (by rfl) (fun K' hK' => ?_)
      go_simp
      refine (fsame_any f f B4 B nl d4 nl d' _ (HB4W.out.below hbwd (Nat.le_refl _)) (HXlW.out.below hbwd (Nat.le_refl _)) Hnl.out Hnl.out).mono ?_
      rintro e w5 ⟨rfl, hw5⟩
      rw [same_self]
      have hbW5 : Below W.heap.size W w5 := hbwd.trans (hw5.mono hbwd.size)
      refine hK'.out _ _ hbW5 ?_
      clear hK' K'
      iterate 2
        first
          | (refine plan_still2 (v := ?_) (a' := ?_) (by rfl) (fun w' hS' => ?_) ?_ ?_; rotate_left 2; (focus (go_simp <;> with_reducible rfl)); (focus (simp only [Act.put, List.setIfInBounds_toArray, List.set_cons_zero, List.set_cons_succ] <;> rfl)))
          | (refine plan_skip2 (a' := ?_) (by rfl) ?_ ?_; rotate_left 1; (focus (simp only [Act.put, List.setIfInBounds_toArray, List.set_cons_zero, List.set_cons_succ] <;> rfl)))
      refine plan_nil ?_
      have HF5 := Lib.hid (HF.out.below hbW5 HF.out.lt)
      obtain ⟨z0, z1, z2, z3, z4, z5⟩ := fc_cells HF5.out
      have HB5 := Lib.hid (HB4W.out.below hbW5 (Nat.le_refl _))
      have HA5 := Lib.hid (HA4W.out.below hbW5 (Nat.le_refl _))
      have hbr5 : Below wr.heap.size wr w5 := hbrW.trans (hbW5.mono hbrW.size)
      have HO5 := Lib.hid (own_below hown.out hbr5)
      have hb25 : Below w2.heap.size w2 w5 := hb2r.trans (hbr5.mono hb2r.size)
      clear hbW5 hw5 hbwd HF HB4W HA4W HXW HXlW HFa HA4 HB4 HA3
      have hk2 : k ≤ 2 := by omega
      have Hug : Hid (∀ g, u15.ownBlock = some g → g < wr.heap.size) := fun g hg => (hown.out.lt g hg).2
      have Hup : Hid (∀ g, u15.ownBlock = some g → w2.heap.size ≤ g) := fun g hg => (hown.out.lt g hg).1
      have HO6 := Lib.hid (HO5.out.alloc (.cells (fc f.seq f.inc f.part f.of (n32 f.mark) B4 nl d4).toArray 33))
      have HB6 := Lib.hid (HB5.out.alloc (.cells (fc f.seq f.inc f.part f.of (n32 f.mark) B4 nl d4).toArray 33))
      have HA6 := Lib.hid (HA5.out.alloc (.cells (fc f.seq f.inc f.part f.of (n32 f.mark) B4 nl d4).toArray 33))
      have hbr6 : Below wr.heap.size wr (w5.alloc (.cells (fc f.seq f.inc f.part f.of (n32 f.mark) B4 nl d4).toArray 33)) := hbr5.alloc hbr5.size _
      have hb26 : Below w2.heap.size w2 (w5.alloc (.cells (fc f.seq f.inc f.part f.of (n32 f.mark) B4 nl d4).toArray 33)) := hb25.alloc hb25.size _
      have S1 := Lib.hid (show k + 1 ≤ maxLen by unfold maxLen; omega)
      have S2 := Lib.hid (show (k + 1) * 64 ≤ 140737488355328 by omega)
      have S3 := Lib.hid (show (bs f.bytes).length = 64 * 1 by rw [bs_length, ← H64.out])
      go_wp2_with (first
        | (refine wpList_build1 rfl (.tmp 91) frameTy rfl (fc f.seq f.inc f.part f.of (n32 f.mark) B4 nl d4) rfl rfl (by omega) ?_)
        | (at_builtin; refine wpList_app_own rfl (.tmp 90) (.tmp 92) frameTy rfl w2.heap.size u15 k (fcells LB) rfl HO6.out (some ⟨w5.heap.size, 0, none⟩) 1 1 (fc f.seq f.inc f.part f.of (n32 f.mark) B4 nl d4) rfl (at_new _ _ _ _) rfl (fc_one _ _ _ _ _ _ _ _) S1.out S2.out hb26.size ?_; intro v6 w6 hown6 hg6 hat6; have HO7 := Lib.hid hown6; have HA7 := Lib.hid (HA6.out.grown hg6 (fun a ha e => by cases ha; have := Hug.out _ e.symm; simp only at this; omega)); have Hap7 := Lib.hid (Apart.push (x := ⟨f, B4, d4⟩) hap.out hbr6 Hug.out HB6.out Hn4.out hg6 hat6); have hb27 := hb26.grown hg6 hb26.size (fun j hj => Hup.out j hj); clear hown6 hg6 hat6)
        | (at_builtin; refine wpList_app_own rfl (.tmp 98) (.tmp 99) bytesTy rfl w6.heap.size (.slice none 0 0) 0 [] rfl (World.ownsRow_nil _ _ _ _) (some ⟨g3, 0, none⟩) 64 c3 (bs f.bytes) rfl HA7.out S3.out (one_bs _) (by decide) (by decide) (Nat.le_refl _) ?_; intro v8 w8 hown8 hg8 hat8; rw [Nat.zero_add, List.nil_append] at hown8; obtain ⟨gb, cb, rfl, hcb, -, hgb, -⟩ := own_shape hown8 (by decide); have HO8 := Lib.hid hown8; have hb68 : Below w6.heap.size w6 w8 := (Below.refl _ _).grown hg8 (Nat.le_refl _) (by simp [Value.ownBlock]); clear hown8 hg8 hat8))
      try rw [hme]
      rw [u32_or_1]
      generalize hBw : b ||| 1#32 = Bw
      have hB0 : Bw.getLsbD 0 = true := by rw [← hBw]; simp
      have hb28 := hb27.trans (hb68.mono hb27.size)
      clear hBw HO6 HB6 HA6 HA7 hbr6 hb26 S1 S2 S3 HO5 HB5 HA5 hbr5 hb25 HF5 z0 z1 z2 z3 z4 z5
      clear hme
      go_loopw [24] (fun i wr2 => ∃ (j : Nat) (l' : List UInt8), j ≤ 32 ∧ mm + j ≤ 512 ∧ i = .int .i64 j ∧ Hid (l'.length = 64) ∧ Hid (wr2.ownsRow w6.heap.size 5 1 (.slice (some ⟨gb, 0, none⟩) 64 cb) 64 (bs l')) ∧ Below w6.heap.size w6 wr2 ∧
        Hid (∀ t, t < 512 → Crc.bit l' t = (Crc.bit f.bytes t ^^ (decide (mm ≤ t ∧ t < mm + j) && Bw.getLsbD (t - mm))))) (fun i _ => 32 - (intOf i).toNat)
      case atStart =>
        refine ⟨0, f.bytes, by omega, by omega, rfl, H64.out.symm, HO8.out, hb68, fun t _ => ?_⟩
        have : decide (mm ≤ t ∧ t < mm + 0) = false := decide_eq_false (by omega)
        rw [this]; simp
      case round =>
        obtain ⟨j, l', hj, hmj, rfl, hl', ho2, hb6r, hbit⟩ := hrel
        by_cases hlt : j < 32 ∧ mm + j < 512
        · obtain ⟨hlt1, hlt2⟩ := hlt
          cases hbw : Bw.getLsbD j with
          | true =>
            have e1 : bits .and .u32 (n32 Bw / 2 ^ j) 1 = 1 := by rw [bit_at, hbw]; rfl
            have Hbw := Lib.hid hbw
            clear hbw
            obtain ⟨q, hq⟩ : ∃ q, q = (mm + j) / 8 := ⟨_, rfl⟩
            obtain ⟨r, hr⟩ : ∃ r, r = (mm + j) % 8 := ⟨_, rfl⟩
            have q1 : ((mm : Int) + (j : Int)) / 8 = (q : Int) := by omega
            have q2 : ((mm : Int) + (j : Int)) % 8 = (r : Int) := by omega
            have q3 : q < 64 := by omega
            have q4 : r < 8 := by omega
            have Hq := Lib.hid hq
            have Hr := Lib.hid hr
            clear hq hr
            have hcell := ho2.out.cellAt q (by omega)
            have hfr := ho2.out.frozenAt q
            have hget : (bs l')[q]? = some (B8 (l'[q]'(by rw [hl'.out]; exact q3))) := by
              rw [List.getElem?_eq_getElem (by rw [bs_length, hl'.out]; exact q3), bs_get]
            rw [hget] at hcell
            obtain ⟨z, hz⟩ : ∃ z, z = l'[q]'(by rw [hl'.out]; exact q3) := ⟨_, rfl⟩
            rw [← hz] at hcell
            have z0 := n8_0 z
            have z1 := n8_lt z
            have Hz := Lib.hid hz
            clear hget hz
            have q5 : IntKind.i64.wrap (((mm : Int) + (j : Int)).tdiv 8) = (q : Int) := by
              rw [Int.tdiv_eq_ediv_of_nonneg (by omega), q1]
              exact IntWalk.i64_in _ (by omega)
            have q6 : ((mm : Int) + (j : Int)).tmod 8 = (r : Int) := by
              rw [Int.tmod_eq_emod_of_nonneg (by omega), q2]
            have q7 : IntKind.i64.wrap (r : Int) = (r : Int) := IntWalk.i64_in _ (by omega)
            have q7' : IntKind.i64.wrap ((mm : Int) + (j : Int)) = (mm : Int) + (j : Int) := IntWalk.i64_in _ (by omega)
            have q8 : (q : Int) < 64 := by omega
            have q9 : (0 : Int) ≤ (r : Int) := by omega
            have q10 : (r : Int) < 8 := by omega
            go_wp2_with fail
            go_still_tail 19, (by kernel_rfl)
            change wpList _ _ _ _ _ wr.drew
            go_wp2_with fail
            go_roundw
            case rel =>
              have hst := ho2.out.stored q (B8 (z ^^^ Crc.pw r))
              rw [pw_xor z r q4]
              have hzl : l'[q]? = some z := by rw [List.getElem?_eq_getElem (by rw [hl'.out]; exact q3)]; rw [Hz.out]
              refine ⟨j + 1, l'.set q (z ^^^ Crc.pw r), by omega, by omega, by go_num, by unfold Hid; rw [List.length_set]; exact hl'.out, ?_, (hb6r.setCell (p := ⟨gb, q, none⟩) hgb _).drew, fun t ht => ?_⟩
              · have : bs (l'.set q (z ^^^ Crc.pw r)) = (bs l').set q (B8 (z ^^^ Crc.pw r)) := by unfold bs; rw [List.map_set]
                unfold Hid
                rw [this]
                exact hst.1.drew
              · rw [Crc.bit_flip l' q r z hzl q4, hbit.out t ht, Bool.xor_assoc]
                congr 1
                have hqr : 8 * q + r = mm + j := by have := Hq.out; have := Hr.out; omega
                rw [hqr]
                by_cases ht1 : t = mm + j
                · have e1 : t - mm = j := by omega
                  have e2 : decide (mm ≤ t ∧ t < mm + j) = false := decide_eq_false (by omega)
                  have e3 : decide (mm ≤ t ∧ t < mm + (j + 1)) = true := decide_eq_true (by omega)
                  rw [e1, Hbw.out, e2, e3]; simp [ht1]
                · have : decide (mm ≤ t ∧ t < mm + j) = decide (mm ≤ t ∧ t < mm + (j + 1)) := by
                    rw [Bool.eq_iff_iff]; simp; omega
                  rw [this]; simp [ht1]
            case measure => simp [intOf]; omega
          | false =>
            have e1 : bits .and .u32 (n32 Bw / 2 ^ j) 1 = 0 := by rw [bit_at, hbw]; rfl
            have Hbw := Lib.hid hbw
            clear hbw
            go_wp2_with fail
            go_roundw
            case rel =>
              refine ⟨j + 1, l', by omega, by omega, by go_num, hl', ho2, hb6r, fun t ht => ?_⟩
              rw [hbit.out t ht]
              congr 1
              by_cases ht1 : t = mm + j
              · have : t - mm = j := by omega
                rw [this, Hbw.out]; simp
              · have : decide (mm ≤ t ∧ t < mm + j) = decide (mm ≤ t ∧ t < mm + (j + 1)) := by
                  rw [Bool.eq_iff_iff]; simp; omega
                rw [this]
            case measure => simp [intOf]; omega
        · by_cases hlt1 : j < 32
          · have hlt2 : ¬ ((mm : Int) + (j : Int) < 512) := by omega
            have q7' : IntKind.i64.wrap ((mm : Int) + (j : Int)) = (mm : Int) + (j : Int) := IntWalk.i64_in _ (by omega)
            have hlt1' : (j : Int) < 32 := by omega
            clear hlt
            have hj0 : 0 < j := by omega
            have hbad : Crc.okSealed l' = false :=
              Crc.burst_told f.bytes l' (by rw [hl'.out, ← H64.out]) (Crc.okSealed_seal _) mm j (fun i => Bw.getLsbD i) hj (by rw [← H64.out]; omega) ⟨0, hj0, hB0⟩ (fun t ht => hbit.out t (by rw [← H64.out] at ht; exact ht))
            have hnone : Fr.read l' = none := by unfold Fr.read; rw [if_neg]; rw [hbad]; simp
            have Hnone := Lib.hid hnone
            obtain ⟨A', c', hv, -, -, hAt⟩ := own_at ho2.out
            cases hv
            have HAt := Lib.hid hAt
            clear hbad hnone hAt
            go_wp2_with fail
            refine (fread_any _ l' 64 cb _ HAt.out hl'.out.symm hcb (by decide)).mono ?_
            rintro e w9 ⟨hx9, hb9⟩
            rcases hx9 with ⟨f9, B9, d9, -, hf9, -⟩ | ⟨rfl, -⟩
            case inl => rw [Hnone.out] at hf9; cases hf9
            go_wp2_with (refine wpList_frame_new rfl (.tmp 25) (.tmp 140) rfl rfl 0 0 0 0 0 none 0 0 rfl ?_)
            have hb69 : Below w6.heap.size w6 (w9.alloc (.cells zfc.toArray 33)) := by
              have h := hb6r.trans (hb9.mono hb6r.size)
              exact h.alloc h.size _
            go_roundw
            case rel =>
              refine ⟨k + 1, LB ++ [FV.mk f B4 d4], by omega, by go_num, ?_, ?_, Lib.hid (Hap7.out.below hb69), hb27.trans (hb69.mono hb27.size)⟩
              · unfold Hid
                rw [List.map_append, hLB.out, List.take_add_one, Hxf.out]
                rfl
              · unfold Hid
                rw [fcells_snoc]
                have h := own_below HO7.out hb69
                unfold FV.cells
                rw [← Hnl.out]
                exact h
            case measure => simp [intOf]; omega
          · have hlt1' : ¬ (j : Int) < 32 := by omega
            clear hlt
            have hj0 : 0 < j := by omega
            have hbad : Crc.okSealed l' = false :=
              Crc.burst_told f.bytes l' (by rw [hl'.out, ← H64.out]) (Crc.okSealed_seal _) mm j (fun i => Bw.getLsbD i) hj (by rw [← H64.out]; omega) ⟨0, hj0, hB0⟩ (fun t ht => hbit.out t (by rw [← H64.out] at ht; exact ht))
            have hnone : Fr.read l' = none := by unfold Fr.read; rw [if_neg]; rw [hbad]; simp
            have Hnone := Lib.hid hnone
            obtain ⟨A', c', hv, -, -, hAt⟩ := own_at ho2.out
            cases hv
            have HAt := Lib.hid hAt
            clear hbad hnone hAt
            go_wp2_with fail
            refine (fread_any _ l' 64 cb _ HAt.out hl'.out.symm hcb (by decide)).mono ?_
            rintro e w9 ⟨hx9, hb9⟩
            rcases hx9 with ⟨f9, B9, d9, -, hf9, -⟩ | ⟨rfl, -⟩
            case inl => rw [Hnone.out] at hf9; cases hf9
            go_wp2_with (refine wpList_frame_new rfl (.tmp 25) (.tmp 140) rfl rfl 0 0 0 0 0 none 0 0 rfl ?_)
            have hb69 : Below w6.heap.size w6 (w9.alloc (.cells zfc.toArray 33)) := by
              have h := hb6r.trans (hb9.mono hb6r.size)
              exact h.alloc h.size _
            go_roundw
            case rel =>
              refine ⟨k + 1, LB ++ [FV.mk f B4 d4], by omega, by go_num, ?_, ?_, Lib.hid (Hap7.out.below hb69), hb27.trans (hb69.mono hb27.size)⟩
              · unfold Hid
                rw [List.map_append, hLB.out, List.take_add_one, Hxf.out]
                rfl
              · unfold Hid
                rw [fcells_snoc]
                have h := own_below HO7.out hb69
                unfold FV.cells
                rw [← Hnl.out]
                exact h
            case measure => simp [intOf]; omega
    · have hkm : k = m := by omega
      have hlB : LB.map FV.f = Fr.cut l seq inc := by
        rw [hLB.out, hkm, Hm.out, List.take_of_length_le]
        rw [← HL.out, List.length_map]
        exact Nat.le_refl _
      obtain ⟨hJ, hcat⟩ := cut_joins l seq inc Hok'.out LB hlB
      have hLm : LB.length = m := by
        have h1 : LB.length = (Fr.cut l seq inc).length := by rw [← hlB, List.length_map]
        have h2 : L.length = (Fr.cut l seq inc).length := by rw [← HL.out, List.length_map]
        rw [h1, ← h2, Hm.out]
      have hload : ∀ x ∈ LB, x.f.load.length ≤ 100000 := by
        intro x hx
        obtain ⟨j, hj⟩ := List.getElem?_of_mem hx
        have hok2 := cut_ok l seq inc Hok'.out j x.f (by rw [← hlB, List.getElem?_map, hj]; rfl)
        have := (may_parts hok2).2.2.2.2.2.2.2.2.1
        omega
      obtain ⟨Ab, cb, hv, -, -, hAb⟩ := own_at hown.out
      subst hv
      have HJ := Lib.hid hJ
      have HAb := Lib.hid hAb
      have HRb := Lib.hid hap.out.reads
      have Hload := Lib.hid hload
      have HlenB := Lib.hid (show k = LB.length by rw [hLm, hkm])
      have hk1 : 1 ≤ k := by omega
      have hk2 : k ≤ 2 := by omega
      have Hcat := Lib.hid hcat
      clear hkm hlB hLm hJ hload hAb hcat hme hmm
      go_wp2_with fail
      refine (fjoin_any Ab LB k cb _ HAb.out HRb.out HlenB.out hk1 hk2 Hload.out).mono ?_
      rintro e wj ⟨hj | ⟨_, hno⟩, hbj⟩
      case inr => exact absurd HJ.out hno
      obtain ⟨vj, rfl, hownj, -⟩ := hj
      rw [Hcat.out, ← Hn.out] at hownj
      obtain ⟨Aj, cj, rfl, -, -, hAj⟩ := own_at hownj
      have hb0j := hb.trans (hbj.mono hb.size)
      have k1 := fun (c : Nat) => convStr wj Aj n c l hAj Hn.out
      have k2 := convStr wj A n c l (HA.out.below hb0j (Nat.le_refl _)) Hn.out
      have k3 : ((str l).toList == (str l).toList) = true := by simp
      clear hownj hAj hbj hatr hRr
      go_wp2_with fail
      clear k1 k2 k3
      have HRx := Lib.hid (HR.out.below hb0j (Nat.le_refl _))
      refine (fread_any R raw nr cr _ HRx.out Hnr.out hcr (by omega)).mono ?_
      rintro e wa ⟨hx, hba⟩
      have hb0a := hb0j.trans (hba.mono (hb0j).size)
      rcases hx with ⟨f, B, d, rfl, hf, hd, hB, -⟩ | ⟨rfl, -⟩
      · obtain ⟨hfok, hfb, -⟩ := read_some hf
        have Hfok := Lib.hid hfok
        have Hfb := Lib.hid hfb
        have HBa := Lib.hid (hB.alloc (.cells (fc f.seq f.inc f.part f.of (n32 f.mark) B f.load.length d).toArray 33))
        have hb0c : Below w.heap.size w (wa.alloc (.cells (fc f.seq f.inc f.part f.of (n32 f.mark) B f.load.length d).toArray 33)) := hb0a.alloc hb0a.size _
        clear hfok hfb hf hd hB
        go_wp2_with (refine wpList_frame_new rfl (.tmp 29) (.tmp 161) rfl rfl f.seq f.inc f.part f.of (n32 f.mark) B f.load.length d rfl ?_)
        refine (fbytes_yes f B _ d _ HBa.out rfl Hfok.out).mono ?_
        rintro e wb ⟨v, rfl, hown, hbb⟩
        rw [Hfb.out] at hown
        have H64 : Hid (64 = raw.length) := by have := hown.1; rw [bs_length] at this; show 64 = raw.length; omega
        obtain ⟨Av, cv, rfl, -, -, hAv⟩ := own_at hown
        have hb0b := hb0c.trans (hbb.mono hb0c.size)
        have k1 := fun (c : Nat) => convStr wb Av 64 c raw hAv H64.out
        have k2 := convStr wb R nr cr raw (HR.out.below hb0b (Nat.le_refl _)) Hnr.out
        have k3 : ((str raw).toList == (str raw).toList) = true := by simp
        clear hown hAv hb0c
        go_wp2_with fail
        refine (wakes4_any _).mono ?_
        rintro e wz ⟨rfl, hbz⟩
        have hb0z := hb0b.trans (hbz.mono hb0b.size)
        clear k1 k2
        go_wp2_with fail
        go_ret
        exact ⟨rfl, hb0z⟩
      · have hb0c : Below w.heap.size w (wa.alloc (.cells zfc.toArray 33)) := hb0a.alloc hb0a.size _
        go_wp2_with (refine wpList_frame_new rfl (.tmp 29) (.tmp 161) rfl rfl 0 0 0 0 0 none 0 0 rfl ?_)
        refine (wakes4_any _).mono ?_
        rintro e wz ⟨rfl, hbz⟩
        have hb0z := hb0c.trans (hbz.mono hb0c.size)
        go_wp2_with fail
        go_ret
        exact ⟨rfl, hb0z⟩

theorem fback_any (A R : Option Addr) (l raw : List UInt8) (n c nr cr : Nat) (seq inc : Int) (b : BitVec 32) (at_ : Int) (w : World) (hA : At w A (bs l)) (hn : n = l.length) (hc : n ≤ c) (hR : At w R (bs raw)) (hnr : nr = raw.length) (hcr : nr ≤ cr)
    (hs1 : -9223372036854775808 ≤ seq) (hs2 : seq ≤ 9223372036854775807) :
    Calls Try.prog 6 #[.slice A n c, .int .i64 seq, .int .i64 inc, .int .u32 (n32 b), .int .i64 at_, .slice R nr cr] w fun e w' => e = .returned (.bool true) ∧ Below w.heap.size w w' := by
  by_cases hg : 90 < n ∨ 1000 < nr
  · exact fback_great A R n c nr cr seq inc _ at_ w hg
  · rcases Bool.eq_false_or_eq_true (Fr.cutOk n seq inc) with h | h
    · exact fback_yes A R l raw n c nr cr seq inc b at_ w hA hn hc hR hnr hcr (by omega) h
    · exact fback_no A R raw n c nr cr seq inc _ at_ w hR hnr hcr (by omega) (by omega) h hs1 hs2
end Go.Proofs.Ytcaejcdmkihmbaa
