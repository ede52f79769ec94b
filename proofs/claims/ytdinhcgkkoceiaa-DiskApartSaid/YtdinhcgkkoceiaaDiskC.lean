/- The walk of package disk's Crash. -/
import Derived.Test.YtdinhcgkkoceiaaDiskH
import Derived.Test.YtdinhcgkkoceiaaMemArr
namespace Go.Proofs.Ytdinhcgkkoceiaa
open Go.RowKit

/-- what a crash with a plan leaves -/
def crS (S : Nat → List UInt8) (C : Nat → List (List UInt8)) (kp : List (Int × Int)) (i : Nat) : List UInt8 :=
  match kp.find? (fun x => x.1 == (i : Int)) with
  | some x => if 1 ≤ x.2 ∧ x.2 ≤ (C i).length then (C i).getD (x.2 - 1).toNat (S i) else S i
  | none => S i
def kcells (kp : List (Int × Int)) : List Value := kp.flatMap fun x => [.int .i64 x.1, .int .i64 x.2]
theorem kcells_length (kp : List (Int × Int)) : (kcells kp).length = kp.length * 2 := by
  induction kp with
  | nil => rfl
  | cons x kp ih => simp only [kcells, List.flatMap_cons, List.length_append, List.length_cons, List.length_nil] at ih ⊢; omega
theorem kcells_at : ∀ (kp : List (Int × Int)) (k : Nat) (x : Int × Int), kp[k]? = some x → ((kcells kp).drop (k * 2)).take 2 = [.int .i64 x.1, .int .i64 x.2] := by
  intro kp
  induction kp with
  | nil => intro k x h; simp at h
  | cons y kp ih =>
    intro k x h
    cases k with
    | zero =>
      simp only [List.getElem?_cons_zero, Option.some.injEq] at h
      subst h
      rfl
    | succ k =>
      simp only [List.getElem?_cons_succ] at h
      have := ih k x h
      simp only [kcells, List.flatMap_cons] at this ⊢
      rw [List.drop_append, show (k + 1) * 2 - ([Value.int .i64 y.1, .int .i64 y.2]).length = k * 2 by simp; omega, List.drop_eq_nil_of_le (by simp; omega), List.nil_append]
      exact this
/-- but for the block b the world is as it was -/
def ChgAt (b : Nat) (w w' : World) : Prop := Chg (fun g => g = b) w w'
def saidOf (kp : List (Int × Int)) : Int → Option Value := fun i => if kp.any (fun x => x.1 == i) then some (.bool true) else none
theorem said_snoc (kp : List (Int × Int)) (x : Int × Int) : fput (saidOf kp) x.1 (.bool true) = saidOf (kp ++ [x]) := by
  funext i
  unfold fput saidOf
  rw [List.any_append]
  by_cases h : i = x.1
  · subst h; simp
  · have : (x.1 == i) = false := by simp; omega
    rw [if_neg h]
    simp only [List.any_cons, List.any_nil, this, Bool.or_false]
theorem crS_snoc (S : Nat → List UInt8) (C : Nat → List (List UInt8)) (kp : List (Int × Int)) (x : Int × Int) (i : Nat) :
    crS S C (kp ++ [x]) i = if kp.any (fun y => y.1 == (i : Int)) then crS S C kp i else if x.1 = (i : Int) then (if 1 ≤ x.2 ∧ x.2 ≤ (C i).length then (C i).getD (x.2 - 1).toNat (S i) else S i) else S i := by
  unfold crS
  rw [List.find?_append]
  cases hf : kp.find? (fun y => y.1 == (i : Int)) with
  | some y =>
    have : kp.any (fun y => y.1 == (i : Int)) = true := List.any_eq_true.2 ⟨y, List.mem_of_find?_eq_some hf, List.find?_some (p := fun y : Int × Int => y.1 == (i : Int)) hf⟩
    rw [this]; rfl
  | none =>
    have : kp.any (fun y => y.1 == (i : Int)) = false := by
      rw [List.any_eq_false]
      intro y hy
      have := List.find?_eq_none.1 hf y hy
      simpa using this
    rw [this]
    simp only [Option.none_or, Bool.false_eq_true, if_false]
    by_cases h : x.1 = (i : Int)
    · rw [if_pos h, List.find?_cons_of_pos (by simp [h])]
    · rw [if_neg h, List.find?_cons_of_neg (by simp [h])]
      rfl
theorem crS_none (S : Nat → List UInt8) (C : Nat → List (List UInt8)) (kp : List (Int × Int)) (i : Nat) (h : kp.any (fun y => y.1 == (i : Int)) = false) : crS S C kp i = S i := by
  unfold crS
  rw [List.find?_eq_none.2 (fun y hy => by have := List.any_eq_false.1 h y hy; simpa using this)]

theorem crS_same (S : Nat → List UInt8) (C : Nat → List (List UInt8)) (kp : List (Int × Int)) (x : Int × Int) (i : Nat) (h : x.1 = (i : Int) → kp.any (fun y => y.1 == (i : Int)) = true ∨ ¬ (1 ≤ x.2 ∧ x.2 ≤ (C i).length)) :
    crS S C (kp ++ [x]) i = crS S C kp i := by
  rw [crS_snoc]
  by_cases ha : kp.any (fun y => y.1 == (i : Int)) = true
  · rw [if_pos ha]
  · rw [if_neg ha, crS_none S C kp i (Bool.eq_false_iff.2 ha)]
    by_cases hx : x.1 = (i : Int)
    · rcases h hx with h' | h'
      · exact absurd h' ha
      · rw [if_pos hx, if_neg h']
    · rw [if_neg hx]

set_option maxRecDepth 100000 in
set_option maxHeartbeats 1000000 in
theorem dcrash_nil (A : Option Addr) (m c : Nat) (w : World) : Calls Try.prog 15 #[.pointer none, .slice A m c] w fun e w' => e = .returned (.int .i64 1) ∧ w = w' := by
  go_enter Try.func15, Try.ntmps15
  go_wp2_with fail
  refine (up_nil 0 _).mono ?_
  rintro e w' ⟨rfl, rfl⟩
  go_wp2_with fail
  go_ret
  exact ⟨rfl, rfl⟩

set_option maxRecDepth 100000 in
set_option maxHeartbeats 8000000 in
theorem dcrash_ok (p : Nat) (F : Nat → Prop) (q : Nat) (S : Nat → List UInt8) (C : Nat → List (List UInt8)) (k : Nat) (kp : List (Int × Int)) (A : Option Addr) (m c : Nat) (w : World) (hD : Dk w p F q S C k false) (hq : q < 1000000) (hm1 : m < 1000000) (hC : ∀ i, i < 34 → (C i).length ≤ 1000000)
    (hA : At w A (kcells kp)) (hm : m = kp.length) (hwf : ∀ x ∈ kp, (kI x.1).wf = true) :
    Calls Try.prog 15 #[.pointer (some ⟨p, 0, none⟩), .slice A m c] w fun e w' => e = .returned (.int .i64 0) ∧ Dk w' p F (q + m) (crS S C kp) (fun _ => []) 0 true ∧ Chg F w w' := by
  obtain ⟨ms, mc, fS, fC, qS, qC, h0⟩ := hD
  have H := Lib.hid h0
  have HA := Lib.hid hA
  have Hm := Lib.hid hm
  have Hq := Lib.hid hq
  have Hm1 := Lib.hid hm1
  have HC := Lib.hid hC
  have Hwf := Lib.hid hwf
  have hmm := @run_makeMap Try.prog
  clear h0 hA hm hq hm1 hC hwf
  go_enter Try.func15, Try.ntmps15
  go_wp2_with fail
  refine (up_ok p ms mc k 0 _ H.out.blk (by omega) (by omega)).mono ?_
  rintro e w' ⟨rfl, rfl⟩
  go_wp2_with fail
  have hbm : Below w.heap.size w (w.alloc (.map #[] 0)) := (Below.refl _ _).alloc (Nat.le_refl _) _
  have hM0 := VM.made w Try.prog 3
  have hmsl := H.out.fl ms H.out.fs
  have hmcl := H.out.fl mc H.out.fc
  have hpl := H.out.fl p H.out.fp
  go_loopw [18] (fun i wr => ∃ (j : Nat) (fSj : Int → Option Value), j ≤ m ∧ i = .int .i64 j ∧ Hid (VM Try.prog 3 wr ms (qS + j) fSj) ∧ Hid (∀ i v, fSj i = some v → 0 ≤ i ∧ i < 34) ∧
      Hid (∀ i : Nat, i < 34 → ∃ l, SV w F ((fSj (i : Int)).getD nilS) l ∧ l.length ≤ 64 ∧ crS S C (kp.take j) i = pad l) ∧ Hid (VM Try.prog 3 wr w.heap.size j (saidOf (kp.take j))) ∧ Hid (Chg (fun g => g = ms) w wr)) (fun i _ => m - (intOf i).toNat)
  case atStart =>
    refine ⟨0, fS, by omega, rfl, H.out.sure.chg (G := fun _ => False) (Chg.of_below hbm) id, H.out.ks, fun i hi => ?_, hM0, Chg.of_below hbm⟩
    exact H.out.sv i hi
  case round =>
    obtain ⟨j, fSj, hj, rfl, hMs, hks, hsv, hMd, hcw⟩ := hrel
    by_cases hlt : (j : Int) < (m : Int)
    · obtain ⟨⟨a, b⟩, hx⟩ : ∃ x, kp[j]? = some x := ⟨_, List.getElem?_eq_getElem (by have := Hm.out; omega)⟩
      have Hx := Lib.hid hx
      have hwa : (kI a).wf = true := Hwf.out (a, b) (List.mem_of_getElem? hx)
      have htk : kp.take (j + 1) = kp.take j ++ [(a, b)] := by rw [List.take_add_one, hx]; rfl
      have Htk := Lib.hid htk
      obtain ⟨gb, off, rfl, hbl, -⟩ := HA.out.all (by rw [kcells_length]; have := Hm.out; omega)
      have hcell : At wr (some ⟨gb, off + j * 2, none⟩) [.int .i64 a, .int .i64 b] := by
        have h1 : At w (some ⟨gb, off, none⟩) (kcells kp) := HA.out
        have h2 := h1.chg hcw.out (fun ad had _ hg => by
          cases had
          obtain ⟨es, cl, hm⟩ := H.out.sure.isMap
          obtain ⟨b', o', e', _, hc0⟩ := h1.all (by rw [kcells_length]; have := Hm.out; omega)
          cases e'
          have := hc0 0 _ (List.getElem?_eq_getElem (by rw [kcells_length]; have := Hm.out; omega))
          unfold World.cell? at this
          simp only at hg
          simp only [hg, hm] at this
          cases this)
        have h3 := h2.cut (j * 2) 2
        rw [kcells_at kp j (a, b) hx, Option.map_some, addr_add] at h3
        exact h3
      have HCell := Lib.hid hcell
      have HI := Lib.hid (show (Try.prog.info? 42).map (·.size) = some ([Value.int .i64 a, .int .i64 b]).length by kernel_rfl)
      have j0 : (0 : Int) ≤ (j : Int) := by omega
      have j1 : IntKind.i64.wrap ((j : Int) + 1) = (j : Int) + 1 := IntWalk.i64_in _ (by have := Hm1.out; omega)
      clear hx htk hcell hbl
      go_wp2_with (refine wpList_load_at rfl 42 (.tmp 20) rfl gb (off + j * 2) rfl [.int .i64 a, .int .i64 b] _ HCell.out (Nat.zero_lt_succ _) Try.underlying42 rfl HI.out ?_)
      have hX : Blk (wr.alloc (.cells [Value.int .i64 a, .int .i64 b].toArray 42)) wr.heap.size 42 [.int .i64 a, .int .i64 b] := Blk.new _ _ _
      have hbW : Below wr.heap.size wr (wr.alloc (.cells [Value.int .i64 a, .int .i64 b].toArray 42)) := (Below.refl _ _).alloc (Nat.le_refl _) _
      have hwrx : wr.heap.size ≠ ms := by have := hcw.out.size; omega
      have hwrs : w.heap.size ≤ wr.heap.size := hcw.out.size
      change Code.wp _ _ _ _ (wr.alloc (.cells [Value.int .i64 a, .int .i64 b].toArray 42))
      generalize wr.alloc (.cells [Value.int .i64 a, .int .i64 b].toArray 42) = W at hX hbW ⊢
      have hcW : Chg (fun g => g = ms) w W := hcw.out.trans (Chg.of_below (G := fun g => g = ms) hbW) (fun g hg => .inl hg)
      have hpms := H.out.pms
      have hmcms : mc ≠ ms := fun e => H.out.ne e.symm
      have hMsW := hMs.out.chg (Chg.of_below (G := fun _ => False) hbW) id
      have hMdW := hMd.out.chg (Chg.of_below (G := fun _ => False) hbW) id
      have hz : ∀ w', (zeroValue 52).run Try.prog w' = .ok nilS w' := fun w' => by kernel_rfl
      have hzb : ∀ w', (zeroValue 4).run Try.prog w' = .ok (.bool false) w' := fun w' => by kernel_rfl
      have HlkW := Lib.hid (fun (w' : World) (hw : Below W.heap.size W w') => ((H.out.cache.chg hcW hmcms).chg (Chg.of_below (G := fun _ => False) hw) id).look (t := 44) (e := 52) Try.underlying3 Try.underlying44 (hz w') hwa)
      have Hlsd := Lib.hid (hMdW.look (t := 55) (e := 4) Try.underlying3 Try.underlying55 (hzb W) hwa)
      have HpW := Lib.hid (H.out.blk.chg hcW hpms)
      have HX := Lib.hid hX
      have HcW := Lib.hid hcW
      have HMsW := Lib.hid hMsW
      have HMdW := Lib.hid hMdW
      have Hwa := Lib.hid hwa
      obtain ⟨sd, hsd⟩ : ∃ sd : Bool, sd = (kp.take j).any (fun y => y.1 == a) := ⟨_, rfl⟩
      have hsdv : (saidOf (kp.take j) a).getD (.bool false) = .bool sd := by unfold saidOf; rw [← hsd]; cases sd <;> rfl
      have Hsd := Lib.hid hsd
      have hlsd : (Instr.lookup 55 (.map (some w.heap.size)) (.int .i64 a) false).run Try.prog W.drew = .ok (.bool sd) W.drew := by
        have := (HMdW.out.chg (Chg.of_below (G := fun _ => False) ((Below.refl W.heap.size W).drew)) id).look (t := 55) (e := 4) Try.underlying3 Try.underlying55 (hzb W.drew) hwa
        rw [hsdv] at this
        exact this
      have HLsd := Lib.hid hlsd
      have hm2 : qS + j < maxLen := by have := H.out.qs; have := Hq.out; have := Hm1.out; unfold maxLen; omega
      have Hm2 := Lib.hid hm2
      have Hj2 := Lib.hid (show j < maxLen by have := Hm1.out; unfold maxLen; omega)
      have Hms0 := Lib.hid hmsl
      -- what a round leaves, where no sector turns
      have hsame : (∀ i : Nat, i < 34 → a = (i : Int) → (kp.take j).any (fun y => y.1 == (i : Int)) = true ∨ ¬ (1 ≤ b ∧ b ≤ (C i).length)) →
          ∀ i : Nat, i < 34 → ∃ l, SV w F ((fSj (i : Int)).getD nilS) l ∧ l.length ≤ 64 ∧ crS S C (kp.take (j + 1)) i = pad l := by
        intro h i hi
        obtain ⟨l, h1, h2, h3⟩ := hsv.out i hi
        refine ⟨l, h1, h2, ?_⟩
        rw [Htk.out, crS_same S C (kp.take j) (a, b) i (h i hi)]
        exact h3
      have Hsame := Lib.hid hsame
      have hcase : (sd = true) ∨ (sd = false ∧ b < 1) ∨ (sd = false ∧ 1 ≤ b ∧ fC a = none) ∨ (sd = false ∧ 1 ≤ b ∧ ∃ v, fC a = some v) := by
        cases sd
        · right
          by_cases h1 : b < 1
          · exact .inl ⟨rfl, h1⟩
          · right
            cases hf : fC a with
            | none => exact .inl ⟨rfl, by omega, rfl⟩
            | some v => exact .inr ⟨rfl, by omega, v, rfl⟩
        · exact .inl rfl
      clear hX hbW hcW hMsW hMdW hz hzb hwa hsd hsdv hlsd hm2 hsame hpl hmcl hmsl hM0 hbm
      obtain ⟨v0, hv0⟩ : ∃ v0, v0 = (fC a).getD nilS := ⟨_, rfl⟩
      have Hv0 := Lib.hid hv0
      clear hv0
      have c1 : ∀ w', Below W.heap.size W w' → w'.cell? ⟨p, 1, none⟩ = some (.map (some mc)) := fun w' hw => (HpW.out.below hw HpW.out.lt).cell 1
      have x0 : ∀ w', Below W.heap.size W w' → w'.cell? ⟨wr.heap.size, 0, none⟩ = some (.int .i64 a) := fun w' hw => (HX.out.below hw HX.out.lt).cell 0
      have hlk : ∀ w', Below W.heap.size W w' → (Instr.lookup 44 (.map (some mc)) (.int .i64 a) false).run Try.prog w' = .ok v0 w' := fun w' hw => by rw [Hv0.out]; exact HlkW.out w' hw
      have hrd : Below W.heap.size W W.drew := (Below.refl _ _).drew
      refine region_plan (S := fun w' => Below W.heap.size W w') [(true, 0), (true, 1), (true, 2), (true, 3), (true, 4), (true, 5), (true, 6), (true, 7)] (by kernel_rfl) (by kernel_rfl) (by kernel_rfl) rfl hrd ?_
      simp only [planned_nil, planned_cons, nth_zero, nth_succ]
      iterate 8
        refine plan_still2 (v := ?_) (a' := ?_) (by rfl) (fun w' hS' => ?_) ?_ ?_
        rotate_left 2
        (focus (go_simp <;> with_reducible rfl))
        (focus (simp only [Act.put, List.setIfInBounds_toArray, List.set_cons_zero, List.set_cons_succ] <;> rfl))
      refine plan_nil ?_
      clear c1 x0 hlk
      have y0 : W.drew.cell? ⟨wr.heap.size, 0, none⟩ = some (.int .i64 a) := HX.out.cell 0
      have y1 : W.drew.cell? ⟨wr.heap.size, 1, none⟩ = some (.int .i64 b) := HX.out.cell 1
      have hls := HLsd.out
      rcases hcase with rfl | ⟨rfl, h1⟩ | ⟨rfl, h1, h2⟩ | ⟨rfl, h1, v, h2⟩
      · obtain ⟨W5, hst5, hMd5, hg5, -⟩ := VM.store (t := 55) (e := 4) (HMdW.out.chg (Chg.of_below (G := fun _ => False) hrd) id) Try.underlying3 Try.underlying55 Hj2.out Hwa.out (.bool true)
        have hc5 : Chg (fun g => g = w.heap.size) (W.drew) W5 := Chg.of_grown (G := fun g => g = w.heap.size) hg5 rfl
        have HMs5 := Lib.hid (((HMsW.out.mono (Nat.le_succ _)).chg (Chg.of_below (G := fun _ => False) hrd) id).chg hc5 (fun e => by have := Hms0.out; omega))
        have HMd5 := Lib.hid (show VM Try.prog 3 W5 w.heap.size (j + 1) (saidOf (kp.take (j + 1))) by rw [Htk.out, ← said_snoc]; exact hMd5)
        have HC5 := Lib.hid ((HcW.out.drew).trans hc5 (fun g hg => .inr (by omega)))
        clear hMd5 hg5 hc5
        go_wp2_with fail
        exact ⟨⟨j + 1, fSj, by omega, by go_num, HMs5.out, hks.out, Hsame.out (fun i hi ha => .inl (by rw [← ha]; exact Hsd.out.symm)), HMd5.out, HC5.out⟩, by simp [intOf]; omega⟩
      · obtain ⟨W5, hst5, hMd5, hg5, -⟩ := VM.store (t := 55) (e := 4) (HMdW.out.chg (Chg.of_below (G := fun _ => False) hrd) id) Try.underlying3 Try.underlying55 Hj2.out Hwa.out (.bool true)
        have hc5 : Chg (fun g => g = w.heap.size) (W.drew) W5 := Chg.of_grown (G := fun g => g = w.heap.size) hg5 rfl
        have HMs5 := Lib.hid (((HMsW.out.mono (Nat.le_succ _)).chg (Chg.of_below (G := fun _ => False) hrd) id).chg hc5 (fun e => by have := Hms0.out; omega))
        have HMd5 := Lib.hid (show VM Try.prog 3 W5 w.heap.size (j + 1) (saidOf (kp.take (j + 1))) by rw [Htk.out, ← said_snoc]; exact hMd5)
        have HC5 := Lib.hid ((HcW.out.drew).trans hc5 (fun g hg => .inr (by omega)))
        clear hMd5 hg5 hc5
        go_wp2_with fail
        exact ⟨⟨j + 1, fSj, by omega, by go_num, HMs5.out, hks.out, Hsame.out (fun i hi ha => .inr (by omega)), HMd5.out, HC5.out⟩, by simp [intOf]; omega⟩
      · have H2 := Lib.hid h2
        have e0 : v0 = nilS := by rw [Hv0.out, h2]; rfl
        clear h2
        subst e0
        have hb0 : ¬ (b ≤ 0) := by omega
        obtain ⟨W5, hst5, hMd5, hg5, -⟩ := VM.store (t := 55) (e := 4) (HMdW.out.chg (Chg.of_below (G := fun _ => False) hrd) id) Try.underlying3 Try.underlying55 Hj2.out Hwa.out (.bool true)
        have hc5 : Chg (fun g => g = w.heap.size) (W.drew) W5 := Chg.of_grown (G := fun g => g = w.heap.size) hg5 rfl
        have HMs5 := Lib.hid (((HMsW.out.mono (Nat.le_succ _)).chg (Chg.of_below (G := fun _ => False) hrd) id).chg hc5 (fun e => by have := Hms0.out; omega))
        have HMd5 := Lib.hid (show VM Try.prog 3 W5 w.heap.size (j + 1) (saidOf (kp.take (j + 1))) by rw [Htk.out, ← said_snoc]; exact hMd5)
        have HC5 := Lib.hid ((HcW.out.drew).trans hc5 (fun g hg => .inr (by omega)))
        clear hMd5 hg5 hc5
        go_wp2_with fail
        exact ⟨⟨j + 1, fSj, by omega, by go_num, HMs5.out, hks.out, Hsame.out (fun i hi ha => .inr (by rw [H.out.c0 i hi (by rw [← ha]; exact H2.out)]; simp; omega)), HMd5.out, HC5.out⟩, by simp [intOf]; omega⟩
      · have ha := H.out.kc a v h2
        obtain ⟨i0, rfl⟩ : ∃ i0 : Nat, a = (i0 : Int) := ⟨a.toNat, by omega⟩
        have hi0 : i0 < 34 := by omega
        obtain ⟨⟨xs, hrow, hxs⟩, hne, gr, hgr, hgrF, hgrp, hgrms, hgrmc⟩ := H.out.cr i0 v h2
        have hm0 : 0 < (C i0).length := by cases hc : C i0 with | nil => exact absurd hc hne | cons a b => simp
        obtain ⟨g, cap, rfl, hmcap, -, -, hAx⟩ := own_shape hrow hm0
        have hg' : gr = g := by simp only [Value.ownBlock, Option.some.injEq] at hgr; exact hgr.symm
        subst hg'
        obtain ⟨mm, hmm'⟩ : ∃ mm, mm = (C i0).length := ⟨_, rfl⟩
        have Hmm := Lib.hid hmm'
        have hmm6 : mm ≤ 1000000 := by rw [hmm']; exact HC.out i0 hi0
        have hxl : xs.length = mm := by have := hrow.1; omega
        have e0 : v0 = .slice (some ⟨gr, 0, none⟩) mm cap := by rw [Hv0.out, h2, hmm']; rfl
        rw [← hmm'] at hmcap
        clear h2 hm0 hne hgr hmm'
        subst e0
        by_cases hbm : b ≤ (mm : Int)
        · obtain ⟨bn, rfl⟩ : ∃ bn : Nat, b = (bn : Int) + 1 := ⟨(b - 1).toNat, by omega⟩
          obtain ⟨u, hu⟩ : ∃ u, xs[bn]? = some u := ⟨_, List.getElem?_eq_getElem (by omega)⟩
          obtain ⟨l1, hl1⟩ : ∃ l1, (C i0)[bn]? = some l1 := ⟨_, List.getElem?_eq_getElem (by have := Hmm.out; omega)⟩
          obtain ⟨hsvu, h64⟩ := hxs bn u l1 hu hl1
          obtain ⟨b', o', e', hgl, hcl⟩ := hAx.all (by omega)
          cases e'
          have hcu : w.cell? ⟨gr, bn, none⟩ = some u := by have := hcl bn u hu; simpa using this
          have hwr : IntKind.i64.wrap ((bn : Int) + 1 - 1) = (bn : Int) := by rw [show (bn : Int) + 1 - 1 = (bn : Int) by omega]; exact IntWalk.i64_in _ (by omega)
          have hbn : (bn : Int) < (mm : Int) := by omega
          have hwr2 : IntKind.i64.wrap (bn : Int) = (bn : Int) := IntWalk.i64_in _ (by omega)
          have HU := Lib.hid hsvu
          have H64 := Lib.hid h64
          have HL1 := Lib.hid hl1
          obtain ⟨W2, hW2⟩ : ∃ W2, W2 = W.drew := ⟨_, rfl⟩
          have hcW2 : Chg (fun g => g = ms) w W2 := by rw [hW2]; exact HcW.out.drew
          have HcW2 := Lib.hid hcW2
          have HpW2 := Lib.hid (show Blk W2 p 46 (dkc ms mc k false) by rw [hW2]; exact HpW.out)
          have HX2 := Lib.hid (show Blk W2 wr.heap.size 42 [.int .i64 (i0 : Int), .int .i64 ((bn : Int) + 1)] by rw [hW2]; exact HX.out)
          have HMs2 := Lib.hid (show VM Try.prog 3 W2 ms (qS + j) fSj by rw [hW2]; exact HMsW.out.chg (Chg.of_below (G := fun _ => False) hrd) id)
          have HMd2 := Lib.hid (show VM Try.prog 3 W2 w.heap.size j (saidOf (kp.take j)) by rw [hW2]; exact HMdW.out.chg (Chg.of_below (G := fun _ => False) hrd) id)
          have hcuW : W2.cell? ⟨gr, bn, none⟩ = some u := (World.cell?_of_block (w := w) (hcW2.block gr hgl hgrms)).trans hcu
          have HW2 := Lib.hid hW2
          clear hsvu h64 hl1 hxs hrow hAx hcl hcu hu hcW2 hW2
          go_wp2_with fail
          rw [← HW2.out]
          have p0 : ∀ w', ChgAt ms W2 w' → w'.cell? ⟨p, 0, none⟩ = some (.map (some ms)) := fun w' hw => (HpW2.out.chg hw hpms).cell 0
          have z0 : ∀ w', ChgAt ms W2 w' → w'.cell? ⟨wr.heap.size, 0, none⟩ = some (.int .i64 (i0 : Int)) := fun w' hw => (HX2.out.chg hw hwrx).cell 0
          have z1 : ∀ w', ChgAt ms W2 w' → w'.cell? ⟨wr.heap.size, 1, none⟩ = some (.int .i64 ((bn : Int) + 1)) := fun w' hw => (HX2.out.chg hw hwrx).cell 1
          have zr : ∀ w', ChgAt ms W2 w' → w'.cell? ⟨gr, bn, none⟩ = some u := fun w' hw => (World.cell?_of_block (w := W2) (hw.block gr (by have := HcW2.out.size; omega) hgrms)).trans hcuW
          obtain ⟨W3, hst3, hMs3, hg3, -⟩ := VM.store (t := 43) (e := 27) (HMs2.out.chg (Chg.of_below (G := fun _ => False) ((Below.refl W2.heap.size W2).drew)) id) Try.underlying3 Try.underlying43 Hm2.out Hwa.out u
          have hc3 : Chg (fun g => g = ms) W2 W3 := ((Chg.refl (fun g => g = ms) W2).drew).trans (Chg.of_grown (G := fun g => g = ms) hg3 rfl) (fun g hg => .inl hg)
          have hcr2 : Chg (fun g => g = ms) W2 W2.drew := (Chg.refl _ _).drew
          refine region_plan (S := fun w' => ChgAt ms W2 w') [(true, 0), (true, 1), (true, 2), (true, 3), (true, 4), (true, 5), (true, 6), (true, 7), (true, 8), (true, 9), (true, 10), (true, 11), (false, 12)] (by kernel_rfl) (by kernel_rfl) (by kernel_rfl) rfl hcr2 ?_
          simp only [planned_nil, planned_cons, nth_zero, nth_succ]
          iterate 12
            refine plan_still2 (v := ?_) (a' := ?_) (by rfl) (fun w' hS' => ?_) ?_ ?_
            rotate_left 2
            (focus (have e1 := p0 w' hS'; have e2 := z0 w' hS'; have e3 := z1 w' hS'; have e4 := zr w' hS'; go_simp <;> with_reducible rfl))
            (focus (simp only [Act.put, List.setIfInBounds_toArray, List.set_cons_zero, List.set_cons_succ] <;> rfl))
          refine plan_do (by rfl) (fun K' hK' => ?_)
          go_simp
          refine hK'.out _ _ hc3 ?_
          clear hK' K' hst3 p0 z0 z1 zr
          refine plan_nil ?_
          have y0' : W3.cell? ⟨wr.heap.size, 0, none⟩ = some (.int .i64 (i0 : Int)) := (HX2.out.chg hc3 hwrx).cell 0
          have Hks3 := Lib.hid (show ∀ i v, fput fSj (i0 : Int) u i = some v → 0 ≤ i ∧ i < 34 from fun i v hv => by unfold fput at hv; split at hv; omega; exact hks.out i v hv)
          have Hsv3 := Lib.hid (show ∀ i : Nat, i < 34 → ∃ l, SV w F ((fput fSj (i0 : Int) u (i : Int)).getD nilS) l ∧ l.length ≤ 64 ∧ crS S C (kp.take (j + 1)) i = pad l from fun i hi => by
            rw [Htk.out]
            by_cases hii : i = i0
            · subst hii
              refine ⟨l1, by unfold fput; rw [if_pos rfl]; exact HU.out, by have := H64.out; omega, ?_⟩
              rw [crS_snoc, if_neg (by rw [← Hsd.out]; simp), if_pos rfl, if_pos (by have := Hmm.out; omega), pad_full H64.out]
              show (C i).getD ((bn : Int) + 1 - 1).toNat (S i) = l1
              rw [show ((bn : Int) + 1 - 1).toNat = bn by omega, List.getD, HL1.out]
              rfl
            · obtain ⟨l, h1, h2, h3⟩ := hsv.out i hi
              refine ⟨l, by unfold fput; rw [if_neg (by omega)]; exact h1, h2, ?_⟩
              rw [crS_same S C (kp.take j) _ i (fun e => by simp only at e; omega)]
              exact h3)
          obtain ⟨W5, hst5, hMd5, hg5, -⟩ := VM.store (t := 55) (e := 4) (HMd2.out.chg hc3 (by have := Hms0.out; omega)) Try.underlying3 Try.underlying55 Hj2.out Hwa.out (.bool true)
          have hc5 : Chg (fun g => g = w.heap.size) (W3) W5 := Chg.of_grown (G := fun g => g = w.heap.size) hg5 rfl
          have HMs5 := Lib.hid ((hMs3).chg hc5 (fun e => by have := Hms0.out; omega))
          have HMd5 := Lib.hid (show VM Try.prog 3 W5 w.heap.size (j + 1) (saidOf (kp.take (j + 1))) by rw [Htk.out, ← said_snoc]; exact hMd5)
          have HC5 := Lib.hid ((HcW2.out.trans hc3 (fun g hg => .inl hg)).trans hc5 (fun g hg => .inr (by omega)))
          clear hMd5 hg5 hc5
          go_wp2_with fail
          exact ⟨⟨j + 1, (fput fSj (i0 : Int) u), by omega, by go_num, HMs5.out, Hks3.out, Hsv3.out, HMd5.out, HC5.out⟩, by simp [intOf]; omega⟩
        · clear hxs hrow hAx
          obtain ⟨W5, hst5, hMd5, hg5, -⟩ := VM.store (t := 55) (e := 4) (HMdW.out.chg (Chg.of_below (G := fun _ => False) hrd) id) Try.underlying3 Try.underlying55 Hj2.out Hwa.out (.bool true)
          have hc5 : Chg (fun g => g = w.heap.size) (W.drew) W5 := Chg.of_grown (G := fun g => g = w.heap.size) hg5 rfl
          have HMs5 := Lib.hid (((HMsW.out.mono (Nat.le_succ _)).chg (Chg.of_below (G := fun _ => False) hrd) id).chg hc5 (fun e => by have := Hms0.out; omega))
          have HMd5 := Lib.hid (show VM Try.prog 3 W5 w.heap.size (j + 1) (saidOf (kp.take (j + 1))) by rw [Htk.out, ← said_snoc]; exact hMd5)
          have HC5 := Lib.hid ((HcW.out.drew).trans hc5 (fun g hg => .inr (by omega)))
          clear hMd5 hg5 hc5
          go_wp2_with fail
          exact ⟨⟨j + 1, fSj, by omega, by go_num, HMs5.out, hks.out, Hsame.out (fun i hi ha => .inr (by obtain rfl : i = i0 := (by omega); have := Hmm.out; omega)), HMd5.out, HC5.out⟩, by simp [intOf]; omega⟩
    · have hjm : j = m := by omega
      subst hjm
      have htk : kp.take j = kp := List.take_of_length_le (by rw [← Hm.out]; exact Nat.le_refl _)
      have hpms := H.out.pms
      have HpW := Lib.hid (H.out.blk.chg hcw.out hpms)
      have HMcW := Lib.hid (H.out.cache.chg hcw.out (fun e => H.out.ne e.symm))
      have Hqj := Lib.hid (show qS + j ≤ q + j by have := H.out.qs; omega)
      have HD0 := Lib.hid (show DkIn w p F (q + j) S C k false ms mc fS fC qS qC from { H.out with qs := by have := H.out.qs; omega })
      rw [htk] at hsv
      have HS := Lib.hid (fun (W1 : World) (hM1 : VM Try.prog 3 W1 mc 0 (fun _ => none)) (hg : wr.grownBy W1 (some mc)) => dk_settle HD0.out hcw.out hMs.out Hqj.out hks.out hsv.out hM1 hg)
      clear htk
      go_wp2_with fail
      refine (dclear_any p ms mc k qC false fC _ HpW.out HMcW.out H.out.pmc).mono ?_
      rintro e w' ⟨⟨v, rfl⟩, W1, hM1, hg1, rfl⟩
      obtain ⟨hd, hcd⟩ := HS.out W1 hM1 hg1
      obtain ⟨ms', mc', hB⟩ := hd.blk
      generalize W1.setCell ⟨p, 2, none⟩ (.int .i64 0) = W2 at hd hcd hB ⊢
      have c3 : W2.cell? ⟨p, 3, none⟩ = some (.bool false) := hB.cell 3
      have f3 := hB.frozen 3
      have Hd := Lib.hid (hd.cell3 true)
      have Hcd := Lib.hid hcd
      clear hd hcd hM1 hg1 hB
      go_wp2_with fail
      go_ret
      exact ⟨rfl, Hd.out.1, Hcd.out.trans Hd.out.2 (fun g hg => .inl hg)⟩
end Go.Proofs.Ytdinhcgkkoceiaa
