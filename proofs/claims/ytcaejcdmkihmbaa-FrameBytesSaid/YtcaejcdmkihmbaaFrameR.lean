/- The walk of package frame's Read. -/
import Derived.Test.YtcaejcdmkihmbaaFrameB
import Derived.Test.YtcaejcdmkihmbaaMemRes
import Derived.Test.YtcaejcdmkihmbaaFrameW
namespace Go.Proofs.Ytcaejcdmkihmbaa
open Go.RowKit

namespace Fr
/-- the frame that a sector's bytes say -/
def of_ (l : List UInt8) : Fr where
  seq := (Pk.num (l.take 6) : Int)
  inc := (Pk.num ((l.drop 6).take 3) : Int)
  part := ((Pk.num ((l.drop 9).take 1) / 16 : Nat) : Int)
  of := ((Pk.num ((l.drop 9).take 1) % 16 : Nat) : Int)
  mark := BitVec.ofNat 32 (Pk.num ((l.drop 11).take 4))
  load := (l.drop 15).take (l.getD 10 0).toNat
/-- the frame that is read -/
def read (b : List UInt8) : Option Fr :=
  if Crc.okSealed b = true ∧ b.length = 64 ∧ ((b.take 60).getD 10 0).toNat ≤ 45 ∧ (of_ (b.take 60)).ok = true ∧ (of_ (b.take 60)).bytes = b then some (of_ (b.take 60)) else none
end Fr

/-- the cells of no frame -/
def zfc : List Value := fc 0 0 0 0 0 none 0 0

theorem fc_cells {w : World} {g : Nat} {t : TypeId} {s i p o m : Int} {A : Option Addr} {n c : Nat} (h : Blk w g t (fc s i p o m A n c)) :
    w.cell? ⟨g, 0, none⟩ = some (.int .i64 s) ∧ w.cell? ⟨g, 1, none⟩ = some (.int .i64 i) ∧ w.cell? ⟨g, 2, none⟩ = some (.int .i64 p) ∧ w.cell? ⟨g, 3, none⟩ = some (.int .i64 o) ∧
    w.cell? ⟨g, 4, none⟩ = some (.int .u32 m) ∧ w.cell? ⟨g, 5, none⟩ = some (.slice A n c) := ⟨h.cell 0, h.cell 1, h.cell 2, h.cell 3, h.cell 4, h.cell 5⟩
theorem fc_all (s i p o m : Int) (A : Option Addr) (n c : Nat) : (fc s i p o m A n c).toArray.all (·.oneCell') = true := by
  rw [Array.all_eq_true_iff_forall_mem]
  intro v hv
  exact fc_one s i p o m A n c v (by simpa using hv)

/-- what Read answers -/
def ReadSays (l : List UInt8) (w : World) (e : Ending) (w' : World) : Prop :=
  ((∃ f B d, e = .returned (.tuple #[.agg (fc f.seq f.inc f.part f.of (n32 f.mark) B f.load.length d).toArray, .int .i64 0]) ∧ Fr.read l = some f ∧ f.load.length ≤ d ∧ At w' B (bs f.load) ∧ ∀ a, B = some a → w.heap.size ≤ a.block) ∨
    (e = .returned (.tuple #[.agg zfc.toArray, .int .i64 40]) ∧ Fr.read l = none)) ∧ Below w.heap.size w w'

set_option maxRecDepth 100000 in
set_option maxHeartbeats 2000000 in
theorem fread_unsealed (A : Option Addr) (l : List UInt8) (n c : Nat) (w : World) (hA : At w A (bs l)) (hn : n = l.length) (hc : n ≤ c) (hb : n ≤ 900000) (hok : Crc.okSealed l = false) :
    Calls Try.prog 15 #[.slice A n c] w (ReadSays l w) := by
  have HA := Lib.hid hA
  have Hn := Lib.hid hn
  have Hok := Lib.hid hok
  have HZ := Lib.hid (Blk.new w 33 zfc)
  have hb1 : Below w.heap.size w (w.alloc (.cells zfc.toArray 33)) := (Below.refl _ _).alloc (Nat.le_refl _) _
  have HA1 := Lib.hid (HA.out.alloc (.cells zfc.toArray 33))
  have Hi := Lib.hid (show (Try.prog.info? 33).map (·.size) = some 6 by kernel_rfl)
  have Hone := Lib.hid (show zfc.toArray.all (·.oneCell') = true from fc_all _ _ _ _ _ _ _ _)
  clear hA hn hok
  go_enter Try.func15, Try.ntmps15
  go_wp2_with fail
  refine (open_no A l n c _ HA1.out Hn.out hc hb Hok.out).mono ?_
  rintro e w2 ⟨rfl, hb2⟩
  have HZ2 := Lib.hid (HZ.out.below hb2 HZ.out.lt)
  have hb3 := hb1.trans (hb2.mono hb1.size)
  obtain ⟨c0, c1, c2, c3, c4, c5⟩ := fc_cells HZ2.out
  clear hb2 hb1
  go_wp2_with (refine wpList_store_row rfl _ (.tmp 2) (.tmp 24) rfl w.heap.size zfc.toArray rfl rfl 33 zfc.toArray HZ2.out Hi.out rfl Hone.out ?_)
  refine bodyPost_ret (v := .tuple #[.agg zfc.toArray, .int .i64 40]) ?_ rfl ⟨.inr ⟨rfl, ?_⟩, below_setRow hb3 (Nat.le_refl _) _⟩
  · exact results_cell_tmp_blk (p := 2) (u := 3) rfl _ _ rfl (HZ2.out.row zfc) Try.underlying33 rfl Hi.out
  unfold Fr.read
  rw [if_neg]
  rw [Hok.out]
  simp

set_option maxRecDepth 100000 in
set_option maxHeartbeats 2000000 in
theorem fread_len (A : Option Addr) (l : List UInt8) (n c : Nat) (w : World) (hA : At w A (bs l)) (hn : n = l.length) (hc : n ≤ c) (hb : n ≤ 900000) (hok : Crc.okSealed l = true) (h64 : n ≠ 64) :
    Calls Try.prog 15 #[.slice A n c] w (ReadSays l w) := by
  have HA := Lib.hid hA
  have Hn := Lib.hid hn
  have Hok := Lib.hid hok
  have HZ := Lib.hid (Blk.new w 33 zfc)
  have hb1 : Below w.heap.size w (w.alloc (.cells zfc.toArray 33)) := (Below.refl _ _).alloc (Nat.le_refl _) _
  have HA1 := Lib.hid (HA.out.alloc (.cells zfc.toArray 33))
  have Hi := Lib.hid (show (Try.prog.info? 33).map (·.size) = some 6 by kernel_rfl)
  have Hone := Lib.hid (show zfc.toArray.all (·.oneCell') = true from fc_all _ _ _ _ _ _ _ _)
  have n1 : ¬ ((n : Int) = 64) := by omega
  have n2 : ((n : Int) == 64) = false := by simpa using n1
  clear hA hn hok
  go_enter Try.func15, Try.ntmps15
  go_wp2_with fail
  refine (open_yes A l n c _ HA1.out Hn.out hc hb Hok.out).mono ?_
  rintro e w2 ⟨v, rfl, -, hb2⟩
  have HZ2 := Lib.hid (HZ.out.below hb2 HZ.out.lt)
  have hb3 := hb1.trans (hb2.mono hb1.size)
  obtain ⟨c0, c1, c2, c3, c4, c5⟩ := fc_cells HZ2.out
  clear hb2 hb1
  go_wp2_with (refine wpList_store_row rfl _ (.tmp 2) (.tmp 24) rfl w.heap.size zfc.toArray rfl rfl 33 zfc.toArray HZ2.out Hi.out rfl Hone.out ?_)
  refine bodyPost_ret (v := .tuple #[.agg zfc.toArray, .int .i64 40]) ?_ rfl ⟨.inr ⟨rfl, ?_⟩, below_setRow hb3 (Nat.le_refl _) _⟩
  · exact results_cell_tmp_blk (p := 2) (u := 3) rfl _ _ rfl (HZ2.out.row zfc) Try.underlying33 rfl Hi.out
  unfold Fr.read
  rw [if_neg]
  rw [← Hn.out]
  exact fun h => h64 h.2.1

set_option maxRecDepth 100000 in
set_option maxHeartbeats 2000000 in
theorem fread_long (A : Option Addr) (l : List UInt8) (c : Nat) (w : World) (hA : At w A (bs l)) (hn : 64 = l.length) (hc : 64 ≤ c) (hok : Crc.okSealed l = true) (h45 : 45 < ((l.take 60).getD 10 0).toNat) :
    Calls Try.prog 15 #[.slice A 64 c] w (ReadSays l w) := by
  have HA := Lib.hid hA
  have Hn := Lib.hid hn
  have Hok := Lib.hid hok
  have HZ := Lib.hid (Blk.new w 33 zfc)
  have hb1 : Below w.heap.size w (w.alloc (.cells zfc.toArray 33)) := (Below.refl _ _).alloc (Nat.le_refl _) _
  have HA1 := Lib.hid (HA.out.alloc (.cells zfc.toArray 33))
  have Hi := Lib.hid (show (Try.prog.info? 33).map (·.size) = some 6 by kernel_rfl)
  have Hone := Lib.hid (show zfc.toArray.all (·.oneCell') = true from fc_all _ _ _ _ _ _ _ _)
  have H45 := Lib.hid h45
  clear hA hn hok h45
  go_enter Try.func15, Try.ntmps15
  go_wp2_with fail
  refine (open_yes A l 64 c _ HA1.out Hn.out hc (by decide) Hok.out).mono ?_
  rintro e w2 ⟨v, rfl, hown, hb2⟩
  rw [← Hn.out] at hown
  obtain ⟨g, c', rfl, hc', -, -, hA'⟩ := own_shape hown (by decide)
  have HZ2 := Lib.hid (HZ.out.below hb2 HZ.out.lt)
  have hb3 := hb1.trans (hb2.mono hb1.size)
  obtain ⟨c0, c1, c2, c3, c4, c5⟩ := fc_cells HZ2.out
  obtain ⟨b, off, e, -, hx⟩ := hA'.get (k := 10) (by rw [bs_length, List.length_take, ← Hn.out]; decide)
  cases e
  rw [bs_get _ _ (by rw [List.length_take, ← Hn.out]; decide)] at hx
  obtain ⟨x, hxx⟩ : ∃ x, x = (l.take 60)[10]'(by rw [List.length_take, ← Hn.out]; decide) := ⟨_, rfl⟩
  have hx45 : 45 < n8 x := by
    have h := H45.out
    rw [List.getD_eq_getElem?_getD, List.getElem?_eq_getElem (by rw [List.length_take, ← Hn.out]; decide)] at h
    rw [hxx]
    unfold n8
    simp only [Option.getD_some] at h
    omega
  rw [← hxx] at hx
  have x0 := n8_0 x
  have x1 := n8_lt x
  clear hb2 hb1 hA' hown hxx
  go_wp2_with (refine wpList_store_row rfl _ (.tmp 2) (.tmp 31) rfl w.heap.size zfc.toArray rfl rfl 33 zfc.toArray HZ2.out Hi.out rfl Hone.out ?_)
  refine bodyPost_ret (v := .tuple #[.agg zfc.toArray, .int .i64 40]) ?_ rfl ⟨.inr ⟨rfl, ?_⟩, below_setRow hb3 (Nat.le_refl _) _⟩
  · exact results_cell_tmp_blk (p := 2) (u := 3) rfl _ _ rfl (HZ2.out.row zfc) Try.underlying33 rfl Hi.out
  unfold Fr.read
  rw [if_neg]
  intro h
  have := H45.out
  omega
/- FULL -/
theorem own_at2 {w : World} {base n size : Nat} {e : TypeId} {v : Value} {xs : List Value} (h : w.ownsRow base e size v n xs) : ∃ A c, v = .slice A n c ∧ n ≤ c ∧ At w A xs ∧ ∀ a, A = some a → base ≤ a.block := by
  obtain ⟨A, c, rfl, hc, _, hA⟩ := own_at h
  refine ⟨A, c, rfl, hc, hA, ?_⟩
  intro a ha
  rcases h.2 with ⟨h1, _⟩ | ⟨g, cap, cur, h1, hg, _⟩
  · cases h1; cases ha
  · cases h1; cases ha; exact hg
theorem At.rowFar {w : World} {A : Option Addr} {xs : List Value} (h : At w A xs) {g : Nat} (hne : ∀ a, A = some a → a.block ≠ g) (cs : Array Value) : At (w.setRow g cs) A xs := fun hn => by
  obtain ⟨b, off, e, hc⟩ := h hn
  exact ⟨b, off, e, fun j u hu => (World.cell?_of_block (w := w) (setRow_other w g b cs (hne _ e))).trans (hc j u hu)⟩
theorem i64_and15 (V : Nat) (h : V < 256) : bits .and .i64 (V : Int) 15 = ((V % 16 : Nat) : Int) := by
  have e : (BitVec.ofInt 64 (V : Int)).toNat = V := by rw [BitVec.ofInt_natCast, BitVec.toNat_ofNat]; omega
  show IntKind.i64.wrap ((BitVec.ofInt 64 (V : Int) &&& BitVec.ofInt 64 15).toNat : Int) = _
  have e2 : (BitVec.ofInt 64 15).toNat = 2 ^ 4 - 1 := by decide
  rw [BitVec.toNat_and, e, e2, Nat.and_two_pow_sub_one_eq_mod, IntKind.wrap_i64]
  omega

set_option maxRecDepth 100000 in
set_option maxHeartbeats 4000000 in
theorem fread_full (A : Option Addr) (l : List UInt8) (c : Nat) (w : World) (hA : At w A (bs l)) (hn : 64 = l.length) (hc : 64 ≤ c) (hok : Crc.okSealed l = true) (h45 : ((l.take 60).getD 10 0).toNat ≤ 45) :
    Calls Try.prog 15 #[.slice A 64 c] w (ReadSays l w) := by
  have HA := Lib.hid hA
  have Hn := Lib.hid hn
  have Hok := Lib.hid hok
  have HZ := Lib.hid (Blk.new w 33 zfc)
  have hb1 : Below w.heap.size w (w.alloc (.cells zfc.toArray 33)) := (Below.refl _ _).alloc (Nat.le_refl _) _
  have HA1 := Lib.hid (HA.out.alloc (.cells zfc.toArray 33))
  have Hi := Lib.hid (show (Try.prog.info? 33).map (·.size) = some 6 by kernel_rfl)
  have H45 := Lib.hid h45
  clear hA hn hok h45
  go_enter Try.func15, Try.ntmps15
  go_wp2_with fail
  refine (open_yes A l 64 c _ HA1.out Hn.out hc (by decide) Hok.out).mono ?_
  rintro e w2 ⟨v, rfl, hown, hb2⟩
  rw [← Hn.out] at hown
  obtain ⟨g, c', rfl, hc', -, -, hA'⟩ := own_shape hown (by decide)
  have HZ2 := Lib.hid (HZ.out.below hb2 HZ.out.lt)
  have hb3 := hb1.trans (hb2.mono hb1.size)
  obtain ⟨L, hL⟩ : ∃ L, L = l.take (64 - 4) := ⟨_, rfl⟩
  rw [← hL] at hA'
  have HL := Lib.hid hL
  have HL60 : Hid (L.length = 60) := by rw [hL, List.length_take, ← Hn.out]; rfl
  obtain ⟨b, off, e, -, hx⟩ := hA'.get (k := 10) (by rw [bs_length, HL60.out]; decide)
  cases e
  rw [bs_get _ _ (by rw [HL60.out]; decide)] at hx
  obtain ⟨k, hk⟩ : ∃ k, k = (L.getD 10 0).toNat := ⟨_, rfl⟩
  have Hk := Lib.hid hk
  have k45 : k ≤ 45 := by rw [hk, hL]; exact H45.out
  have hx' : w2.cell? ⟨g, 10, none⟩ = some (.int .u8 (k : Int)) := by
    rw [Nat.zero_add] at hx
    rw [hx, hk, List.getD_eq_getElem?_getD, List.getElem?_eq_getElem (by rw [HL60.out]; decide)]
    rfl
  have HA2 := Lib.hid hA'
  have c60 : 60 ≤ c' := hc'
  clear hb2 hb1 hA' hown hL hx hk hc'
  go_wp2_with fail
  have HN0 := Lib.hid (Blk.new w2 54 [.int .i64 0, .int .i64 0, .int .i64 0, .int .i64 0, .int .i64 0])
  have hs0 : Below w2.heap.size w2 (w2.alloc (.cells [Value.int .i64 0, .int .i64 0, .int .i64 0, .int .i64 0, .int .i64 0].toArray 54)) := (Below.refl _ _).alloc (Nat.le_refl _) _
  change Code.wp _ _ _ _ (w2.alloc (.cells [Value.int .i64 0, .int .i64 0, .int .i64 0, .int .i64 0, .int .i64 0].toArray 54))
  generalize w2.alloc (.cells [Value.int .i64 0, .int .i64 0, .int .i64 0, .int .i64 0, .int .i64 0].toArray 54) = W0 at HN0 hs0 ⊢
  clear hx'
  refine wp_loop_rounds 6 ?_
  have ix := fun (w : World) => (by kernel_rfl : (Instr.index 54 (.agg #[.int .i64 6, .int .i64 3, .int .i64 1, .int .i64 1, .int .i64 4]) (.int .i64 0)).run Try.prog w = .ok (.int .i64 6) w)
  have f0 := HN0.out.frozen 0
  have n0 : W0.cell? ⟨w2.heap.size, 0, none⟩ = some (.int .i64 0) := HN0.out.cell 0
  have HR0 := Lib.hid (HA2.out.below hs0 (Nat.le_refl _))
  rw [rounds_succ]
  go_wp2_with fail
  refine (get_int (some ⟨g, 0, none⟩) L 60 c' 0 6 0 6 _ rfl rfl HR0.out HL60.out.symm (by decide) (by decide) (by decide) (by rw [HL60.out]; decide)).mono ?_
  rintro e w' ⟨rfl, rfl⟩
  obtain ⟨V0, hV0⟩ : ∃ V, V = Pk.num ((L.drop 0).take 6) := ⟨_, rfl⟩
  rw [← hV0]
  have HV0 := Lib.hid hV0
  clear hV0
  go_wp2_with fail
  have HN1 := Lib.hid (show Blk _ w2.heap.size 54 [.int .i64 V0, .int .i64 0, .int .i64 0, .int .i64 0, .int .i64 0] from HN0.out.set_ 0 (.int .i64 V0))
  have hs1 := hs0.setCell (p := ⟨w2.heap.size, 0, none⟩) (Nat.le_refl _) (.int .i64 V0)
  generalize W0.setCell ⟨w2.heap.size, 0, none⟩ (.int .i64 V0) = W1 at HN1 hs1 ⊢
  clear ix f0 n0 HN0 hs0 HR0
  have ix := fun (w : World) => (by kernel_rfl : (Instr.index 54 (.agg #[.int .i64 6, .int .i64 3, .int .i64 1, .int .i64 1, .int .i64 4]) (.int .i64 1)).run Try.prog w = .ok (.int .i64 3) w)
  have f1 := HN1.out.frozen 1
  have n1 : W1.cell? ⟨w2.heap.size, 1, none⟩ = some (.int .i64 0) := HN1.out.cell 1
  have HR1 := Lib.hid (HA2.out.below hs1 (Nat.le_refl _))
  rw [rounds_succ]
  go_wp2_with fail
  refine (get_int (some ⟨g, 0, none⟩) L 60 c' 6 3 6 3 _ rfl rfl HR1.out HL60.out.symm (by decide) (by decide) (by decide) (by rw [HL60.out]; decide)).mono ?_
  rintro e w' ⟨rfl, rfl⟩
  obtain ⟨V1, hV1⟩ : ∃ V, V = Pk.num ((L.drop 6).take 3) := ⟨_, rfl⟩
  rw [← hV1]
  have HV1 := Lib.hid hV1
  clear hV1
  go_wp2_with fail
  have HN2 := Lib.hid (show Blk _ w2.heap.size 54 [.int .i64 V0, .int .i64 V1, .int .i64 0, .int .i64 0, .int .i64 0] from HN1.out.set_ 1 (.int .i64 V1))
  have hs2 := hs1.setCell (p := ⟨w2.heap.size, 1, none⟩) (Nat.le_refl _) (.int .i64 V1)
  generalize W1.setCell ⟨w2.heap.size, 1, none⟩ (.int .i64 V1) = W2 at HN2 hs2 ⊢
  clear ix f1 n1 HN1 hs1 HR1
  have ix := fun (w : World) => (by kernel_rfl : (Instr.index 54 (.agg #[.int .i64 6, .int .i64 3, .int .i64 1, .int .i64 1, .int .i64 4]) (.int .i64 2)).run Try.prog w = .ok (.int .i64 1) w)
  have f2 := HN2.out.frozen 2
  have n2 : W2.cell? ⟨w2.heap.size, 2, none⟩ = some (.int .i64 0) := HN2.out.cell 2
  have HR2 := Lib.hid (HA2.out.below hs2 (Nat.le_refl _))
  rw [rounds_succ]
  go_wp2_with fail
  refine (get_int (some ⟨g, 0, none⟩) L 60 c' 9 1 9 1 _ rfl rfl HR2.out HL60.out.symm (by decide) (by decide) (by decide) (by rw [HL60.out]; decide)).mono ?_
  rintro e w' ⟨rfl, rfl⟩
  obtain ⟨V2, hV2⟩ : ∃ V, V = Pk.num ((L.drop 9).take 1) := ⟨_, rfl⟩
  rw [← hV2]
  have HV2 := Lib.hid hV2
  clear hV2
  go_wp2_with fail
  have HN3 := Lib.hid (show Blk _ w2.heap.size 54 [.int .i64 V0, .int .i64 V1, .int .i64 V2, .int .i64 0, .int .i64 0] from HN2.out.set_ 2 (.int .i64 V2))
  have hs3 := hs2.setCell (p := ⟨w2.heap.size, 2, none⟩) (Nat.le_refl _) (.int .i64 V2)
  generalize W2.setCell ⟨w2.heap.size, 2, none⟩ (.int .i64 V2) = W3 at HN3 hs3 ⊢
  clear ix f2 n2 HN2 hs2 HR2
  have ix := fun (w : World) => (by kernel_rfl : (Instr.index 54 (.agg #[.int .i64 6, .int .i64 3, .int .i64 1, .int .i64 1, .int .i64 4]) (.int .i64 3)).run Try.prog w = .ok (.int .i64 1) w)
  have f3 := HN3.out.frozen 3
  have n3 : W3.cell? ⟨w2.heap.size, 3, none⟩ = some (.int .i64 0) := HN3.out.cell 3
  have HR3 := Lib.hid (HA2.out.below hs3 (Nat.le_refl _))
  rw [rounds_succ]
  go_wp2_with fail
  refine (get_int (some ⟨g, 0, none⟩) L 60 c' 10 1 10 1 _ rfl rfl HR3.out HL60.out.symm (by decide) (by decide) (by decide) (by rw [HL60.out]; decide)).mono ?_
  rintro e w' ⟨rfl, rfl⟩
  obtain ⟨V3, hV3⟩ : ∃ V, V = Pk.num ((L.drop 10).take 1) := ⟨_, rfl⟩
  rw [← hV3]
  have HV3 := Lib.hid hV3
  clear hV3
  go_wp2_with fail
  have HN4 := Lib.hid (show Blk _ w2.heap.size 54 [.int .i64 V0, .int .i64 V1, .int .i64 V2, .int .i64 V3, .int .i64 0] from HN3.out.set_ 3 (.int .i64 V3))
  have hs4 := hs3.setCell (p := ⟨w2.heap.size, 3, none⟩) (Nat.le_refl _) (.int .i64 V3)
  generalize W3.setCell ⟨w2.heap.size, 3, none⟩ (.int .i64 V3) = W4 at HN4 hs4 ⊢
  clear ix f3 n3 HN3 hs3 HR3
  have ix := fun (w : World) => (by kernel_rfl : (Instr.index 54 (.agg #[.int .i64 6, .int .i64 3, .int .i64 1, .int .i64 1, .int .i64 4]) (.int .i64 4)).run Try.prog w = .ok (.int .i64 4) w)
  have f4 := HN4.out.frozen 4
  have n4 : W4.cell? ⟨w2.heap.size, 4, none⟩ = some (.int .i64 0) := HN4.out.cell 4
  have HR4 := Lib.hid (HA2.out.below hs4 (Nat.le_refl _))
  rw [rounds_succ]
  go_wp2_with fail
  refine (get_int (some ⟨g, 0, none⟩) L 60 c' 11 4 11 4 _ rfl rfl HR4.out HL60.out.symm (by decide) (by decide) (by decide) (by rw [HL60.out]; decide)).mono ?_
  rintro e w' ⟨rfl, rfl⟩
  obtain ⟨V4, hV4⟩ : ∃ V, V = Pk.num ((L.drop 11).take 4) := ⟨_, rfl⟩
  rw [← hV4]
  have HV4 := Lib.hid hV4
  clear hV4
  go_wp2_with fail
  have HN5 := Lib.hid (show Blk _ w2.heap.size 54 [.int .i64 V0, .int .i64 V1, .int .i64 V2, .int .i64 V3, .int .i64 V4] from HN4.out.set_ 4 (.int .i64 V4))
  have hs5 := hs4.setCell (p := ⟨w2.heap.size, 4, none⟩) (Nat.le_refl _) (.int .i64 V4)
  generalize W4.setCell ⟨w2.heap.size, 4, none⟩ (.int .i64 V4) = W5 at HN5 hs5 ⊢
  clear ix f4 n4 HN4 hs4 HR4
  rw [rounds_succ]
  go_wp2_with fail
  obtain ⟨C, hC⟩ : ∃ C : List Value, C = [.int .i64 V0, .int .i64 V1, .int .i64 V2, .int .i64 V3, .int .i64 V4] := ⟨_, rfl⟩
  rw [← hC] at HN5
  have v2 : V2 < 256 := by rw [HV2.out]; have := Pk.num_lt ((L.drop 9).take 1); simpa [HL60.out] using this
  have v4 : V4 < 4294967296 := by rw [HV4.out]; have := Pk.num_lt ((L.drop 11).take 4); simp [HL60.out] at this; omega
  obtain ⟨M, hM⟩ : ∃ M, M = BitVec.ofNat 32 V4 := ⟨_, rfl⟩
  have hM4 : (V4 : Int) = n32 M := by rw [hM]; unfold n32; rw [BitVec.toNat_ofNat, Nat.mod_eq_of_lt (by omega)]
  have HM := Lib.hid hM
  have m0 := n32_0 M
  have m1 := n32_lt M
  have mw : IntKind.u32.wrap (n32 M) = n32 M := by rw [IntKind.wrap_u32]; omega
  have hand := i64_and15 V2 v2
  have G0 : ∀ w', Blk w' w2.heap.size 54 C → w'.cell? ⟨w2.heap.size, 0, none⟩ = some (.int .i64 V0) := fun w' h => by rw [h.cell, hC]; rfl
  have G1 : ∀ w', Blk w' w2.heap.size 54 C → w'.cell? ⟨w2.heap.size, 1, none⟩ = some (.int .i64 V1) := fun w' h => by rw [h.cell, hC]; rfl
  have G2 : ∀ w', Blk w' w2.heap.size 54 C → w'.cell? ⟨w2.heap.size, 2, none⟩ = some (.int .i64 V2) := fun w' h => by rw [h.cell, hC]; rfl
  have G4 : ∀ w', Blk w' w2.heap.size 54 C → w'.cell? ⟨w2.heap.size, 4, none⟩ = some (.int .i64 (n32 M)) := fun w' h => by rw [h.cell, hC, ← hM4]; rfl
  obtain ⟨m, hm⟩ : ∃ m, m = 15 + k := ⟨_, rfl⟩
  have d0 : IntKind.i64.wrap (15 + (k : Int)) = (m : Int) := by rw [hm, IntWalk.i64_in _ (by omega)]; omega
  have d1 : (m : Int) ≤ (c' : Int) := by omega
  have d2 : max (m : Int) 0 = (m : Int) := by omega
  have d3 : (15 : Int) ≤ (m : Int) := by omega
  have d4 : m - 15 = k := by omega
  obtain ⟨B, hB⟩ : ∃ B : Option Addr, (if m = 15 then some (⟨g, 0, none⟩ : Addr) else some ⟨g, 15, none⟩) = B := ⟨_, rfl⟩
  have HB := Lib.hid hB
  have Hm := Lib.hid hm
  have hsz5 : w2.heap.size ≤ W5.heap.size := hs5.size
  have hb5 : Below w.heap.size w W5 := hb3.trans (hs5.mono hb3.size)
  have hZlt : w.heap.size < W5.heap.size := Nat.lt_of_lt_of_le HZ2.out.lt hsz5
  have HZ5 := Lib.hid (HZ2.out.below hs5 HZ2.out.lt)
  obtain ⟨ld, hld⟩ : ∃ ld, ld = (L.drop 15).take k := ⟨_, rfl⟩
  have hldl : ld.length = k := by rw [hld, List.length_take, List.length_drop, HL60.out]; omega
  have HBl : Hid (At W5.drew B (bs ld)) := by
    intro h0
    rw [bs_length, hldl] at h0
    have h := ((HA2.out.below hs5 (Nat.le_refl _)).drew.cut 15 k)
    have e1 : ((bs L).drop 15).take k = bs ld := by rw [hld]; unfold bs; rw [List.map_take, List.map_drop]
    rw [e1, Option.map_some, addr_add, Nat.zero_add] at h
    rw [if_neg (by omega)] at hB
    rw [← hB]
    exact h (by rw [bs_length, hldl]; exact h0)
  have Hld := Lib.hid hld
  have Hldl := Lib.hid hldl
  have Q1 := Lib.hid (show (bs ld).length = k * 1 by rw [bs_length, hldl, Nat.mul_one])
  have Q2 := Lib.hid (show 0 + k ≤ maxLen by unfold maxLen; omega)
  have Q3 := Lib.hid (show (0 + k) * 1 ≤ 140737488355328 by omega)
  have hfb := fbuild
  clear hC hm hM hM4 hld hldl v4
  refine region_plan (S := fun w' => Blk w' w2.heap.size 54 C) [(true, 0), (true, 1), (true, 2), (true, 3), (true, 4), (true, 5), (true, 6), (true, 7), (true, 8), (true, 9), (true, 10), (true, 11), (true, 12), (true, 13), (true, 14), (true, 15), (true, 16), (true, 17), (true, 18), (false, 19), (true, 20), (false, 21)] (by kernel_rfl) (by kernel_rfl) (by kernel_rfl) rfl HN5.out.drew ?_
  simp only [planned_nil, planned_cons, nth_zero, nth_succ]
  iterate 19
    refine plan_still2 (v := ?_) (a' := ?_) (by rfl) (fun w' hS' => ?_) ?_ ?_
    rotate_left 2
    (focus (go_simp <;> with_reducible rfl))
    (focus (simp only [Act.put, List.setIfInBounds_toArray, List.set_cons_zero, List.set_cons_succ] <;> rfl))
  refine plan_do (by rfl) (fun K' hK' => ?_)
  refine wp_app_own (.const (.slice none 0 0)) (.tmp 68) bytesTy rfl W5.heap.size (.slice none 0 0) 0 [] rfl (World.ownsRow_nil _ _ _ _) B k k (bs ld) rfl HBl.out Q1.out (one_bs _) Q2.out Q3.out (Nat.le_refl _) ?_
  intro v6 w6 hown6 hg6 hat6
  rw [Nat.zero_add, List.nil_append] at hown6
  obtain ⟨A6, c6, rfl, hc6, hA6, hne6⟩ := own_at2 hown6
  have HA6 := Lib.hid hA6
  have Hne6 := Lib.hid hne6
  have hs6 : Below W5.heap.size W5 w6 := (Below.refl _ _).drew.grown hg6 (Nat.le_refl _) (by simp [Value.ownBlock])
  have HZ6 := Lib.hid (HZ5.out.below hs6 hZlt)
  have hS6 : Blk w6 w2.heap.size 54 C := HN5.out.drew.grown hg6 (by simp [Value.ownBlock])
  refine hK'.out _ _ hS6 ?_
  clear hK' K' hown6 hat6 hA6 hne6 hg6
  refine plan_still2 (v := ?_) (a' := ?_) (by rfl) (fun w' hS' => ?_) ?_ ?_
  rotate_left 2
  (focus (go_simp <;> with_reducible rfl))
  (focus (simp only [Act.put, List.setIfInBounds_toArray, List.set_cons_zero, List.set_cons_succ] <;> rfl))
  obtain ⟨cs, hcs⟩ : ∃ cs, cs = fc (V0 : Int) (V1 : Int) ((V2 : Int) / 16) ((V2 : Int) % 16) (n32 M) A6 k c6 := ⟨_, rfl⟩
  have Hall : Hid (cs.toArray.all (·.oneCell') = true) := by rw [hcs]; exact fc_all _ _ _ _ _ _ _ _
  have Hsz : Hid (zfc.toArray.size = cs.toArray.size) := by rw [hcs]; rfl
  have Hi6 : Hid ((Try.prog.info? 33).map (·.size) = some cs.toArray.size) := by rw [hcs]; exact Hi.out
  refine plan_do (by rfl) (fun K' hK' => ?_)
  refine wp_store_row _ (.tmp 2) (.tmp 70) rfl w.heap.size cs.toArray rfl (by rw [hcs]; rfl) 33 zfc.toArray HZ6.out Hi6.out Hsz.out Hall.out ?_
  have hB7 := HZ6.out.row cs
  have hb7 := below_setRow (hb5.trans (hs6.mono hb5.size)) (Nat.le_refl w.heap.size) cs.toArray
  have hA7 := HA6.out.rowFar (g := w.heap.size) (fun a ha => Nat.ne_of_gt (Nat.lt_of_lt_of_le hZlt (Hne6.out a ha))) cs.toArray
  refine hK'.out _ _ (Blk.rowFar hS6 (show w2.heap.size ≠ w.heap.size by have := HZ2.out.lt; omega) _) ?_
  clear hK' K'
  refine plan_nil ?_
  generalize w6.setRow w.heap.size cs.toArray = W7 at hB7 hb7 hA7 ⊢
  have HB7 := Lib.hid hB7
  have HA7 := Lib.hid hA7
  have hcs' := hcs
  rw [hcs'] at hB7
  obtain ⟨g0, g1, g2, g3, g4, g5⟩ := fc_cells hB7
  have Hcs := Lib.hid hcs
  have Hone := Lib.hid (show zfc.toArray.all (·.oneCell') = true from fc_all _ _ _ _ _ _ _ _)
  have zb := fun (w : World) => run_build (P := Try.prog) w 33 #[] zfc.toArray (by kernel_rfl)
  have Hf : Hid (Fr.of_ L = ⟨V0, V1, (V2 : Int) / 16, (V2 : Int) % 16, M, ld⟩) := by
    unfold Hid Fr.of_
    rw [HM.out, Hld.out, Hk.out, HV0.out, HV1.out, HV2.out, HV4.out, List.drop_zero]
    simp
  have q0 : (0 : Int) ≤ (V2 : Int) % 16 := by omega
  clear G0 G1 G2 G4 hB7 hA7 hcs hcs' hS6 mw hand d0 d1 d2 d3 d4 hB v2 hfb m0 m1
  have hfin : ∀ w8, Below W7.heap.size W7 w8 → Fr.read l = none → ReadSays l w (.returned (.tuple #[.agg zfc.toArray, .int .i64 40])) (w8.setRow w.heap.size zfc.toArray) :=
    fun w8 h8 hr => ⟨.inr ⟨rfl, hr⟩, below_setRow (hb7.trans (h8.mono hb7.size)) (Nat.le_refl _) _⟩
  rcases Bool.eq_false_or_eq_true (Fr.may (V0 : Int) (V1 : Int) ((V2 : Int) / 16) ((V2 : Int) % 16) k) with hmay | hmay
  case inr =>
    go_wp2_with fail
    refine (fbytes_no V0 V1 ((V2 : Int) / 16) ((V2 : Int) % 16) (n32 M) A6 k c6 _ (by omega) hmay).mono ?_
    rintro e w8 ⟨rfl, hb8⟩
    have HZ8 := Lib.hid (HB7.out.below hb8 HB7.out.lt)
    have Hend := Lib.hid (hfin w8 hb8 (by
      unfold Fr.read
      rw [if_neg]
      rintro ⟨-, -, -, h, -⟩
      rw [← HL.out, Hf.out] at h
      unfold Fr.ok at h
      simp only [Hldl.out, hmay] at h
      cases h))
    clear hfin hb8
    go_wp2_with (refine wpList_store_row rfl _ (.tmp 2) (.tmp 85) rfl w.heap.size zfc.toArray rfl rfl 33 cs.toArray HZ8.out Hi.out Hsz.out.symm Hone.out ?_)
    refine bodyPost_ret (v := .tuple #[.agg zfc.toArray, .int .i64 40]) ?_ rfl Hend.out
    · exact results_cell_tmp_blk (p := 2) (u := 3) rfl _ _ rfl (HZ8.out.row zfc) Try.underlying33 rfl Hi.out
  case inl =>
    go_wp2_with fail
    refine (fbytes_yes ⟨V0, V1, (V2 : Int) / 16, (V2 : Int) % 16, M, ld⟩ A6 k c6 _ HA7.out Hldl.out.symm (by unfold Fr.ok; simp only [Hldl.out]; exact hmay)).mono ?_
    rintro e w8 ⟨v, rfl, hown8, hb8⟩
    obtain ⟨f, hf⟩ : ∃ f : Fr, f = ⟨V0, V1, (V2 : Int) / 16, (V2 : Int) % 16, M, ld⟩ := ⟨_, rfl⟩
    rw [← hf] at hown8
    have Hff := Lib.hid hf
    rw [← hf] at Hf
    have hfok : Hid (f.ok = true) := by rw [hf]; unfold Hid Fr.ok; simp only [Hldl.out]; exact hmay
    have H64 : Hid (f.bytes.length = 64) := by have := hown8.1; rw [bs_length] at this; show f.bytes.length = 64; omega
    obtain ⟨A8, c8, rfl, hc8, -, hA8⟩ := own_at hown8
    have HZ8 := Lib.hid (HB7.out.below hb8 HB7.out.lt)
    have hl8 := HA.out.below (hb7.trans (hb8.mono hb7.size)) (Nat.le_refl _)
    have hA78 := Lib.hid (HA7.out.below hb8 (Nat.le_refl _))
    have cv1 := fun (c : Nat) => convStr w8 A8 64 c f.bytes hA8 H64.out.symm
    have cv2 := fun (c : Nat) => convStr w8 A 64 c l hl8 Hn.out
    have hb08 := hb7.trans (hb8.mono hb7.size)
    clear hown8 hA8 hl8 hf
    by_cases heq : f.bytes = l
    · have ht : ((str f.bytes).toList == (str l).toList) = true := by rw [str_beq]; exact decide_eq_true heq
      have hr : Hid (Fr.read l = some f) := by
        unfold Hid Fr.read
        rw [← HL.out, Hf.out, if_pos]
        refine ⟨Hok.out, Hn.out.symm, ?_, hfok.out, heq⟩
        rw [← Hk.out]; exact k45
      have hZc := HZ8.out
      rw [Hcs.out] at hZc
      obtain ⟨x0, x1, x2, x3, x4, x5⟩ := fc_cells hZc
      clear hfin hb8 hZc heq
      go_wp2_with (refine wpList_store_row rfl _ (.tmp 2) (.tmp 86) rfl w.heap.size cs.toArray rfl (by rw [Hcs.out]; rfl) 33 cs.toArray HZ8.out Hi6.out rfl Hall.out ?_)
      refine bodyPost_ret (v := .tuple #[.agg cs.toArray, .int .i64 0]) ?_ rfl ⟨.inl ⟨f, A6, c6, ?_, hr.out, ?_, ?_, fun a ha => Nat.le_trans (Nat.le_of_lt hZlt) (Hne6.out a ha)⟩, below_setRow hb08 (Nat.le_refl _) _⟩
      · exact results_cell_tmp_blk (p := 2) (u := 3) rfl _ _ rfl (HZ8.out.row cs) Try.underlying33 rfl Hi6.out
      · rw [Hcs.out, Hff.out]
        simp only [Hldl.out]
      · rw [Hff.out]; simp only [Hldl.out]; exact hc6
      · rw [Hff.out]
        exact hA78.out.rowFar (g := w.heap.size) (fun a ha => Nat.ne_of_gt (Nat.lt_of_lt_of_le hZlt (Hne6.out a ha))) cs.toArray
    · have ht : ((str f.bytes).toList == (str l).toList) = false := by rw [str_beq]; exact decide_eq_false heq
      have Hend := Lib.hid (hfin w8 hb8 (by
        unfold Fr.read
        rw [if_neg]
        rintro ⟨-, -, -, -, h⟩
        rw [← HL.out, Hf.out] at h
        exact heq h))
      clear hfin hb8 heq
      go_wp2_with (refine wpList_store_row rfl _ (.tmp 2) (.tmp 85) rfl w.heap.size zfc.toArray rfl rfl 33 cs.toArray HZ8.out Hi.out Hsz.out.symm Hone.out ?_)
      refine bodyPost_ret (v := .tuple #[.agg zfc.toArray, .int .i64 40]) ?_ rfl Hend.out
      · exact results_cell_tmp_blk (p := 2) (u := 3) rfl _ _ rfl (HZ8.out.row zfc) Try.underlying33 rfl Hi.out

theorem fread_any (A : Option Addr) (l : List UInt8) (n c : Nat) (w : World) (hA : At w A (bs l)) (hn : n = l.length) (hc : n ≤ c) (hb : n ≤ 900000) :
    Calls Try.prog 15 #[.slice A n c] w (ReadSays l w) := by
  rcases Bool.eq_false_or_eq_true (Crc.okSealed l) with h | h
  · by_cases h64 : n = 64
    · subst h64
      by_cases h45 : ((l.take 60).getD 10 0).toNat ≤ 45
      · exact fread_full A l c w hA hn hc h h45
      · exact fread_long A l c w hA hn hc h (by omega)
    · exact fread_len A l n c w hA hn hc hb h h64
  · exact fread_unsealed A l n c w hA hn hc hb h

/-- what is sealed of a frame that may be reads as that frame -/
theorem read_bytes (f : Fr) (h : f.ok = true) : Fr.read f.bytes = some f := by
  obtain ⟨h1, h2, h3, h4, h5, h6, h7, h8, h9, h10⟩ := may_parts h
  have hraw := Fr.raw_length f h9
  have h64 : f.bytes.length = 64 := by unfold Fr.bytes Crc.seal_; rw [List.length_append, hraw, Crc.tail4_length]
  have htk : f.bytes.take 60 = f.raw := by unfold Fr.bytes Crc.seal_; rw [List.take_left' hraw]
  have e6 := Pk.le_length f.seq.toNat 6
  have e3 := Pk.le_length f.inc.toNat 3
  have e1 := Pk.le_length (16 * f.part + f.of).toNat 1
  have e1' := Pk.le_length f.load.length 1
  have e4 := Pk.le_length f.mark.toNat 4
  have hx : f.raw = Pk.le f.seq.toNat 6 ++ (Pk.le f.inc.toNat 3 ++ (Pk.le (16 * f.part + f.of).toNat 1 ++ (Pk.le f.load.length 1 ++ (Pk.le f.mark.toNat 4 ++ (f.load ++ List.replicate (45 - f.load.length) 0))))) := by
    unfold Fr.raw Fr.hd; simp only [List.append_assoc]
  have d6 : f.raw.drop 6 = Pk.le f.inc.toNat 3 ++ (Pk.le (16 * f.part + f.of).toNat 1 ++ (Pk.le f.load.length 1 ++ (Pk.le f.mark.toNat 4 ++ (f.load ++ List.replicate (45 - f.load.length) 0)))) := by
    rw [hx, List.drop_left' e6]
  have d9 : f.raw.drop 9 = Pk.le (16 * f.part + f.of).toNat 1 ++ (Pk.le f.load.length 1 ++ (Pk.le f.mark.toNat 4 ++ (f.load ++ List.replicate (45 - f.load.length) 0))) := by
    rw [show 9 = 6 + 3 from rfl, ← List.drop_drop, d6, List.drop_left' e3]
  have d10 : f.raw.drop 10 = Pk.le f.load.length 1 ++ (Pk.le f.mark.toNat 4 ++ (f.load ++ List.replicate (45 - f.load.length) 0)) := by
    rw [show 10 = 9 + 1 from rfl, ← List.drop_drop, d9, List.drop_left' e1]
  have d11 : f.raw.drop 11 = Pk.le f.mark.toNat 4 ++ (f.load ++ List.replicate (45 - f.load.length) 0) := by
    rw [show 11 = 10 + 1 from rfl, ← List.drop_drop, d10, List.drop_left' e1']
  have d15 : f.raw.drop 15 = f.load ++ List.replicate (45 - f.load.length) 0 := by
    rw [show 15 = 11 + 4 from rfl, ← List.drop_drop, d11, List.drop_left' e4]
  have g10 : (f.raw.getD 10 0).toNat = f.load.length := by
    have : f.raw.getD 10 0 = (f.raw.drop 10).getD 0 0 := by simp [List.getD_eq_getElem?_getD]
    rw [this, d10]
    simp [Pk.le, List.getD_eq_getElem?_getD]
    omega
  have hof : Fr.of_ f.raw = f := by
    obtain ⟨s, i, p, o, m, l⟩ := f
    simp only at *
    unfold Fr.of_
    rw [g10, d6, d9, d11, d15, hx, List.take_left' e6, List.take_left' e3, List.take_left' e1, List.take_left' e4, List.take_left' rfl,
      Pk.num_le_fits _ _ (by simp only [Nat.reduceMul, Nat.reducePow]; omega), Pk.num_le_fits _ _ (by simp only [Nat.reduceMul, Nat.reducePow]; omega), Pk.num_le_fits _ _ (by simp only [Nat.reduceMul, Nat.reducePow]; omega), Pk.num_le_fits _ _ (by have := m.isLt; simpa using this)]
    congr 1
    · omega
    · omega
    · omega
    · omega
    · simp
  unfold Fr.read
  rw [htk, hof, if_pos]
  exact ⟨Crc.okSealed_seal _, h64, by rw [g10]; exact h9, h, rfl⟩

theorem read_some {l : List UInt8} {f : Fr} (h : Fr.read l = some f) : f.ok = true ∧ f.bytes = l ∧ Crc.okSealed l = true := by
  unfold Fr.read at h
  split at h
  · rename_i h1
    cases h
    exact ⟨h1.2.2.2.1, h1.2.2.2.2, h1.1⟩
  · cases h
end Go.Proofs.Ytcaejcdmkihmbaa
