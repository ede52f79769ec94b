/- Package disk: what a disk in memory is; sector, New, up. -/
import Derived.Test.YtdinhcgkkoceiaaProg
import Derived.Test.YtdinhcgkkoceiaaMapV
import Derived.Test.YtdinhcgkkoceiaaRegion
import Derived.Test.YtdinhcgkkoceiaaRowsAid
import Derived.Laws.CopyOwn
namespace Go.Proofs.Ytdinhcgkkoceiaa
open Go.RowKit

/-- w' is w but for the blocks of G, and for new ones -/
structure Chg (G : Nat → Prop) (w w' : World) : Prop where
  os : w'.os = w.os
  tape : w'.tape = w.tape
  output : w'.output = w.output
  size : w.heap.size ≤ w'.heap.size
  block : ∀ g, g < w.heap.size → ¬ G g → w'.heap[g]? = w.heap[g]?

section
variable {G G' : Nat → Prop} {w w1 w2 w' : World}
theorem Chg.refl (G : Nat → Prop) (w : World) : Chg G w w := ⟨rfl, rfl, rfl, Nat.le_refl _, fun _ _ _ => rfl⟩
theorem Chg.of_below (h : Below w.heap.size w w') : Chg G w w' := ⟨h.os, h.tape, h.output, h.size, fun g hg _ => h.block g hg⟩
theorem Chg.of_grown {b : Nat} (h : w.grownBy w' (some b)) (hb : G b) : Chg G w w' :=
  ⟨h.os, h.tape, h.output, h.size, fun g hg hn => h.block g hg (fun e => by cases e; exact hn hb)⟩
theorem Chg.setCell (w : World) {a : Addr} (ha : G a.block) (u : Value) : Chg G w (w.setCell a u) := by
  have h : Below 0 w (w.setCell a u) := (Below.refl 0 w).setCell (Nat.zero_le _) u
  exact ⟨h.os, h.tape, h.output, h.size, fun g _ hn => Below.heap_setCell w a u g (fun e => hn (e ▸ ha))⟩
theorem Chg.trans (h : Chg G w w1) (k : Chg G' w1 w2) (hG : ∀ g, G' g → G g ∨ w.heap.size ≤ g) : Chg G w w2 :=
  ⟨k.os.trans h.os, k.tape.trans h.tape, k.output.trans h.output, Nat.le_trans h.size k.size, fun g hg hn =>
    (k.block g (Nat.lt_of_lt_of_le hg h.size) (fun hg' => by rcases hG g hg' with h1 | h1; exact hn h1; omega)).trans (h.block g hg hn)⟩
theorem Chg.mono (h : Chg G w w') (hG : ∀ g, G g → G' g) : Chg G' w w' := ⟨h.os, h.tape, h.output, h.size, fun g hg hn => h.block g hg (fun e => hn (hG g e))⟩
theorem Chg.below {B : Nat} (h : Chg G w w') (hG : ∀ g, G g → B ≤ g) (hB : B ≤ w.heap.size) : Below B w w' :=
  ⟨h.os, h.tape, h.output, h.size, fun g hg => h.block g (by omega) (fun e => by have := hG g e; omega)⟩
theorem Chg.drew (h : Chg G w w') : Chg G w w'.drew := ⟨h.os, h.tape, h.output, h.size, h.block⟩

theorem At.chg {A : Option Addr} {xs : List Value} (h : At w A xs) (hc : Chg G w w') (hne : ∀ a, A = some a → 0 < xs.length → ¬ G a.block) : At w' A xs := fun hn => by
  obtain ⟨b, off, e, hlt, hcl⟩ := h.all hn
  exact ⟨b, off, e, fun j u hu => (World.cell?_of_block (w := w) (hc.block b hlt (hne _ e hn))).trans (hcl j u hu)⟩
theorem own_chg {base n size : Nat} {e : TypeId} {v : Value} {xs : List Value} (h : w.ownsRow base e size v n xs) (hc : Chg G w w') (hne : ∀ g, v.ownBlock = some g → ¬ G g) : w'.ownsRow base e size v n xs := by
  refine ⟨h.1, ?_⟩
  rcases h.2 with h2 | ⟨g, cap, cur, hv, hg, hh, r⟩
  · exact .inl h2
  · refine .inr ⟨g, cap, cur, hv, hg, ?_, r⟩
    rw [hc.block g (lt_of_block hh) (hne g (by rw [hv]; rfl))]
    exact hh
theorem Blk.chg {g : Nat} {t : TypeId} {cs : List Value} (h : Blk w g t cs) (hc : Chg G w w') (hg : ¬ G g) : Blk w' g t cs := (hc.block g h.lt hg).trans h
theorem VM.chg {P : Program} {k : TypeId} {b q : Nat} {f : Int → Option Value} (h : VM P k w b q f) (hc : Chg G w w') (hg : ¬ G b) : VM P k w' b q f := h.block (hc.block b h.lt hg)
end

/-- bytes, and zeros behind them: a sector -/
def pad (l : List UInt8) : List UInt8 := l ++ List.replicate (64 - l.length) 0
theorem pad_length {l : List UInt8} (h : l.length ≤ 64) : (pad l).length = 64 := by simp [pad]; omega
theorem pad_full {l : List UInt8} (h : l.length = 64) : pad l = l := by simp [pad, h]
def zsec : List UInt8 := List.replicate 64 0
theorem pad_nil : pad [] = zsec := rfl

abbrev nilS : Value := .slice none 0 0
/-- a slice's value that reads as l, of a block that is none of F -/
def SV (w : World) (F : Nat → Prop) (v : Value) (l : List UInt8) : Prop :=
  ∃ A c, v = .slice A l.length c ∧ l.length ≤ c ∧ c ≤ 1000000 ∧ At w A (bs l) ∧ ∀ a, A = some a → 0 < l.length → ¬ F a.block
theorem SV.nil (w : World) (F : Nat → Prop) : SV w F nilS [] := ⟨none, 0, rfl, Nat.le_refl _, Nat.zero_le _, At.nil, fun a h => by cases h⟩
theorem SV.chg {w w' : World} {F F' G : Nat → Prop} {v : Value} {l : List UInt8} (h : SV w F v l) (hc : Chg G w w') (hG : ∀ g, G g → F g ∨ w.heap.size ≤ g) (hF : ∀ g, F' g → F g ∨ w.heap.size ≤ g) : SV w' F' v l := by
  obtain ⟨A, c, hv, hl, hm, hA, hn⟩ := h
  have hlt : ∀ a, A = some a → 0 < l.length → a.block < w.heap.size := by
    intro a ha h0
    obtain ⟨b, off, e, hb, _⟩ := hA.all (by rw [bs_length]; exact h0)
    rw [ha] at e
    cases e
    exact hb
  refine ⟨A, c, hv, hl, hm, hA.chg hc (fun a ha h0 hg => ?_), fun a ha h0 hf => ?_⟩
  · rw [bs_length] at h0
    rcases hG _ hg with h1 | h1
    · exact hn a ha h0 h1
    · have := hlt a ha h0; omega
  · rcases hF _ hf with h1 | h1
    · exact hn a ha h0 h1
    · have := hlt a ha h0; omega

/-- a row of sectors' slices -/
def Rw (w : World) (F : Nat → Prop) (v : Value) (ls : List (List UInt8)) : Prop :=
  ∃ xs : List Value, w.ownsRow 0 27 1 v ls.length xs ∧ ∀ (j : Nat) u l, xs[j]? = some u → ls[j]? = some l → SV w F u l ∧ l.length = 64
theorem Rw.chg {w w' : World} {F F' G : Nat → Prop} {v : Value} {ls : List (List UInt8)} (h : Rw w F v ls) (hc : Chg G w w') (hG : ∀ g, G g → F g ∨ w.heap.size ≤ g) (hF : ∀ g, F' g → F g ∨ w.heap.size ≤ g) (hne : ∀ g, v.ownBlock = some g → ¬ G g) : Rw w' F' v ls := by
  obtain ⟨xs, h1, h2⟩ := h
  exact ⟨xs, own_chg h1 hc hne, fun j u l hu hl => ⟨(h2 j u l hu hl).1.chg hc hG hF, (h2 j u l hu hl).2⟩⟩

/-- a disk's cells -/
abbrev dkc (ms mc n : Nat) (dn : Bool) : List Value := [.map (some ms), .map (some mc), .int .i64 (n : Int), .bool dn]

/-- a disk in memory -/
structure DkIn (w : World) (p : Nat) (F : Nat → Prop) (q : Nat) (S : Nat → List UInt8) (C : Nat → List (List UInt8)) (n : Nat) (dn : Bool) (ms mc : Nat) (fS fC : Int → Option Value) (qS qC : Nat) : Prop where
  blk : Blk w p 46 (dkc ms mc n dn)
  sure : VM Try.prog 3 w ms qS fS
  cache : VM Try.prog 3 w mc qC fC
  qs : qS + qC ≤ q
  ne : ms ≠ mc
  fp : F p
  fs : F ms
  fc : F mc
  fl : ∀ g, F g → g < w.heap.size
  ks : ∀ i v, fS i = some v → 0 ≤ i ∧ i < 34
  kc : ∀ i v, fC i = some v → 0 ≤ i ∧ i < 34
  sv : ∀ i : Nat, i < 34 → ∃ l, SV w F ((fS (i : Int)).getD nilS) l ∧ l.length ≤ 64 ∧ S i = pad l
  c0 : ∀ i : Nat, i < 34 → fC (i : Int) = none → C i = []
  cr : ∀ (i : Nat) v, fC (i : Int) = some v → Rw w F v (C i) ∧ C i ≠ [] ∧ ∃ g, v.ownBlock = some g ∧ F g ∧ g ≠ p ∧ g ≠ ms ∧ g ≠ mc
  cd : ∀ (i j : Nat) u v, i ≠ j → fC (i : Int) = some u → fC (j : Int) = some v → u.ownBlock ≠ v.ownBlock

def Dk (w : World) (p : Nat) (F : Nat → Prop) (q : Nat) (S : Nat → List UInt8) (C : Nat → List (List UInt8)) (n : Nat) (dn : Bool) : Prop := ∃ ms mc fS fC qS qC, DkIn w p F q S C n dn ms mc fS fC qS qC

section
variable {w w' : World} {p : Nat} {F G : Nat → Prop} {q : Nat} {S : Nat → List UInt8} {C : Nat → List (List UInt8)} {n : Nat} {dn : Bool} {ms mc : Nat} {fS fC : Int → Option Value} {qS qC : Nat}
theorem DkIn.pms (h : DkIn w p F q S C n dn ms mc fS fC qS qC) : p ≠ ms := by
  intro e
  obtain ⟨es, c, hb⟩ := h.sure.isMap
  have := h.blk
  unfold Blk at this
  rw [e, hb] at this
  cases this
theorem DkIn.pmc (h : DkIn w p F q S C n dn ms mc fS fC qS qC) : p ≠ mc := by
  intro e
  obtain ⟨es, c, hb⟩ := h.cache.isMap
  have := h.blk
  unfold Blk at this
  rw [e, hb] at this
  cases this
/-- a disk stays what it is where none of its blocks, and none of its sectors' is touched -/
theorem DkIn.keep (h : DkIn w p F q S C n dn ms mc fS fC qS qC) (hb : Below w.heap.size w w') : DkIn w' p F q S C n dn ms mc fS fC qS qC := by
  have hc : Chg (fun _ => False) w w' := Chg.of_below hb
  exact { blk := h.blk.chg hc id, sure := h.sure.chg hc id, cache := h.cache.chg hc id, qs := h.qs, ne := h.ne, fp := h.fp, fs := h.fs, fc := h.fc,
          fl := fun g hg => Nat.lt_of_lt_of_le (h.fl g hg) hb.size, ks := h.ks, kc := h.kc,
          sv := fun i hi => by obtain ⟨l, h1, h2⟩ := h.sv i hi; exact ⟨l, h1.chg hc (fun g hg => hg.elim) (fun g hg => .inl hg), h2⟩,
          c0 := h.c0, cr := fun i v hv => ⟨(h.cr i v hv).1.chg hc (fun g hg => hg.elim) (fun g hg => .inl hg) (fun g _ hg => hg), (h.cr i v hv).2⟩, cd := h.cd }
theorem Dk.keep (h : Dk w p F q S C n dn) (hb : Below w.heap.size w w') : Dk w' p F q S C n dn := by
  obtain ⟨ms, mc, fS, fC, qS, qC, h⟩ := h
  exact ⟨ms, mc, fS, fC, qS, qC, h.keep hb⟩
theorem Dk.fl (h : Dk w p F q S C n dn) : ∀ g, F g → g < w.heap.size := by
  obtain ⟨ms, mc, fS, fC, qS, qC, h⟩ := h
  exact h.fl
theorem Dk.blk (h : Dk w p F q S C n dn) : ∃ ms mc, Blk w p 46 (dkc ms mc n dn) := by
  obtain ⟨ms, mc, fS, fC, qS, qC, h⟩ := h
  exact ⟨ms, mc, h.blk⟩
theorem Dk.mono (h : Dk w p F q S C n dn) {q' : Nat} (hq : q ≤ q') : Dk w p F q' S C n dn := by
  obtain ⟨ms, mc, fS, fC, qS, qC, h⟩ := h
  exact ⟨ms, mc, fS, fC, qS, qC, { h with qs := Nat.le_trans h.qs hq }⟩
end

theorem bytesTyD : SliceTy Try.prog 27 5 1 1 := SliceTy.mk' (z := .int .u8 0) Try.underlying27 (by kernel_rfl) rfl (by decide)
theorem rowsTyD : SliceTy Try.prog 52 27 1 24 := SliceTy.mk' (z := .slice none 0 0) Try.underlying52 (by kernel_rfl) rfl (by decide)

theorem splice_pad (l : List UInt8) : splice (zrow 64) 0 (bs l) = bs (pad l) := by
  unfold splice pad
  rw [bs_append, List.take_zero, List.nil_append, Nat.zero_add, bs_length]
  congr 1
  unfold zrow bs
  rw [List.drop_replicate, List.map_replicate]
  rfl

set_option maxRecDepth 100000 in
set_option maxHeartbeats 1000000 in
theorem sector_any (A : Option Addr) (l : List UInt8) (n c : Nat) (w : World) (hA : At w A (bs l)) (hn : n = l.length) (hl : l.length ≤ 64) :
    Calls Try.prog 18 #[.slice A n c] w fun e w' => e = .returned (.slice (some ⟨w.heap.size, 0, none⟩) 64 64) ∧ Blk w' w.heap.size 5 (bs (pad l)) ∧ Below w.heap.size w w' := by
  have HA : Hid (At w A (bs l)) := hA
  have Hn := Lib.hid hn
  have Hl := Lib.hid hl
  have Hv0 := Lib.hid (zero_is (P := Try.prog) (e := 5) (size := 1) (v := .int .u8 0) (z := .int .u8 0) (by kernel_rfl) rfl)
  have Hs1 := Lib.hid (show (Try.prog.info? 5).map (·.size) = some 1 by kernel_rfl)
  have HB := Lib.hid (Blk.new w 5 (zrow 64))
  have hb1 : Below w.heap.size w (w.alloc (.cells (zrow 64).toArray 5)) := (Below.refl _ _).alloc (Nat.le_refl _) _
  have HA1 := Lib.hid (HA.out.alloc (.cells (zrow 64).toArray 5))
  have Hmin := Lib.hid (show (bs l).length = Nat.min n 64 by rw [bs_length, ← hn]; exact (Nat.min_eq_left (by omega)).symm)
  clear hA hn hl
  go_enter Try.func18, Try.ntmps18
  go_wp2_with (first
    | (refine wpList_make rfl (.const (.int .i64 64)) (.const (.int .i64 64)) bytesTyD rfl (.int .u8 0) Hv0.out _ _ 64 64 rfl rfl rfl rfl (Nat.le_refl _) (by decide) (by decide) (zrow 64) rfl ?_)
    | (refine wpList_copy rfl (.tmp 5) (.tmp 6) rfl Try.underlying27 Hs1.out w.heap.size 0 64 64 A n c rfl rfl _ _ HB.out (bs l) HA1.out Hmin.out (by rw [bs_length, zrow_length]; have := Hl.out; omega) (one_bs _) ?_))
  go_ret
  have h2 := HB.out.row (splice (zrow 64) 0 (bs l))
  rw [splice_pad l] at h2 ⊢
  exact ⟨rfl, h2, below_setRow hb1 (Nat.le_refl _) _⟩

set_option maxRecDepth 100000 in
set_option maxHeartbeats 1000000 in
theorem up_ok (p ms mc n : Nat) (i : Int) (w : World) (hB : Blk w p 46 (dkc ms mc n false)) (h1 : 0 ≤ i) (h2 : i < 34) :
    Calls Try.prog 19 #[.pointer (some ⟨p, 0, none⟩), .int .i64 i] w fun e w' => e = .returned (.int .i64 0) ∧ w = w' := by
  have c3 : w.cell? ⟨p, 3, none⟩ = some (.bool false) := hB.cell 3
  go_enter Try.func19, Try.ntmps19
  go_wp2_with fail
  go_ret
  exact ⟨rfl, rfl⟩

set_option maxRecDepth 100000 in
set_option maxHeartbeats 1000000 in
theorem up_arg (p ms mc n : Nat) (i : Int) (w : World) (hB : Blk w p 46 (dkc ms mc n false)) (h : ¬ (0 ≤ i ∧ i < 34)) :
    Calls Try.prog 19 #[.pointer (some ⟨p, 0, none⟩), .int .i64 i] w fun e w' => e = .returned (.int .i64 2) ∧ w = w' := by
  have c3 : w.cell? ⟨p, 3, none⟩ = some (.bool false) := hB.cell 3
  by_cases h1 : 0 ≤ i
  · have h2 : ¬ i < 34 := fun h2 => h ⟨h1, h2⟩
    clear h
    go_enter Try.func19, Try.ntmps19
    go_wp2_with fail
    go_ret
    exact ⟨rfl, rfl⟩
  · clear h
    go_enter Try.func19, Try.ntmps19
    go_wp2_with fail
    go_ret
    exact ⟨rfl, rfl⟩

set_option maxRecDepth 100000 in
set_option maxHeartbeats 1000000 in
theorem up_down (p ms mc n : Nat) (i : Int) (w : World) (hB : Blk w p 46 (dkc ms mc n true)) :
    Calls Try.prog 19 #[.pointer (some ⟨p, 0, none⟩), .int .i64 i] w fun e w' => e = .returned (.int .i64 30) ∧ w = w' := by
  have c3 : w.cell? ⟨p, 3, none⟩ = some (.bool true) := hB.cell 3
  go_enter Try.func19, Try.ntmps19
  go_wp2_with fail
  go_ret
  exact ⟨rfl, rfl⟩

set_option maxRecDepth 100000 in
set_option maxHeartbeats 1000000 in
theorem up_nil (i : Int) (w : World) :
    Calls Try.prog 19 #[.pointer none, .int .i64 i] w fun e w' => e = .returned (.int .i64 1) ∧ w = w' := by
  go_enter Try.func19, Try.ntmps19
  go_wp2_with fail
  go_ret
  exact ⟨rfl, rfl⟩

set_option maxRecDepth 100000 in
set_option maxHeartbeats 1000000 in
theorem dnew_any (w : World) : Calls Try.prog 8 #[] w fun e w' => ∃ p F, e = .returned (.pointer (some ⟨p, 0, none⟩)) ∧ Dk w' p F 0 (fun _ => zsec) (fun _ => []) 0 false ∧ (∀ g, F g → w.heap.size ≤ g) ∧ Below w.heap.size w w' := by
  have hmm := @run_makeMap Try.prog
  have bl := fun (w : World) (x y : Nat) => run_build (P := Try.prog) w 46 #[(0, .map (some x)), (1, .map (some y))] (dkc x y 0 false).toArray (by kernel_rfl)
  go_enter Try.func8, Try.ntmps8
  go_wp2_with fail
  go_ret
  have hM0 : VM Try.prog 3 (((w.alloc (.map #[] 0)).alloc (.map #[] 0)).alloc (.cells (dkc w.heap.size (w.heap.size + 1) 0 false).toArray 46)) w.heap.size 0 (fun _ => none) :=
    (VM.made w Try.prog 3).block (by rw [Below.heap_alloc _ _ _ (by simp; omega), Below.heap_alloc _ _ _ (by simp)])
  have hM1 : VM Try.prog 3 (((w.alloc (.map #[] 0)).alloc (.map #[] 0)).alloc (.cells (dkc w.heap.size (w.heap.size + 1) 0 false).toArray 46)) (w.heap.size + 1) 0 (fun _ => none) := by
    have := VM.made (w.alloc (.map #[] 0)) Try.prog 3
    rw [World.size_alloc] at this
    exact this.block (by rw [Below.heap_alloc _ _ _ (by simp)])
  have hB : Blk (((w.alloc (.map #[] 0)).alloc (.map #[] 0)).alloc (.cells (dkc w.heap.size (w.heap.size + 1) 0 false).toArray 46)) (w.heap.size + 1 + 1) 46 (dkc w.heap.size (w.heap.size + 1) 0 false) := by
    have := Blk.new ((w.alloc (.map #[] 0)).alloc (.map #[] 0)) 46 (dkc w.heap.size (w.heap.size + 1) 0 false)
    rw [World.size_alloc, World.size_alloc] at this
    exact this
  refine ⟨w.heap.size + 1 + 1, fun g => w.heap.size ≤ g ∧ g < w.heap.size + 3, rfl, ⟨w.heap.size, w.heap.size + 1, fun _ => none, fun _ => none, 0, 0, ?_⟩, fun g hg => hg.1, (((Below.refl _ _).alloc (Nat.le_refl _) _).alloc (by simp) _).alloc (by simp; omega) _⟩
  exact { blk := hB, sure := hM0, cache := hM1, qs := Nat.le_refl _, ne := by omega, fp := by omega, fs := by omega, fc := by omega, fl := fun g hg => by simp; omega,
          ks := fun i v h => (by cases h), kc := fun i v h => (by cases h), sv := fun i _ => ⟨[], SV.nil _ _, by decide, rfl⟩, c0 := fun i _ _ => rfl, cr := fun i v h => (by cases h), cd := fun i j u v _ h => (by cases h) }
end Go.Proofs.Ytdinhcgkkoceiaa
