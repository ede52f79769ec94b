/- The walks of package disk: Write refused, Read, Down, Writes, Up. -/
import Derived.Test.YtdinhcgkkoceiaaDiskW
namespace Go.Proofs.Ytdinhcgkkoceiaa
open Go.RowKit

set_option maxRecDepth 100000 in
set_option maxHeartbeats 1000000 in
theorem dwrite_nil (i : Int) (A : Option Addr) (n c : Nat) (w : World) :
    Calls Try.prog 12 #[.pointer none, .int .i64 i, .slice A n c] w fun e w' => e = .returned (.int .i64 1) ∧ w = w' := by
  go_enter Try.func12, Try.ntmps12
  go_wp2_with fail
  refine (up_nil i _).mono ?_
  rintro e w' ⟨rfl, rfl⟩
  go_wp2_with fail
  go_ret
  exact ⟨rfl, rfl⟩

set_option maxRecDepth 100000 in
set_option maxHeartbeats 1000000 in
theorem dwrite_no (p ms mc k : Nat) (dn : Bool) (i : Int) (A : Option Addr) (n c : Nat) (w : World) (hB : Blk w p 46 (dkc ms mc k dn)) (h : dn = true ∨ ¬ (0 ≤ i ∧ i < 34) ∨ 64 < n) :
    Calls Try.prog 12 #[.pointer (some ⟨p, 0, none⟩), .int .i64 i, .slice A n c] w fun e w' => ∃ x : Int, e = .returned (.int .i64 x) ∧ x ≠ 0 ∧ w = w' := by
  have HB := Lib.hid hB
  cases dn with
  | true =>
    clear hB h
    go_enter Try.func12, Try.ntmps12
    go_wp2_with fail
    refine (up_down p ms mc k i _ HB.out).mono ?_
    rintro e w' ⟨rfl, rfl⟩
    go_wp2_with fail
    go_ret
    exact ⟨30, rfl, by decide, rfl⟩
  | false =>
    by_cases hi : 0 ≤ i ∧ i < 34
    · have hn : (64 : Int) < (n : Int) := by
        rcases h with h | h | h
        · cases h
        · exact absurd hi h
        · omega
      obtain ⟨h1, h2⟩ := hi
      clear hB h
      go_enter Try.func12, Try.ntmps12
      go_wp2_with fail
      refine (up_ok p ms mc k i _ HB.out h1 h2).mono ?_
      rintro e w' ⟨rfl, rfl⟩
      go_wp2_with fail
      go_ret
      exact ⟨2, rfl, by decide, rfl⟩
    · have HI := Lib.hid hi
      clear hB h hi
      go_enter Try.func12, Try.ntmps12
      go_wp2_with fail
      refine (up_arg p ms mc k i _ HB.out HI.out).mono ?_
      rintro e w' ⟨rfl, rfl⟩
      go_wp2_with fail
      go_ret
      exact ⟨2, rfl, by decide, rfl⟩

/-- what stands in a sector now -/
def cur (S : Nat → List UInt8) (C : Nat → List (List UInt8)) (i : Nat) : List UInt8 := (C i).getLastD (S i)

set_option maxRecDepth 100000 in
set_option maxHeartbeats 1000000 in
theorem dread_nil (i : Int) (w : World) :
    Calls Try.prog 13 #[.pointer none, .int .i64 i] w fun e w' => e = .returned (.tuple #[.slice none 0 0, .int .i64 1]) ∧ w = w' := by
  go_enter Try.func13, Try.ntmps13
  go_wp2_with fail
  refine (up_nil i _).mono ?_
  rintro e w' ⟨rfl, rfl⟩
  go_wp2_with fail
  go_ret2
  exact ⟨rfl, rfl⟩

set_option maxRecDepth 100000 in
set_option maxHeartbeats 2000000 in
theorem dread_ok (p : Nat) (F : Nat → Prop) (q : Nat) (S : Nat → List UInt8) (C : Nat → List (List UInt8)) (k : Nat) (i : Nat) (hi : i < 34) (w : World)
    (hD : Dk w p F q S C k false) (hC : (C i).length < 1000000) :
    Calls Try.prog 13 #[.pointer (some ⟨p, 0, none⟩), .int .i64 i] w fun e w' => ∃ g, e = .returned (.tuple #[.slice (some ⟨g, 0, none⟩) 64 64, .int .i64 0]) ∧ Blk w' g 5 (bs (cur S C i)) ∧ w.heap.size ≤ g ∧ (cur S C i).length = 64 ∧ Below w.heap.size w w' := by
  obtain ⟨ms, mc, fS, fC, qS, qC, h⟩ := hD
  obtain ⟨xs, hrow, hxs, hvb⟩ := h.row i hi
  obtain ⟨l0, hsv, hl0, hS0⟩ := h.sv i hi
  have hwI : (kI (i : Int)).wf = true := wfI (by omega) (by omega)
  have hz : ∀ w', (zeroValue 52).run Try.prog w' = .ok nilS w' := fun w' => by kernel_rfl
  have hz' : ∀ w', (zeroValue 27).run Try.prog w' = .ok nilS w' := fun w' => by kernel_rfl
  have hlk := h.cache.look Try.underlying3 Try.underlying44 (hz w) hwI
  have hls := h.sure.look Try.underlying3 Try.underlying43 (hz' w) hwI
  have c0 : w.cell? ⟨p, 0, none⟩ = some (.map (some ms)) := h.blk.cell 0
  have c1 : w.cell? ⟨p, 1, none⟩ = some (.map (some mc)) := h.blk.cell 1
  have HB := Lib.hid h.blk
  have h0 : (0 : Int) ≤ (i : Int) := by omega
  have h34 : (i : Int) < 34 := by omega
  cases hf : fC (i : Int) with
  | none =>
    have hCi := h.c0 i hi hf
    obtain ⟨A, c, hv, hlc, hcm, hA, -⟩ := hsv
    rw [hf] at hlk
    rw [hv] at hls
    simp only [Option.getD_none] at hlk
    have hcur : cur S C i = pad l0 := by unfold cur; rw [hCi, hS0]; rfl
    rw [hcur]
    have HA := Lib.hid hA
    have Hl0 := Lib.hid hl0
    clear h hrow hxs hvb hS0 hwI hz hz' hf hCi hv hA hcur hC hl0
    go_enter Try.func13, Try.ntmps13
    go_wp2_with fail
    refine (up_ok p ms mc k i _ HB.out h0 h34).mono ?_
    rintro e w' ⟨rfl, rfl⟩
    go_wp2_with fail
    refine (sector_any A l0 _ c _ HA.out rfl Hl0.out).mono ?_
    rintro e w1 ⟨rfl, hB1, hb1⟩
    have HB1 := Lib.hid hB1
    clear hlk hls c0 c1 hB1
    go_wp2_with fail
    go_ret2
    exact ⟨_, rfl, HB1.out, Nat.le_refl _, pad_length Hl0.out, hb1⟩
  | some v =>
    obtain ⟨hRw, hne, _⟩ := h.cr i v hf
    rw [hf] at hlk hrow
    simp only [Option.getD_some] at hlk hrow
    have hm0 : 0 < (C i).length := by
      cases hc : C i with
      | nil => exact absurd hc hne
      | cons a b => simp
    obtain ⟨g, c, rfl, hmc, -, -, hAx⟩ := own_shape hrow hm0
    have hxl : xs.length = (C i).length := by have := hrow.1; omega
    obtain ⟨m, hm⟩ : ∃ m, m = (C i).length := ⟨_, rfl⟩
    rw [← hm] at hlk hxl hm0 hmc hC
    obtain ⟨u, hu⟩ : ∃ u, xs[m - 1]? = some u := ⟨_, List.getElem?_eq_getElem (by omega)⟩
    obtain ⟨l1, hl1⟩ : ∃ l1, (C i)[m - 1]? = some l1 := ⟨_, List.getElem?_eq_getElem (by omega)⟩
    obtain ⟨⟨A, cA, hv, hlc, hcm, hA, -⟩, h64⟩ := hxs (m - 1) u l1 hu hl1
    obtain ⟨b', o', e', hlt, hcl⟩ := hAx.all (by omega)
    cases e'
    have hcu : w.cell? ⟨g, m - 1, none⟩ = some (.slice A l1.length cA) := by have := hcl (m - 1) u hu; rw [hv] at this; simpa using this
    have hcur : cur S C i = pad l1 := by
      rw [pad_full h64]
      unfold cur
      rw [List.getLastD_eq_getLast?, List.getLast?_eq_getElem?, ← hm, hl1]
      rfl
    rw [hcur]
    have HA := Lib.hid hA
    have Hl1 := Lib.hid (show l1.length ≤ 64 by omega)
    have w1' : IntKind.i64.wrap ((m : Int) - 1) = (m : Int) - 1 := IntWalk.i64_in _ (by omega)
    have w2' : ((m : Int) - 1).toNat = m - 1 := by omega
    have w3' : (0 : Int) ≤ (m : Int) - 1 := by omega
    have w4' : (m : Int) - 1 < (m : Int) := by omega
    have w5' : (0 : Int) < (m : Int) := by omega
    clear h hrow hxs hvb hS0 hwI hz hz' hf hA hcur hC hl0 hls hsv hRw hne hm hxl hu hl1 hcl hAx hv h64 c0
    go_enter Try.func13, Try.ntmps13
    go_wp2_with fail
    refine (up_ok p ms mc k i _ HB.out h0 h34).mono ?_
    rintro e w' ⟨rfl, rfl⟩
    go_wp2_with fail
    refine (sector_any A l1 _ cA _ HA.out rfl Hl1.out).mono ?_
    rintro e w1 ⟨rfl, hB1, hb1⟩
    have HB1 := Lib.hid hB1
    clear hlk c1 hB1 hcu
    go_wp2_with fail
    go_ret2
    exact ⟨_, rfl, HB1.out, Nat.le_refl _, pad_length Hl1.out, hb1⟩

set_option maxRecDepth 100000 in
set_option maxHeartbeats 1000000 in
theorem ddown_any (p ms mc k : Nat) (dn : Bool) (w : World) (hB : Blk w p 46 (dkc ms mc k dn)) :
    Calls Try.prog 17 #[.pointer (some ⟨p, 0, none⟩)] w fun e w' => e = .returned (.bool dn) ∧ w = w' := by
  have c3 : w.cell? ⟨p, 3, none⟩ = some (.bool dn) := hB.cell 3
  clear hB
  go_enter Try.func17, Try.ntmps17
  go_wp2_with fail
  go_ret
  exact ⟨rfl, rfl⟩

set_option maxRecDepth 100000 in
set_option maxHeartbeats 1000000 in
theorem ddown_nil (w : World) : Calls Try.prog 17 #[.pointer none] w fun e w' => e = .returned (.bool true) ∧ w = w' := by
  go_enter Try.func17, Try.ntmps17
  go_wp2_with fail
  go_ret
  exact ⟨rfl, rfl⟩

set_option maxRecDepth 100000 in
set_option maxHeartbeats 1000000 in
theorem dwrites_any (p ms mc k : Nat) (dn : Bool) (w : World) (hB : Blk w p 46 (dkc ms mc k dn)) :
    Calls Try.prog 11 #[.pointer (some ⟨p, 0, none⟩)] w fun e w' => e = .returned (.int .i64 k) ∧ w = w' := by
  have c2 : w.cell? ⟨p, 2, none⟩ = some (.int .i64 (k : Int)) := hB.cell 2
  clear hB
  go_enter Try.func11, Try.ntmps11
  go_wp2_with fail
  go_ret
  exact ⟨rfl, rfl⟩

set_option maxRecDepth 100000 in
set_option maxHeartbeats 1000000 in
theorem dwrites_nil (w : World) : Calls Try.prog 11 #[.pointer none] w fun e w' => e = .returned (.int .i64 0) ∧ w = w' := by
  go_enter Try.func11, Try.ntmps11
  go_wp2_with fail
  go_ret
  exact ⟨rfl, rfl⟩

set_option maxRecDepth 100000 in
set_option maxHeartbeats 1000000 in
theorem dup_nil (w : World) : Calls Try.prog 16 #[.pointer none] w fun e w' => e = .returned (.int .i64 1) ∧ w = w' := by
  go_enter Try.func16, Try.ntmps16
  go_wp2_with fail
  go_ret
  exact ⟨rfl, rfl⟩

theorem Dk.cell3 {w : World} {p : Nat} {F : Nat → Prop} {q : Nat} {S : Nat → List UInt8} {C : Nat → List (List UInt8)} {n : Nat} {dn : Bool} (h : Dk w p F q S C n dn) (dn' : Bool) :
    Dk (w.setCell ⟨p, 3, none⟩ (.bool dn')) p F q S C n dn' ∧ Chg F w (w.setCell ⟨p, 3, none⟩ (.bool dn')) := by
  obtain ⟨ms, mc, fS, fC, qS, qC, h⟩ := h
  have hc : Chg (fun g => g = p) w (w.setCell ⟨p, 3, none⟩ (.bool dn')) := Chg.setCell (G := fun g => g = p) w (a := ⟨p, 3, none⟩) rfl _
  have hGF : ∀ g, g = p → F g ∨ w.heap.size ≤ g := fun g hg => .inl (hg ▸ h.fp)
  refine ⟨⟨ms, mc, fS, fC, qS, qC, ?_⟩, hc.mono (fun g hg => hg ▸ h.fp)⟩
  exact { blk := h.blk.set_ 3 _, sure := h.sure.chg hc (fun e => h.pms e.symm), cache := h.cache.chg hc (fun e => h.pmc e.symm), qs := h.qs, ne := h.ne, fp := h.fp, fs := h.fs, fc := h.fc,
          fl := fun g hg => Nat.lt_of_lt_of_le (h.fl g hg) hc.size, ks := h.ks, kc := h.kc,
          sv := fun i hi => by obtain ⟨l, h1, h2⟩ := h.sv i hi; exact ⟨l, h1.chg hc hGF (fun g hg => .inl hg), h2⟩,
          c0 := h.c0, cr := fun i v hv => by
            obtain ⟨a1, a2, g, a3, a4, a5⟩ := h.cr i v hv
            exact ⟨a1.chg hc hGF (fun g hg => .inl hg) (fun g' hg' e => by rw [a3] at hg'; cases hg'; exact a5.1 e), a2, g, a3, a4, a5⟩,
          cd := h.cd }

set_option maxRecDepth 100000 in
set_option maxHeartbeats 1000000 in
theorem dup_ok (p : Nat) (F : Nat → Prop) (q : Nat) (S : Nat → List UInt8) (C : Nat → List (List UInt8)) (k : Nat) (w : World) (hD : Dk w p F q S C k true) :
    Calls Try.prog 16 #[.pointer (some ⟨p, 0, none⟩)] w fun e w' => e = .returned (.int .i64 0) ∧ Dk w' p F q S C k false ∧ Chg F w w' := by
  have HD := Lib.hid hD
  obtain ⟨ms, mc, hB⟩ := hD.blk
  have c3 : w.cell? ⟨p, 3, none⟩ = some (.bool true) := hB.cell 3
  have f3 := hB.frozen 3
  clear hB hD
  go_enter Try.func16, Try.ntmps16
  go_wp2_with fail
  go_ret
  exact ⟨rfl, HD.out.cell3 false⟩
end Go.Proofs.Ytdinhcgkkoceiaa
