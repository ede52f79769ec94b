/- Package disk: the library's clones. -/
import Derived.Test.YtdinhcgkkoceiaaDiskD
import Derived.Shelf.SlMaps.Clone
namespace Go.Proofs.Ytdinhcgkkoceiaa
open Go.RowKit Go.Shelf

set_option maxHeartbeats 2000000 in
theorem mclone_any (b q : Nat) (f : Int → Option Value) (w : World) (hM : VM Try.prog 3 w b q f) :
    Calls Try.prog 22 #[.map (some b)] w fun e w' => e = .returned (.map (some w.heap.size)) ∧ VM Try.prog 3 w' w.heap.size q f ∧ w'.heap.size = w.heap.size + 1 ∧ Below w.heap.size w w' := by
  obtain ⟨D, ⟨es, clock, hb, hF, hs, hD⟩, hsays⟩ := hM
  have hq := fun w => run_eql_map_nil_sl (P := Try.prog) w 43 _ _ (some b) Try.underlying43
  have Hsays := Lib.hid hsays
  have HF := Lib.hid hF
  have HD := Lib.hid hD
  have Hb := Lib.hid hb
  clear hsays hF hD hb
  go_enter Try.func22, Try.ntmps22
  go_wp2
  rw [run_callFunc_extern Try.func25 (by kernel_rfl) (by kernel_rfl) (by kernel_rfl) (e := Extern.MapsClone.clone) (by kernel_rfl), run_maps_clone_sl w 43 Hb.out]
  simp only [Result.andThen]
  rw [Oper.upon_value]
  go_wp2
  rw [run_typeAssert_map_sl _ 43 20 _ _ _ Try.underlying43]
  simp only [Result.andThen]
  rw [Oper.upon_value]
  go_wp2
  go_ret
  exact ⟨rfl, ⟨D, ⟨es, clock, (MapKept.heap_alloc w _).1, HF.out, hs, HD.out⟩, Hsays.out⟩, by simp, (Below.refl _ w).alloc (Nat.le_refl _) _⟩

set_option maxRecDepth 100000 in
set_option maxHeartbeats 2000000 in
theorem sclone_any (A : Option Addr) (xs : List Value) (n c : Nat) (w : World) (hA : At w A xs) (hn : n = xs.length) (h0 : 0 < n) (h1 : ∀ u ∈ xs, u.oneCell' = true) (hb : n ≤ 1000000) :
    Calls Try.prog 23 #[.slice A n c] w fun e w' => ∃ v, e = .returned v ∧ w'.ownsRow w.heap.size 27 1 v n xs ∧ Below w.heap.size w w' := by
  obtain ⟨b, off, rfl, -, -⟩ := hA.all (by omega)
  have HA := Lib.hid hA
  have Hn := Lib.hid hn
  have H1 := Lib.hid h1
  clear hA hn h1
  have heq : ∀ w' : World, (binOp .eql 52 (.slice (some ⟨b, off, none⟩) n c) (.slice none 0 0)).run Try.prog w' = .ok (.bool false) w' := fun w' => by
    have h : ∀ d : Nat, (Op.equalIn (d + 1) 52 (.slice (some ⟨b, off, none⟩) n c) (.slice none 0 0)).run Try.prog w' = .ok false w' := fun d => by
      simp [Op.equalIn, run_underlying Try.underlying52]
    simp only [binOp]
    simp [show Op.equal 52 (.slice (some ⟨b, off, none⟩) n c) (.slice none 0 0) = Op.equalIn (9999 + 1) 52 (.slice (some ⟨b, off, none⟩) n c) (.slice none 0 0) from rfl, h 9999]
  go_enter Try.func23, Try.ntmps23
  have hba : Below w.heap.size w (w.alloc (.cells #[] 27)) := (Below.refl _ _).alloc (Nat.le_refl _) _
  have HA2 := Lib.hid (HA.out.alloc (.cells #[] 27))
  go_wp2_with (refine wpList_app_full rfl (.tmp 5) (.tmp 6) rowsTyD rfl (some ⟨w.heap.size, 0, none⟩) 0 [] rfl At.nil rfl (some ⟨b, off, none⟩) n c xs rfl HA2.out (by rw [Nat.mul_one]; exact Hn.out.symm) H1.out h0 (by unfold maxLen; omega) (by omega) ?_; intro v3 w3 hown3 hg3)
  go_ret
  refine ⟨_, rfl, ?_, hba.grown hg3 hba.size (fun k hk => by cases hk)⟩
  have := own_mono hown3 hba.size
  simpa using this
end Go.Proofs.Ytdinhcgkkoceiaa
