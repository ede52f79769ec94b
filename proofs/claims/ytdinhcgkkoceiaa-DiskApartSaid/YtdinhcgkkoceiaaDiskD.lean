/- The walk of package disk's Durable. -/
import Derived.Test.YtdinhcgkkoceiaaDiskK
namespace Go.Proofs.Ytdinhcgkkoceiaa
open Go.RowKit

/-- what is durable, of the first k sectors -/
def durB (S : Nat → List UInt8) (k : Nat) : List UInt8 := (List.range k).flatMap S
theorem durB_succ (S : Nat → List UInt8) (k : Nat) : durB S (k + 1) = durB S k ++ S k := by unfold durB; rw [List.range_succ, List.flatMap_append]; simp
theorem durB_length (S : Nat → List UInt8) : ∀ k, (∀ i, i < k → (S i).length = 64) → (durB S k).length = k * 64
  | 0, _ => rfl
  | k + 1, h => by rw [durB_succ, List.length_append, durB_length S k (fun i hi => h i (by omega)), h k (by omega)]; omega
theorem Dk.len {w : World} {p : Nat} {F : Nat → Prop} {q : Nat} {S : Nat → List UInt8} {C : Nat → List (List UInt8)} {n : Nat} {dn : Bool} (h : Dk w p F q S C n dn) : ∀ i, i < 34 → (S i).length = 64 := by
  obtain ⟨ms, mc, fS, fC, qS, qC, h⟩ := h
  intro i hi
  obtain ⟨l, _, h2, h3⟩ := h.sv i hi
  rw [h3]
  exact pad_length h2

theorem own_ge' {w : World} {base n size : Nat} {e : TypeId} {v : Value} {xs : List Value} (h : w.ownsRow base e size v n xs) {g : Nat} (hg : v.ownBlock = some g) : base ≤ g := by
  rcases h.2 with ⟨rfl, rfl⟩ | ⟨g', cap, cur, rfl, hge, _⟩
  · simp [Value.ownBlock] at hg
  · simp only [Value.ownBlock, Option.some.injEq] at hg
    omega

set_option maxRecDepth 100000 in
set_option maxHeartbeats 4000000 in
theorem ddur_any (p : Nat) (F : Nat → Prop) (q : Nat) (S : Nat → List UInt8) (C : Nat → List (List UInt8)) (k : Nat) (dn : Bool) (w : World) (hD : Dk w p F q S C k dn) :
    Calls Try.prog 9 #[.pointer (some ⟨p, 0, none⟩)] w fun e w' => ∃ v, e = .returned v ∧ w'.ownsRow w.heap.size 5 1 v (durB S 34).length (bs (durB S 34)) ∧ Below w.heap.size w w' := by
  have hlen := hD.len
  obtain ⟨ms, mc, fS, fC, qS, qC, h⟩ := hD
  have H := Lib.hid h
  have HLen := Lib.hid hlen
  have hz' : ∀ w', (zeroValue 27).run Try.prog w' = .ok nilS w' := fun w' => by kernel_rfl
  have Hz := Lib.hid hz'
  clear h hlen hz'
  go_enter Try.func9, Try.ntmps9
  go_wp2_with fail
  go_loopw [3, 7] (fun v i wr => ∃ j : Nat, j ≤ 34 ∧ i = .int .i64 j ∧ Hid (wr.ownsRow w.heap.size 5 1 v (durB S j).length (bs (durB S j))) ∧ Below w.heap.size w wr) (fun _ i _ => 34 - (intOf i).toNat)
  case atStart => exact ⟨0, by omega, rfl, World.ownsRow_nil _ _ _ _, Below.refl _ _⟩
  case round =>
    obtain ⟨j, hj, rfl, hown, hb⟩ := hrel
    by_cases hlt : (j : Int) < 34
    · have Hr := Lib.hid (H.out.keep hb)
      obtain ⟨l, ⟨A, c, hv, hlc, hcm, hA, -⟩, hl, hS⟩ := Hr.out.sv j (by omega)
      have hls := Hr.out.sure.look (t := 43) (e := 27) Try.underlying3 Try.underlying43 (Hz.out wr) (wfI (n := (j : Int)) (by omega) (by omega))
      rw [hv] at hls
      have c0 : wr.cell? ⟨p, 0, none⟩ = some (.map (some ms)) := Hr.out.blk.cell 0
      have HA := Lib.hid hA
      have Hl := Lib.hid hl
      have HS := Lib.hid hS
      have HC := Lib.hid (durB_length S j (fun i hi => HLen.out i (by omega)))
      clear hv hlc hcm hA hl hS
      go_wp2_with fail
      refine (sector_any A l _ c _ HA.out rfl Hl.out).mono ?_
      rintro e w1 ⟨rfl, hB1, hb1⟩
      have HA1 := Lib.hid (show At w1 (some ⟨wr.heap.size, 0, none⟩) (bs (pad l)) from hB1.at_ 0 _ (fun j u hu => by rw [Nat.zero_add]; exact hu))
      have HO1 := Lib.hid (own_below hown.out hb1)
      have hbw1 : Below w.heap.size w w1 := hb.trans (hb1.mono hb.size)
      clear hB1 hb1 hls c0
      go_wp2_with (refine wpList_app_own rfl (.tmp 10) (.tmp 17) bytesTyD rfl w.heap.size _ _ _ rfl HO1.out (some ⟨wr.heap.size, 0, none⟩) 64 64 (bs (pad l)) rfl HA1.out (by rw [bs_length, pad_length Hl.out]) (one_bs _) (by have := HC.out; unfold maxLen; omega) (by have := HC.out; omega) hbw1.size ?_; intro v4 w4 hown4 hg4 hat4)
      refine ⟨⟨j + 1, by omega, by go_num, ?_, hbw1.grown hg4 hbw1.size (fun g hg => own_ge' hown.out hg)⟩, by simp [intOf]; omega⟩
      unfold Hid
      rw [durB_succ, List.length_append, bs_append, HS.out, pad_length Hl.out]
      exact hown4
    · have hj34 : j = 34 := by omega
      subst hj34
      go_wp2_with fail
      go_ret
      exact ⟨_, rfl, hown.out, hb⟩
end Go.Proofs.Ytdinhcgkkoceiaa
