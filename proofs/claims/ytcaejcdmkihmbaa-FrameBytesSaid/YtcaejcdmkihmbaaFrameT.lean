/- The walks of the reference's Same of frames. -/
import Derived.Test.YtcaejcdmkihmbaaFrameS
namespace Go.Proofs.Ytcaejcdmkihmbaa
open Go.RowKit

set_option maxRecDepth 100000 in
set_option maxHeartbeats 2000000 in
theorem rsame_any (f g : Fr) (A B : Option Addr) (n c k d : Nat) (w : World) (hA : At w A (bs f.load)) (hB : At w B (bs g.load)) (hn : n = f.load.length) (hk : k = g.load.length) :
    Calls Try.prog 17 #[.agg #[.int .i64 f.seq, .int .i64 f.inc, .int .i64 f.part, .int .i64 f.of, .int .u32 (n32 f.mark), .slice A n c], .agg #[.int .i64 g.seq, .int .i64 g.inc, .int .i64 g.part, .int .i64 g.of, .int .u32 (n32 g.mark), .slice B k d]] w
      fun e w' => e = .returned (.bool (Fr.same f g)) ∧ Below w.heap.size w w' := by
  have cv1 := fun (o1 o2 : Obj) => convStr ((w.alloc o1).alloc o2) A n c f.load ((hA.alloc o1).alloc o2) hn
  have cv2 := fun (o1 o2 : Obj) => convStr ((w.alloc o1).alloc o2) B k d g.load ((hB.alloc o1).alloc o2) hk
  have hb := fun (o1 o2 : Obj) => ((Below.refl w.heap.size w).alloc (Nat.le_refl _) o1).alloc (by rw [World.size_alloc]; omega) o2
  obtain ⟨s, i, p, o, m, l⟩ := f
  obtain ⟨s', i', p', o', m', l'⟩ := g
  simp only at cv1 cv2 hn hk
  clear hA hB hn hk
  by_cases hs : s = s'
  case neg =>
    have hr : Fr.same ⟨s, i, p, o, m, l⟩ ⟨s', i', p', o', m', l'⟩ = false := same_no (fun h => by injection h; contradiction)
    have hd : ¬ (s = s') := hs
    have hd2 : (s == s') = false := by simpa using hd
    rw [hr]
    clear hr hs
    go_enter Try.func17, Try.ntmps17
    go_wp2_with fail
    go_ret
    exact ⟨rfl, hb _ _⟩
  subst hs
  by_cases hi : i = i'
  case neg =>
    have hr : Fr.same ⟨s, i, p, o, m, l⟩ ⟨s, i', p', o', m', l'⟩ = false := same_no (fun h => by injection h; contradiction)
    have hd : ¬ (i = i') := hi
    have hd2 : (i == i') = false := by simpa using hd
    rw [hr]
    clear hr hi
    go_enter Try.func17, Try.ntmps17
    go_wp2_with fail
    go_ret
    exact ⟨rfl, hb _ _⟩
  subst hi
  by_cases hp : p = p'
  case neg =>
    have hr : Fr.same ⟨s, i, p, o, m, l⟩ ⟨s, i, p', o', m', l'⟩ = false := same_no (fun h => by injection h; contradiction)
    have hd : ¬ (p = p') := hp
    have hd2 : (p == p') = false := by simpa using hd
    rw [hr]
    clear hr hp
    go_enter Try.func17, Try.ntmps17
    go_wp2_with fail
    go_ret
    exact ⟨rfl, hb _ _⟩
  subst hp
  by_cases ho : o = o'
  case neg =>
    have hr : Fr.same ⟨s, i, p, o, m, l⟩ ⟨s, i, p, o', m', l'⟩ = false := same_no (fun h => by injection h; contradiction)
    have hd : ¬ (o = o') := ho
    have hd2 : (o == o') = false := by simpa using hd
    rw [hr]
    clear hr ho
    go_enter Try.func17, Try.ntmps17
    go_wp2_with fail
    go_ret
    exact ⟨rfl, hb _ _⟩
  subst ho
  by_cases hm : m = m'
  case neg =>
    have hr : Fr.same ⟨s, i, p, o, m, l⟩ ⟨s, i, p, o, m', l'⟩ = false := same_no (fun h => by injection h; contradiction)
    have hd : ¬ (n32 m = n32 m') := fun h => hm (n32_inj h)
    have hd2 : (n32 m == n32 m') = false := by simpa using hd
    rw [hr]
    clear hr hm
    go_enter Try.func17, Try.ntmps17
    go_wp2_with fail
    go_ret
    exact ⟨rfl, hb _ _⟩
  subst hm
  by_cases hl : l = l'
  case neg =>
    have hr : Fr.same ⟨s, i, p, o, m, l⟩ ⟨s, i, p, o, m, l'⟩ = false := same_no (fun h => by injection h; contradiction)
    have ht : ((str l).toList == (str l').toList) = false := by rw [str_beq]; exact decide_eq_false hl
    rw [hr]
    clear hr hl
    go_enter Try.func17, Try.ntmps17
    go_wp2_with fail
    go_ret
    exact ⟨rfl, hb _ _⟩
  have ht : ((str l).toList == (str l').toList) = true := by rw [str_beq]; exact decide_eq_true hl
  rw [← hl, same_self]
  clear hl
  go_enter Try.func17, Try.ntmps17
  go_wp2_with fail
  go_ret
  exact ⟨rfl, hb _ _⟩
end Go.Proofs.Ytcaejcdmkihmbaa
