/- A frame that came in, by value; the contracts of Bytes and Read in one form. -/
import Derived.Test.YtcaejcdmkihmbaaFrameV
import Derived.Test.YtcaejcdmkihmbaaRowsStruct
namespace Go.Proofs.Ytcaejcdmkihmbaa
open Go.RowKit Go.WideShapes

/-- what Bytes answers of a frame -/
def Fr.bytesE (f : Fr) : List UInt8 := if f.ok = true then f.bytes else []
def Fr.errE (f : Fr) : Int := if f.ok = true then 0 else 2
/-- what Read answers -/
def Fr.zero : Fr := ⟨0, 0, 0, 0, 0#32, []⟩
def Fr.readE (l : List UInt8) : Fr := (Fr.read l).getD Fr.zero
def Fr.readX (l : List UInt8) : Int := if (Fr.read l).isSome then 0 else 40

def BytesSays (f : Fr) (w : World) (e : Ending) (w' : World) : Prop :=
  ∃ A c, e = .returned (.tuple #[.slice A f.bytesE.length c, .int .i64 f.errE]) ∧ At w' A (bs f.bytesE) ∧ Below w.heap.size w w'
def ReadsSays (l : List UInt8) (w : World) (e : Ending) (w' : World) : Prop :=
  ∃ B d, e = .returned (.tuple #[.agg (fc (Fr.readE l).seq (Fr.readE l).inc (Fr.readE l).part (Fr.readE l).of (n32 (Fr.readE l).mark) B (Fr.readE l).load.length d).toArray, .int .i64 (Fr.readX l)]) ∧ At w' B (bs (Fr.readE l).load) ∧ Below w.heap.size w w'
theorem reads_one {l : List UInt8} {w : World} {e : Ending} {w' : World} (h : ReadSays l w e w') : ReadsSays l w e w' := by
  obtain ⟨h1, hb⟩ := h
  rcases h1 with ⟨f, B, d, rfl, hr, _, hB, _⟩ | ⟨rfl, hr⟩
  · refine ⟨B, d, ?_, ?_, hb⟩
    · unfold Fr.readE Fr.readX; rw [hr]; rfl
    · unfold Fr.readE; rw [hr]; exact hB
  · refine ⟨none, 0, ?_, ?_, hb⟩
    · unfold Fr.readE Fr.readX; rw [hr]; rfl
    · unfold Fr.readE; rw [hr]; exact At.nil
theorem bytes_one (f : Fr) (A : Option Addr) (n c : Nat) (w : World) (hA : At w A (bs f.load)) (hn : n = f.load.length) (hm : n ≤ 1000000) :
    Calls Try.prog 13 #[.agg #[.int .i64 f.seq, .int .i64 f.inc, .int .i64 f.part, .int .i64 f.of, .int .u32 (n32 f.mark), .slice A n c]] w (BytesSays f w) := by
  rcases Bool.eq_false_or_eq_true f.ok with h | h
  · refine (fbytes_yes f A n c w hA hn h).mono ?_
    rintro e w' ⟨v, rfl, ho, hb⟩
    have h64 : f.bytes.length = 64 := by have := ho.1; rw [bs_length] at this; omega
    obtain ⟨B, d, rfl, _, _, hB⟩ := own_at ho
    refine ⟨B, d, ?_, ?_, hb⟩
    · unfold Fr.bytesE Fr.errE; rw [if_pos h, if_pos h, h64]
    · unfold Fr.bytesE; rw [if_pos h]; exact hB
  · refine (fbytes_no _ _ _ _ _ A n c w hm (by unfold Fr.ok at h; rw [hn]; exact h)).mono ?_
    rintro e w' ⟨rfl, hb⟩
    refine ⟨none, 0, ?_, ?_, hb⟩
    · unfold Fr.bytesE Fr.errE; rw [h]; rfl
    · unfold Fr.bytesE; rw [h]; exact At.nil
theorem rbytes_one (f : Fr) (A : Option Addr) (n c : Nat) (w : World) (hA : At w A (bs f.load)) (hn : n = f.load.length) (hm : n ≤ 1000000) :
    Calls Try.prog 14 #[.agg #[.int .i64 f.seq, .int .i64 f.inc, .int .i64 f.part, .int .i64 f.of, .int .u32 (n32 f.mark), .slice A n c]] w (BytesSays f w) := by
  rcases Bool.eq_false_or_eq_true f.ok with h | h
  · refine (rfbytes_yes f A n c w hA hn h).mono ?_
    rintro e w' ⟨v, rfl, ho, hb⟩
    have h64 : f.bytes.length = 64 := by have := ho.1; rw [bs_length] at this; omega
    obtain ⟨B, d, rfl, _, _, hB⟩ := own_at ho
    refine ⟨B, d, ?_, ?_, hb⟩
    · unfold Fr.bytesE Fr.errE; rw [if_pos h, if_pos h, h64]
    · unfold Fr.bytesE; rw [if_pos h]; exact hB
  · refine (rfbytes_no _ _ _ _ _ A n c w hm (by unfold Fr.ok at h; rw [hn]; exact h)).mono ?_
    rintro e w' ⟨rfl, hb⟩
    refine ⟨none, 0, ?_, ?_, hb⟩
    · unfold Fr.bytesE Fr.errE; rw [h]; rfl
    · unfold Fr.bytesE; rw [h]; exact At.nil

theorem bytes_of_wf' : ∀ zs : List Int, (∀ z ∈ zs, (Lit.int .u8 z).wf = true) → ∃ l : List UInt8, l.length = zs.length ∧ zs.map (Value.int .u8) = bs l
  | [], _ => ⟨[], rfl, rfl⟩
  | z :: zs, h => by
    obtain ⟨l, h1, h2⟩ := bytes_of_wf' zs (fun y hy => h y (List.mem_cons_of_mem _ hy))
    obtain ⟨x, hx⟩ := u8_of_wf (h z List.mem_cons_self)
    refine ⟨x :: l, by simp [h1], ?_⟩
    rw [List.map_cons, h2, hx]
    rfl

theorem frame_of_trod {H : Type} {enc : TypeId × Value → H} {w : World} {base : Nat} {sp : Nat → Bool} {held : Bool} {fuel : Nat} {cs : List Value} {x : DataW H × List MemPlace}
    (h : DataW.trod enc Try.prog w base sp held fuel 33 cs = some x) : ∃ f : Fr, ∃ A c, cs = fc f.seq f.inc f.part f.of (n32 f.mark) A f.load.length c ∧ f.load.length ≤ c ∧ At w A (bs f.load) := by
  obtain ⟨xs, m, _, _, hl, hlen, hf⟩ := DataW.trod_struct Try.underlying33 h
  have hl6 : cs.length = 6 := hl.trans (by kernel_rfl)
  obtain ⟨c0, c1, c2, c3, c4, c5, rfl⟩ : ∃ c0 c1 c2 c3 c4 c5, cs = [c0, c1, c2, c3, c4, c5] := by
    rcases cs with _ | ⟨c0, _ | ⟨c1, _ | ⟨c2, _ | ⟨c3, _ | ⟨c4, _ | ⟨c5, _ | ⟨c6, cs⟩⟩⟩⟩⟩⟩⟩ <;> simp at hl6
    exact ⟨c0, c1, c2, c3, c4, c5, rfl⟩
  have k1 : Try.prog.cellsOf 3 = 1 := by kernel_rfl
  have k2 : Try.prog.cellsOf 22 = 1 := by kernel_rfl
  have k3 : Try.prog.cellsOf 28 = 1 := by kernel_rfl
  have g0 := hf 0 { name := "Seq", type := 3, offset := 0, embedded := false, tag := "", pkgPath := "", byteOffset := 0 } rfl
  have g1 := hf 1 { name := "Inc", type := 3, offset := 1, embedded := false, tag := "", pkgPath := "", byteOffset := 8 } rfl
  have g2 := hf 2 { name := "Part", type := 3, offset := 2, embedded := false, tag := "", pkgPath := "", byteOffset := 16 } rfl
  have g3 := hf 3 { name := "Of", type := 3, offset := 3, embedded := false, tag := "", pkgPath := "", byteOffset := 24 } rfl
  have g4 := hf 4 { name := "Mark", type := 28, offset := 4, embedded := false, tag := "", pkgPath := "", byteOffset := 32 } rfl
  have g5 := hf 5 { name := "Load", type := 22, offset := 5, embedded := false, tag := "", pkgPath := "", byteOffset := 40 } rfl
  have hx6 : xs.length = 6 := hlen
  rw [List.getElem?_eq_getElem (by omega)] at g0 g1 g2 g3 g4 g5
  simp only [k1, k2, k3, List.drop_zero, List.drop_succ_cons, List.take_succ_cons, List.take_zero] at g0 g1 g2 g3 g4 g5
  obtain ⟨z0, e0, _, _⟩ := DataW.trod_int Try.underlying3 g0
  obtain ⟨z1, e1, _, _⟩ := DataW.trod_int Try.underlying3 g1
  obtain ⟨z2, e2, _, _⟩ := DataW.trod_int Try.underlying3 g2
  obtain ⟨z3, e3, _, _⟩ := DataW.trod_int Try.underlying3 g3
  obtain ⟨z4, e4, _, w4⟩ := DataW.trod_int Try.underlying28 g4
  obtain ⟨m, hm⟩ := u32_of_wf w4
  obtain ⟨a, len, cap, hv, hlc, zs, hz1, hz2, hat⟩ := open_rows_ints (k := .u8) (m := 1) Try.underlying22 (by kernel_rfl) (fun fuel cs x h => by
    obtain ⟨z, hz, _, hw⟩ := DataW.trod_int Try.underlying5 h
    exact ⟨[z], by simp [hz], rfl, fun y hy => by simp only [List.mem_singleton] at hy; subst hy; exact hw⟩) g5
  obtain ⟨l, hl1, hl2⟩ := bytes_of_wf' zs hz2
  rw [hl2] at hat
  have hlen : len = l.length := by omega
  subst hlen
  simp only [List.cons.injEq, and_true] at e0 e1 e2 e3 e4
  exact ⟨⟨z0, z1, z2, z3, m, l⟩, a, cap, by rw [e0, e1, e2, e3, e4, hm, hv]; rfl, hlc, hat⟩

/-- what a law's walk is told of a frame -/
def IsFrame (w : World) (f : Fr) (A : Option Addr) (c : Nat) : Prop := f.load.length ≤ c ∧ At w A (bs f.load)
theorem open_frame {H : Type} {enc : TypeId × Value → H} {w : World} {base : Nat} {sp : Nat → Bool} {held : Bool} {r : Reach} {b0 : Nat} {v : Value} {d : DataW H} {p : List MemPlace}
    (hv : Value.okWide Try.prog w r b0 33 v) (h : DataW.Trod enc Try.prog w base sp held 33 v d p) :
    ∃ f A c, v = .agg #[.int .i64 f.seq, .int .i64 f.inc, .int .i64 f.part, .int .i64 f.of, .int .u32 (n32 f.mark), .slice A f.load.length c] ∧ IsFrame w f A c := by
  obtain ⟨cs, rfl, hsz⟩ := okWide_struct Try.underlying33 hv
  obtain ⟨fuel, hf⟩ := h
  obtain ⟨f, A, c, h1, h2, h3⟩ := frame_of_trod hf
  refine ⟨f, A, c, ?_, h2, h3⟩
  have : cs = (fc f.seq f.inc f.part f.of (n32 f.mark) A f.load.length c).toArray := by
    apply Array.toList_inj.1
    simpa [Value.cells] using h1
  rw [this]
  rfl
end Go.Proofs.Ytcaejcdmkihmbaa
