/- The plain facts on the sum of bytes (CRC-32, reflected): steps on 32-bit words, tables of half bytes, pieces, and that a burst of at most 32 bits is told. No program here. -/
import GoSem.Core.Value
namespace Go.Proofs.Ytcaejcdmkihmbaa
namespace Crc

/-- one bit's step -/
def step (r : BitVec 32) : BitVec 32 := (r >>> 1) ^^^ (bif r.getLsbD 0 then 0xEDB88320#32 else 0#32)
def steps : Nat → BitVec 32 → BitVec 32
  | 0, r => r
  | n + 1, r => steps n (step r)
/-- the table of half bytes -/
def tab (i : Nat) : BitVec 32 := steps 4 (BitVec.ofNat 32 i)
def nib (r : BitVec 32) : BitVec 32 := (r >>> 4) ^^^ tab (r &&& 15#32).toNat
def byte (r : BitVec 32) (b : UInt8) : BitVec 32 := nib (nib (r ^^^ BitVec.setWidth 32 b.toBitVec))
def crc (r : BitVec 32) (l : List UInt8) : BitVec 32 := l.foldl byte r
def join (s : BitVec 32) (l : List UInt8) : BitVec 32 := ~~~ (crc (~~~ s) l)
def sum (l : List UInt8) : BitVec 32 := join 0#32 l
/-- the four bytes of a sum, the lowest first -/
def tail4 (s : BitVec 32) : List UInt8 := [⟨s.setWidth 8⟩, ⟨(s >>> 8).setWidth 8⟩, ⟨(s >>> 16).setWidth 8⟩, ⟨(s >>> 24).setWidth 8⟩]
def seal_ (l : List UInt8) : List UInt8 := l ++ tail4 (sum l)
def okSealed (l : List UInt8) : Bool := decide (4 ≤ l.length) && (l.drop (l.length - 4) == tail4 (sum (l.take (l.length - 4))))

theorem crc_append (r : BitVec 32) (a b : List UInt8) : crc r (a ++ b) = crc (crc r a) b := by simp [crc]
theorem join_append (s : BitVec 32) (a b : List UInt8) : join s (a ++ b) = join (join s a) b := by simp [join, crc_append]
theorem join_nil (s : BitVec 32) : join s [] = s := by simp [join, crc]

theorem mask (x : BitVec 32) : (0xEDB88320#32 &&& -(x &&& 1#32)) = bif x.getLsbD 0 then 0xEDB88320#32 else 0#32 := by
  rw [BitVec.and_one_eq_setWidth_ofBool_getLsbD]
  cases x.getLsbD 0 <;> decide

theorem step_xor (a b : BitVec 32) : step (a ^^^ b) = step a ^^^ step b := by
  unfold step
  have e : (a ^^^ b) >>> 1 = (a >>> 1) ^^^ (b >>> 1) := by ext i hi; simp
  rw [e, BitVec.getLsbD_xor]
  generalize a >>> 1 = x
  generalize b >>> 1 = y
  have h : ∀ c d : Bool, (bif c ^^ d then 0xEDB88320#32 else 0#32) = (bif c then 0xEDB88320#32 else 0#32) ^^^ (bif d then 0xEDB88320#32 else 0#32) := by decide
  rw [h]
  ac_rfl

theorem steps_xor (n : Nat) : ∀ a b : BitVec 32, steps n (a ^^^ b) = steps n a ^^^ steps n b := by
  induction n with
  | zero => intro a b; rfl
  | succ n ih => intro a b; simp only [steps]; rw [step_xor, ih]

theorem steps_zero (n : Nat) : steps n 0#32 = 0#32 := by
  induction n with
  | zero => rfl
  | succ n ih => simp only [steps]; exact ih

theorem steps_add (n m : Nat) (r : BitVec 32) : steps (n + m) r = steps m (steps n r) := by
  induction n generalizing r with
  | zero => simp [steps]
  | succ n ih => rw [Nat.add_right_comm]; simp only [steps]; exact ih _

theorem step_even (r : BitVec 32) (h : r.getLsbD 0 = false) : step r = r >>> 1 := by unfold step; rw [h]; simp

theorem steps_low (n : Nat) : ∀ r : BitVec 32, (∀ i, i < n → r.getLsbD i = false) → steps n r = r >>> n := by
  induction n with
  | zero => intro r _; simp [steps]
  | succ n ih =>
    intro r h
    simp only [steps]
    rw [step_even r (h 0 (by omega)), ih]
    · rw [Nat.add_comm, BitVec.shiftRight_add]
    · intro i hi
      have := h (1 + i) (by omega)
      simpa using this

theorem nib_steps (r : BitVec 32) : nib r = steps 4 r := by
  have e : r = (r &&& 0xFFFFFFF0#32) ^^^ (r &&& 15#32) := by
    have h : (0xFFFFFFF0#32) = ~~~ (15#32) := by decide
    rw [h]
    ext i hi
    simp only [BitVec.getElem_xor, BitVec.getElem_and, BitVec.getElem_not]
    cases r[i] <;> cases (15#32)[i] <;> rfl
  conv => rhs; rw [e]
  rw [steps_xor, steps_low 4 (r &&& 0xFFFFFFF0#32)]
  · unfold nib tab
    rw [BitVec.ofNat_toNat, BitVec.setWidth_eq]
    congr 1
    ext i hi
    simp only [BitVec.getElem_ushiftRight, BitVec.getLsbD_and]
    by_cases h : 4 + i < 32
    · have : (0xFFFFFFF0#32).getLsbD (4 + i) = true := by
        have : ∀ j : Fin 28, (0xFFFFFFF0#32).getLsbD (4 + j.val) = true := by decide
        exact this ⟨i, by omega⟩
      rw [this, Bool.and_true]
    · rw [BitVec.getLsbD_of_ge _ _ (by omega)]; rfl
  · intro i hi
    rw [BitVec.getLsbD_and]
    have : ∀ j : Fin 4, (0xFFFFFFF0#32).getLsbD j.val = false := by decide
    rw [this ⟨i, hi⟩, Bool.and_false]

theorem byte_steps (r : BitVec 32) (b : UInt8) : byte r b = steps 8 (r ^^^ BitVec.setWidth 32 b.toBitVec) := by
  unfold byte; rw [nib_steps, nib_steps, ← steps_add]

/-- a step can be undone -/
theorem step_inj (a b : BitVec 32) (h : step a = step b) : a = b := by
  have h' : step (a ^^^ b) = 0#32 := by rw [step_xor, h, BitVec.xor_self]
  have z : ∀ x : BitVec 32, step x = 0#32 → x = 0#32 := by
    intro x hx
    unfold step at hx
    have top : (x >>> 1).getLsbD 31 = false := by simp
    cases hb : x.getLsbD 0 with
    | true =>
      rw [hb] at hx
      have := congrArg (fun v => BitVec.getLsbD v 31) hx
      simp only [cond_true, BitVec.getLsbD_xor, top] at this
      exact absurd this (by decide)
    | false =>
      rw [hb] at hx
      simp only [cond_false, BitVec.xor_zero] at hx
      apply BitVec.eq_of_getLsbD_eq
      intro i hi
      cases i with
      | zero => rw [hb]; simp
      | succ i =>
        have := congrArg (fun v => BitVec.getLsbD v i) hx
        simp only [BitVec.getLsbD_ushiftRight, BitVec.getLsbD_zero] at this
        rw [Nat.add_comm]; simpa using this
  have := z _ h'
  exact BitVec.xor_eq_zero_iff.1 this

theorem steps_inj (n : Nat) : ∀ a b : BitVec 32, steps n a = steps n b → a = b := by
  induction n with
  | zero => intro a b h; exact h
  | succ n ih => intro a b h; exact step_inj _ _ (ih _ _ h)

theorem steps_ne_zero (n : Nat) (r : BitVec 32) (h : r ≠ 0#32) : steps n r ≠ 0#32 := fun e => h (steps_inj n r 0#32 (by rw [e, steps_zero]))

/-- bits are fed one by one, the lowest of a byte first -/
def one (b : Bool) : BitVec 32 := bif b then 1#32 else 0#32
def feed (r : BitVec 32) (l : List Bool) : BitVec 32 := l.foldl (fun r b => step (r ^^^ one b)) r
def ofBits : List Bool → BitVec 32
  | [] => 0#32
  | b :: l => (ofBits l <<< 1) ^^^ one b
def bits8 (b : UInt8) : List Bool := (List.range 8).map fun i => b.toBitVec.getLsbD i
def bitsOf (l : List UInt8) : List Bool := l.flatMap bits8

theorem getLsbD_one (b : Bool) (i : Nat) : (one b).getLsbD i = (decide (i = 0) && b) := by
  cases b
  · simp [one]
  · by_cases h : i = 0
    · subst h; simp [one]
    · simp [one, h]

theorem getLsbD_ofBits (l : List Bool) : ∀ i, i < 32 → (ofBits l).getLsbD i = l.getD i false := by
  induction l with
  | nil => intro i _; simp [ofBits]
  | cons b l ih =>
    intro i hi
    simp only [ofBits, BitVec.getLsbD_xor, getLsbD_one, BitVec.getLsbD_shiftLeft]
    cases i with
    | zero => simp
    | succ i => rw [show i + 1 - 1 = i from rfl, ih i (by omega)]; simp [hi]

theorem step_shift (v : BitVec 32) (h : v.getLsbD 31 = false) : step (v <<< 1) = v := by
  rw [step_even]
  · apply BitVec.eq_of_getLsbD_eq
    intro i hi
    simp only [BitVec.getLsbD_ushiftRight, BitVec.getLsbD_shiftLeft]
    by_cases h1 : 1 + i < 32
    · simp [h1]
    · have : i = 31 := by omega
      subst this; rw [h]; simp
  · simp

theorem feed_ofBits (l : List Bool) : ∀ r : BitVec 32, l.length ≤ 32 → feed r l = steps l.length (r ^^^ ofBits l) := by
  induction l with
  | nil => intro r _; simp [feed, steps, ofBits]
  | cons b l ih =>
    intro r h
    simp only [List.length_cons] at h
    have e : feed r (b :: l) = feed (step (r ^^^ one b)) l := rfl
    rw [e, ih _ (by omega)]
    simp only [List.length_cons, steps, ofBits]
    have hs : step (ofBits l <<< 1) = ofBits l := step_shift _ (by rw [getLsbD_ofBits _ _ (by omega)]; rw [List.getD_eq_getElem?_getD, List.getElem?_eq_none (by omega)]; rfl)
    congr 1
    conv => lhs; rhs; rw [← hs]
    rw [← step_xor]
    congr 1
    ac_rfl

theorem feed_append (r : BitVec 32) (a b : List Bool) : feed r (a ++ b) = feed (feed r a) b := by simp [feed]

theorem feed_zeros (n : Nat) : ∀ r : BitVec 32, feed r (List.replicate n false) = steps n r := by
  induction n with
  | zero => intro r; rfl
  | succ n ih =>
    intro r
    rw [List.replicate_succ]
    have e : feed r (false :: List.replicate n false) = feed (step (r ^^^ one false)) (List.replicate n false) := rfl
    rw [e, ih]
    simp [one, steps]

theorem byte_feed (r : BitVec 32) (b : UInt8) : byte r b = feed r (bits8 b) := by
  rw [byte_steps, feed_ofBits _ _ (by simp [bits8])]
  have hl : (bits8 b).length = 8 := by simp [bits8]
  rw [hl]
  congr 2
  apply BitVec.eq_of_getLsbD_eq
  intro i hi
  rw [getLsbD_ofBits _ _ hi, BitVec.getLsbD_setWidth]
  simp only [bits8, List.getD_eq_getElem?_getD, List.getElem?_map, hi, decide_true, Bool.true_and]
  by_cases h : i < 8
  · rw [List.getElem?_range h]; simp
  · rw [List.getElem?_eq_none (by simp; omega), BitVec.getLsbD_of_ge _ _ (by omega)]; rfl

theorem crc_feed (l : List UInt8) : ∀ r : BitVec 32, crc r l = feed r (bitsOf l) := by
  induction l with
  | nil => intro r; rfl
  | cons b l ih =>
    intro r
    have e : crc r (b :: l) = crc (byte r b) l := rfl
    have e2 : bitsOf (b :: l) = bits8 b ++ bitsOf l := by simp [bitsOf]
    rw [e, ih, byte_feed, e2, feed_append]

theorem feed_xor (a : List Bool) : ∀ (d : List Bool) (r s : BitVec 32), a.length = d.length → feed (r ^^^ s) (List.zipWith xor a d) = feed r a ^^^ feed s d := by
  induction a with
  | nil => intro d r s h; cases d <;> simp_all [feed]
  | cons x a ih =>
    intro d r s h
    cases d with
    | nil => simp at h
    | cons y d =>
      simp only [List.length_cons, Nat.add_right_cancel_iff] at h
      have e : feed (r ^^^ s) (List.zipWith xor (x :: a) (y :: d)) = feed (step ((r ^^^ s) ^^^ one (x ^^ y))) (List.zipWith xor a d) := rfl
      have e1 : feed r (x :: a) = feed (step (r ^^^ one x)) a := rfl
      have e2 : feed s (y :: d) = feed (step (s ^^^ one y)) d := rfl
      rw [e, e1, e2, ← ih _ _ _ h, ← step_xor]
      congr 2
      have : one (x ^^ y) = one x ^^^ one y := by cases x <;> cases y <;> decide
      rw [this]
      ac_rfl

/-- a burst of at most 32 bits, not all 0, at place k: the remainder differs -/
theorem burst_ne (a : List Bool) (r : BitVec 32) (k : Nat) (e : List Bool) (he : e.length ≤ 32) (hk : k + e.length ≤ a.length) (hne : ∃ i, i < e.length ∧ e.getD i false = true) :
    feed r (List.zipWith xor a (List.replicate k false ++ e ++ List.replicate (a.length - k - e.length) false)) ≠ feed r a := by
  have hx := feed_xor a (List.replicate k false ++ e ++ List.replicate (a.length - k - e.length) false) r 0#32 (by simp; omega)
  rw [BitVec.xor_zero] at hx
  rw [hx, feed_append, feed_append, feed_zeros, feed_zeros, steps_zero, feed_ofBits e _ he, BitVec.zero_xor, ← steps_add]
  intro h
  have hz : ofBits e ≠ 0#32 := by
    obtain ⟨i, hi, hb⟩ := hne
    intro h0
    have := getLsbD_ofBits e i (by omega)
    rw [h0, hb] at this
    simp at this
  refine steps_ne_zero (e.length + (a.length - k - e.length)) _ hz ?_
  generalize steps (e.length + (a.length - k - e.length)) (ofBits e) = x at *
  have : feed r a ^^^ (feed r a ^^^ x) = feed r a ^^^ feed r a := by rw [h]
  rwa [← BitVec.xor_assoc, BitVec.xor_self, BitVec.zero_xor] at this

/-- bit t of a row of bytes -/
def bit (l : List UInt8) (t : Nat) : Bool := (l.getD (t / 8) 0).toBitVec.getLsbD (t % 8)

theorem bitsOf_length (l : List UInt8) : (bitsOf l).length = 8 * l.length := by
  induction l with
  | nil => rfl
  | cons b l ih =>
    have e2 : bitsOf (b :: l) = bits8 b ++ bitsOf l := by simp [bitsOf]
    rw [e2, List.length_append, ih]; simp [bits8]; omega

theorem bits8_getD (b : UInt8) (i : Nat) (h : i < 8) : (bits8 b).getD i false = b.toBitVec.getLsbD i := by
  simp only [bits8, List.getD_eq_getElem?_getD, List.getElem?_map]
  rw [List.getElem?_range h]; simp

theorem bitsOf_getD (l : List UInt8) : ∀ t, (bitsOf l).getD t false = bit l t := by
  induction l with
  | nil => intro t; simp [bitsOf, bit]
  | cons b l ih =>
    intro t
    have e2 : bitsOf (b :: l) = bits8 b ++ bitsOf l := by simp [bitsOf]
    have hl : (bits8 b).length = 8 := by simp [bits8]
    rw [e2]
    by_cases h : t < 8
    · rw [List.getD_eq_getElem?_getD, List.getElem?_append_left (by omega), ← List.getD_eq_getElem?_getD, bits8_getD _ _ h]
      simp [bit, Nat.div_eq_of_lt h, Nat.mod_eq_of_lt h]
    · rw [List.getD_eq_getElem?_getD, List.getElem?_append_right (by omega), ← List.getD_eq_getElem?_getD, hl, ih]
      obtain ⟨u, rfl⟩ : ∃ u, t = u + 8 := ⟨t - 8, by omega⟩
      simp only [bit, Nat.add_sub_cancel]
      rw [show (u + 8) / 8 = u / 8 + 1 by omega, show (u + 8) % 8 = u % 8 by omega]
      simp

theorem getLsbD_le4 (q : List UInt8) (t : Nat) (h : t < 32) : (ofBits (bitsOf q)).getLsbD t = bit q t := by
  rw [getLsbD_ofBits _ _ h, bitsOf_getD]

theorem tail4_le4 (a b c d : UInt8) : tail4 (ofBits (bitsOf [a, b, c, d])) = [a, b, c, d] := by
  have key : ∀ (k : Nat) (x : UInt8), k < 4 → [a, b, c, d].getD k 0 = x → (⟨((ofBits (bitsOf [a, b, c, d])) >>> (8 * k)).setWidth 8⟩ : UInt8) = x := by
    intro k x hk hx
    apply UInt8.toBitVec_inj.1
    apply BitVec.eq_of_getLsbD_eq
    intro i hi
    rw [BitVec.getLsbD_setWidth, BitVec.getLsbD_ushiftRight, getLsbD_le4 _ _ (by omega)]
    simp only [hi, decide_true, Bool.true_and, bit]
    rw [show (8 * k + i) / 8 = k by omega, show (8 * k + i) % 8 = i by omega, hx]
  generalize ofBits (bitsOf [a, b, c, d]) = v at *
  have h0 : (⟨(v >>> 0).setWidth 8⟩ : UInt8) = a := key 0 a (by omega) rfl
  have h1 : (⟨(v >>> 8).setWidth 8⟩ : UInt8) = b := key 1 b (by omega) rfl
  have h2 : (⟨(v >>> 16).setWidth 8⟩ : UInt8) = c := key 2 c (by omega) rfl
  have h3 : (⟨(v >>> 24).setWidth 8⟩ : UInt8) = d := key 3 d (by omega) rfl
  rw [BitVec.ushiftRight_zero] at h0
  unfold tail4
  rw [h0, h1, h2, h3]

theorem le4_tail4 (v : BitVec 32) : ofBits (bitsOf (tail4 v)) = v := by
  apply BitVec.eq_of_getLsbD_eq
  intro i hi
  rw [getLsbD_le4 _ _ hi]
  have hm : i % 8 < 8 := Nat.mod_lt _ (by omega)
  rcases (show i / 8 = 0 ∨ i / 8 = 1 ∨ i / 8 = 2 ∨ i / 8 = 3 by omega) with h | h | h | h
  all_goals
    simp only [bit, tail4, h]
    simp [hm]
    first
      | (rw [show i % 8 = i by omega])
      | (congr 1; omega)

theorem tail4_length (v : BitVec 32) : (tail4 v).length = 4 := rfl

theorem crc_four (S : BitVec 32) (q : List UInt8) (h : q.length = 4) : crc S q = steps 32 (S ^^^ ofBits (bitsOf q)) := by
  rw [crc_feed, feed_ofBits _ _ (by rw [bitsOf_length]; omega), bitsOf_length, h]

theorem xor_ones (S : BitVec 32) : S ^^^ ~~~ 0#32 = ~~~ S := by
  rw [show ~~~ 0#32 = BitVec.allOnes 32 from by decide]
  exact BitVec.xor_allOnes
theorem xor_compl (S : BitVec 32) : S ^^^ ~~~ S = ~~~ 0#32 := by
  rw [← xor_ones S, ← BitVec.xor_assoc, BitVec.xor_self, BitVec.zero_xor]

theorem okSealed_iff (l : List UInt8) (h : 4 ≤ l.length) : okSealed l = true ↔ crc (~~~ 0#32) l = steps 32 (~~~ 0#32) := by
  have hl : l = l.take (l.length - 4) ++ l.drop (l.length - 4) := (List.take_append_drop _ _).symm
  have hq : (l.drop (l.length - 4)).length = 4 := by rw [List.length_drop]; omega
  unfold okSealed sum join
  simp only [h, decide_true, Bool.true_and, beq_iff_eq]
  conv => rhs; lhs; rw [hl, crc_append, crc_four _ _ hq]
  generalize l.drop (l.length - 4) = q at *
  generalize crc (~~~ 0#32) (l.take (l.length - 4)) = S at *
  have h4 : ∃ a b c d, q = [a, b, c, d] := by
    match q, hq with
    | [a, b, c, d], _ => exact ⟨a, b, c, d, rfl⟩
  obtain ⟨a, b, c, d, rfl⟩ := h4
  constructor
  · intro e
    rw [e, le4_tail4, xor_compl]
  · intro e
    have e := steps_inj _ _ _ e
    have e2 : ofBits (bitsOf [a, b, c, d]) = ~~~ S := by
      have := congrArg (S ^^^ ·) e
      simp only [← BitVec.xor_assoc, BitVec.xor_self, BitVec.zero_xor] at this
      rw [this, xor_ones]
    rw [← e2, tail4_le4]

theorem okSealed_seal (l : List UInt8) : okSealed (seal_ l) = true := by
  unfold okSealed seal_
  simp [tail4_length]

theorem okSealed_length {l : List UInt8} (h : okSealed l = true) : 4 ≤ l.length := by
  unfold okSealed at h; simp at h; exact h.1

/-- bits that differ within 32 of one another are told -/
theorem burst_told (s s' : List UInt8) (hlen : s'.length = s.length) (hok : okSealed s = true) (k m : Nat) (e : Nat → Bool) (hm : m ≤ 32) (hk : k + m ≤ 8 * s.length) (hne : ∃ i, i < m ∧ e i = true)
    (hb : ∀ t, t < 8 * s.length → bit s' t = (bit s t ^^ (decide (k ≤ t ∧ t < k + m) && e (t - k)))) : okSealed s' = false := by
  have h4 := okSealed_length hok
  have h1 := (okSealed_iff s h4).1 hok
  have hB : bitsOf s' = List.zipWith xor (bitsOf s) (List.replicate k false ++ (List.range m).map e ++ List.replicate ((bitsOf s).length - k - ((List.range m).map e).length) false) := by
    apply List.ext_getElem
    · simp [bitsOf_length, hlen]; omega
    · intro t ht1 ht2
      have e1 : (bitsOf s')[t] = (bitsOf s').getD t false := by simp [List.getD_eq_getElem?_getD, List.getElem?_eq_getElem ht1]
      have ht : t < 8 * s.length := by rw [bitsOf_length, hlen] at ht1; exact ht1
      have hts : t < (bitsOf s).length := by rw [bitsOf_length]; exact ht
      rw [e1, bitsOf_getD, hb t ht, List.getElem_zipWith]
      have e2 : (bitsOf s)[t] = bit s t := by rw [← bitsOf_getD]; simp [List.getD_eq_getElem?_getD, List.getElem?_eq_getElem hts]
      rw [e2]
      congr 1
      by_cases c1 : t < k
      · rw [List.getElem_append_left (by simp; omega), List.getElem_append_left (by simp; omega)]
        simp; omega
      · by_cases c2 : t < k + m
        · rw [List.getElem_append_left (by simp; omega), List.getElem_append_right (by simp; omega)]
          simp; omega
        · rw [List.getElem_append_right (by simp; omega)]
          simp; omega
  have hn := burst_ne (bitsOf s) (~~~ 0#32) k ((List.range m).map e) (by simp; exact hm) (by simp [bitsOf_length]; omega) (by
    obtain ⟨i, hi, he⟩ := hne
    refine ⟨i, by simp; exact hi, ?_⟩
    simp [List.getD_eq_getElem?_getD, List.getElem?_range hi, he])
  rw [← hB, ← crc_feed, ← crc_feed] at hn
  cases h : okSealed s' with
  | false => rfl
  | true =>
    have h2 := (okSealed_iff s' (by omega)).1 h
    exact absurd (h2.trans h1.symm) hn

/-- the byte whose bit r alone is set -/
def pw (r : Nat) : UInt8 := ⟨BitVec.twoPow 8 r⟩
theorem bit_flip (l : List UInt8) (j r : Nat) (z : UInt8) (hj : l[j]? = some z) (hr : r < 8) (t : Nat) : bit (l.set j (z ^^^ pw r)) t = (bit l t ^^ decide (t = 8 * j + r)) := by
  have hjl : j < l.length := by
    rcases Nat.lt_or_ge j l.length with h | h
    · exact h
    · rw [List.getElem?_eq_none h] at hj; cases hj
  unfold bit
  by_cases h : t / 8 = j
  · have e1 : (l.set j (z ^^^ pw r)).getD (t / 8) 0 = z ^^^ pw r := by
      rw [h, List.getD_eq_getElem?_getD, List.getElem?_set_self hjl]; rfl
    have e2 : l.getD (t / 8) 0 = z := by rw [h, List.getD_eq_getElem?_getD, hj]; rfl
    rw [e1, e2]
    have e3 : (z ^^^ pw r).toBitVec = z.toBitVec ^^^ BitVec.twoPow 8 r := rfl
    rw [e3, BitVec.getLsbD_xor, BitVec.getLsbD_twoPow]
    congr 1
    have hm : t % 8 < 8 := Nat.mod_lt _ (by omega)
    rw [Bool.eq_iff_iff]
    simp
    omega
  · have e1 : (l.set j (z ^^^ pw r)).getD (t / 8) 0 = l.getD (t / 8) 0 := by
      rw [List.getD_eq_getElem?_getD, List.getElem?_set_ne (fun e => h e.symm), ← List.getD_eq_getElem?_getD]
    have e2 : decide (t = 8 * j + r) = false := decide_eq_false (by omega)
    rw [e1, e2, Bool.xor_false]
end Crc
end Go.Proofs.Ytcaejcdmkihmbaa
