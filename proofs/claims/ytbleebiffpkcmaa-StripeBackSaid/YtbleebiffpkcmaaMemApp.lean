/- append, over any program: onto a row of the call's own, onto a full slice; the source nil, empty or not. -/
import Derived.Test.YtbleebiffpkcmaaMem
import Derived.Maps.AppendAt
import Derived.RegionTactic
import Derived.OwnWalk
import Derived.Laws.CopyOwn
import Derived.Laws.BytesArg
import Derived.Deep.QuietTactic
import Derived.BigQuiet
import Derived.Deep.RegionHeld3
namespace Go.Proofs.Ytbleebiffpkcmaa
open Go.RowKit

/-- what the laws on slices want to know of a slice's type -/
structure SliceTy (P : Program) (t e : TypeId) (size bytes : Nat) : Prop where
  und : P.underlying t = some (.slice e)
  info : ∃ i z, P.info? e = some i ∧ i.zero = some z ∧ i.size = size ∧ i.bytes = bytes ∧ z.cells.size = size
  pos : 0 < size

theorem SliceTy.mk' {P : Program} {t e : TypeId} {size bytes : Nat} {z : Value} (und : P.underlying t = some (.slice e)) (hi : (P.info? e).map (fun i => (i.zero, i.size, i.bytes)) = some (some z, size, bytes)) (hz : z.cells.size = size) (pos : 0 < size) : SliceTy P t e size bytes := by
  obtain ⟨i, h1, h2, h3, h4⟩ := info_parts hi
  exact ⟨und, ⟨i, z, h1, h2, h3, h4, hz⟩, pos⟩

theorem addr_add (b off j : Nat) : (⟨b, off, none⟩ : Addr).add j = ⟨b, off + j, none⟩ := by
  unfold Addr.add; split <;> simp_all

section
variable {P : Program} (w : World)

theorem At.add {w : World} {A : Option Addr} {xs : List Value} (h : At w A xs) (hn : 0 < xs.length) : ∃ ad, A = some ad ∧ ∀ j u, xs[j]? = some u → w.cell? (ad.add j) = some u := by
  obtain ⟨b, off, rfl, hc⟩ := h hn
  exact ⟨_, rfl, fun j u hu => by rw [addr_add]; exact hc j u hu⟩

theorem run_append_of_nil (base : Nat) {t ty e : TypeId} {size bytes : Nat} (hT : SliceTy P t e size bytes)
    (v : Value) (n : Nat) (xs : List Value) (hown : w.ownsRow base e size v n xs) (A : Option Addr) (c : Nat) : (Builtin.append_ #[t, t] ty #[v, .slice A 0 c]).run P w = .ok v w := by
  obtain ⟨i, z, hi, hz, _⟩ := hT.info
  have hf : (Builtin.firstCells i.size 0 (.slice A 0 c)).run P w = .ok #[] w := by
    cases A with
    | none => simp [Builtin.firstCells]
    | some a => exact run_firstCells_some (P := P) w i.size 0 a 0 c [] (by simp) (fun j u h => by simp at h)
  rcases hown.2 with ⟨rfl, rfl⟩ | ⟨g, cap, cur, rfl, _, _, hnc, _⟩
  · simp [Builtin.append_, run_underlying hT.und, sizeOf, typeInfo, hi, Builtin.lenOf, hf]
  · simp [Builtin.append_, run_underlying hT.und, sizeOf, typeInfo, hi, Builtin.lenOf, hf, hnc, storeCells]

theorem run_app_own (base : Nat) {t ty e : TypeId} {size bytes : Nat} (hT : SliceTy P t e size bytes)
    (v : Value) (n : Nat) (xs : List Value) (hown : w.ownsRow base e size v n xs)
    (A : Option Addr) (m c : Nat) (news : List Value) (hA : At w A news) (hl : news.length = m * size) (h1 : ∀ u ∈ news, u.oneCell' = true)
    (h63 : n + m ≤ maxLen) (hbytes : (n + m) * bytes ≤ 140737488355328) (hbase : base ≤ w.heap.size) :
    ∃ v' w', (Builtin.append_ #[t, t] ty #[v, .slice A m c]).run P w = .ok v' w' ∧ w'.ownsRow base e size v' (n + m) (xs ++ news) ∧ w.grownBy w' v.ownBlock ∧
      (v'.ownBlock = v.ownBlock ∨ v'.ownBlock = some w.heap.size) := by
  rcases Nat.eq_zero_or_pos m with rfl | hm
  · have hn : news = [] := List.eq_nil_of_length_eq_zero (by omega)
    subst hn
    exact ⟨v, w, run_append_of_nil w base hT v n xs hown A c, by simpa using hown, World.grownBy.refl w _, .inl rfl⟩
  · have hp : 0 < news.length := by rw [hl]; exact Nat.mul_pos hm hT.pos
    obtain ⟨ad, rfl, hc⟩ := hA.add hp
    obtain ⟨i, z, hi, hz, hs, hb, hzs⟩ := hT.info
    obtain ⟨v', w', hrun, h2, h3, _, h5⟩ := run_append_own_at (P := P) w base t ty e i z size bytes hT.und hi hz hs hb hzs hT.pos v n xs hown ad m c news hl hc h1 h63 hbytes hbase
    exact ⟨v', w', hrun, h2, h3, h5⟩

/-- onto a slice that is full: a new row -/
theorem run_app_full {t ty e : TypeId} {size bytes : Nat} (hT : SliceTy P t e size bytes)
    (B : Option Addr) (n : Nat) (olds : List Value) (hB : At w B olds) (hlo : olds.length = n * size)
    (A : Option Addr) (m c : Nat) (news : List Value) (hA : At w A news) (hl : news.length = m * size) (h1 : ∀ u ∈ news, u.oneCell' = true)
    (hm : 0 < m) (h63 : n + m ≤ maxLen) (hbytes : (n + m) * bytes ≤ 140737488355328) :
    ∃ v' w', (Builtin.append_ #[t, t] ty #[.slice B n n, .slice A m c]).run P w = .ok v' w' ∧ w'.ownsRow w.heap.size e size v' (n + m) (olds ++ news) ∧ w.grownBy w' none := by
  have hp : 0 < news.length := by rw [hl]; exact Nat.mul_pos hm hT.pos
  obtain ⟨ad, rfl, hc⟩ := hA.add hp
  obtain ⟨i, z, hi, hz, hs, hb, hzs⟩ := hT.info
  rcases Nat.eq_zero_or_pos n with rfl | hn
  · obtain rfl : olds = [] := List.eq_nil_of_length_eq_zero (by omega)
    cases B with
    | some b =>
      exact run_append_arg_grows (P := P) w t ty e i z size bytes hT.und hi hz hs hb hzs hT.pos b 0 0 [] hlo (fun j u h => by simp at h) ad m c news hl hc (by omega) h63 hbytes
    | none =>
      obtain ⟨v', w', hrun, r1, r2, _⟩ := run_append_own (P := P) w w.heap.size t ty e i z size bytes hT.und hi hz hs hb hzs hT.pos (.slice none 0 0) 0 [] (World.ownsRow_nil w _ e size) ad m c news hl hc h1 h63 hbytes (Nat.le_refl _)
      exact ⟨v', w', hrun, r1, r2⟩
  · have hpo : 0 < olds.length := by rw [hlo]; exact Nat.mul_pos hn hT.pos
    obtain ⟨b, rfl, hbc⟩ := hB.add hpo
    exact run_append_arg_grows (P := P) w t ty e i z size bytes hT.und hi hz hs hb hzs hT.pos b n n olds hlo hbc ad m c news hl hc (by omega) h63 hbytes
end

section
variable {P : Program} {w : World} {o : Oper} {a : Act} {K : Act → World → Prop} {Q : Exit → Act → World → Prop}

theorem wp_app_own (s x : Operand) {t e : TypeId} {size bytes : Nat} (hT : SliceTy P t e size bytes) (ho : o.op = .call { callee := .builtin .append, args := #[s, x], argTypes := #[t, t] })
    (base : Nat) (v : Value) (n : Nat) (xs : List Value) (hs : a.eval s = v) (hown : w.ownsRow base e size v n xs)
    (A : Option Addr) (m c : Nat) (news : List Value) (hx : a.eval x = .slice A m c) (hA : At w A news) (hl : news.length = m * size) (h1 : ∀ u ∈ news, u.oneCell' = true)
    (h63 : n + m ≤ maxLen) (hbytes : (n + m) * bytes ≤ 140737488355328) (hbase : base ≤ w.heap.size)
    (h : ∀ v' w', w'.ownsRow base e size v' (n + m) (xs ++ news) → w.grownBy w' v.ownBlock → (v'.ownBlock = v.ownBlock ∨ v'.ownBlock = some w.heap.size) → K (a.put o.dst v') w') : o.wp P a w K Q := by
  obtain ⟨v', w', hrun, h2, h3, h4⟩ := run_app_own (P := P) (ty := o.type) w base hT v n xs hown A m c news hA hl h1 h63 hbytes hbase
  unfold Oper.wp execOp
  simp only [ho, resolve, invoke, builtin, Sem.run_bind, Sem.run_pure, Result.andThen_ok, List.map_toArray, List.map_cons, List.map_nil, hs, hx, hrun]
  exact h v' w' h2 h3 h4

theorem wp_app_full (s x : Operand) {t e : TypeId} {size bytes : Nat} (hT : SliceTy P t e size bytes) (ho : o.op = .call { callee := .builtin .append, args := #[s, x], argTypes := #[t, t] })
    (B : Option Addr) (n : Nat) (olds : List Value) (hs : a.eval s = .slice B n n) (hB : At w B olds) (hlo : olds.length = n * size)
    (A : Option Addr) (m c : Nat) (news : List Value) (hx : a.eval x = .slice A m c) (hA : At w A news) (hl : news.length = m * size) (h1 : ∀ u ∈ news, u.oneCell' = true)
    (hm : 0 < m) (h63 : n + m ≤ maxLen) (hbytes : (n + m) * bytes ≤ 140737488355328)
    (h : ∀ v' w', w'.ownsRow w.heap.size e size v' (n + m) (olds ++ news) → w.grownBy w' none → K (a.put o.dst v') w') : o.wp P a w K Q := by
  obtain ⟨v', w', hrun, h2, h3⟩ := run_app_full (P := P) (ty := o.type) w hT B n olds hB hlo A m c news hA hl h1 hm h63 hbytes
  unfold Oper.wp execOp
  simp only [ho, resolve, invoke, builtin, Sem.run_bind, Sem.run_pure, Result.andThen_ok, List.map_toArray, List.map_cons, List.map_nil, hs, hx, hrun]
  exact h v' w' h2 h3

theorem wpList_app_own {ops : Array Oper} {rest : List Oper} (hgd : o.guard = none) (s x : Operand) {t e : TypeId} {size bytes : Nat} (hT : SliceTy P t e size bytes) (ho : o.op = .call { callee := .builtin .append, args := #[s, x], argTypes := #[t, t] })
    (base : Nat) (v : Value) (n : Nat) (xs : List Value) (hs : a.eval s = v) (hown : w.ownsRow base e size v n xs)
    (A : Option Addr) (m c : Nat) (news : List Value) (hx : a.eval x = .slice A m c) (hA : At w A news) (hl : news.length = m * size) (h1 : ∀ u ∈ news, u.oneCell' = true)
    (h63 : n + m ≤ maxLen) (hbytes : (n + m) * bytes ≤ 140737488355328) (hbase : base ≤ w.heap.size)
    (h : ∀ v' w', w'.ownsRow base e size v' (n + m) (xs ++ news) → w.grownBy w' v.ownBlock → (v'.ownBlock = v.ownBlock ∨ v'.ownBlock = some w.heap.size) → wpList P ops Q rest (a.put o.dst v') w') : wpList P ops Q (o :: rest) a w :=
  wpList_plain hgd fun _ hK => wp_app_own s x hT ho base v n xs hs hown A m c news hx hA hl h1 h63 hbytes hbase fun v' w' h2 h3 h4 => hK _ _ (h v' w' h2 h3 h4)

theorem wpList_app_full {ops : Array Oper} {rest : List Oper} (hgd : o.guard = none) (s x : Operand) {t e : TypeId} {size bytes : Nat} (hT : SliceTy P t e size bytes) (ho : o.op = .call { callee := .builtin .append, args := #[s, x], argTypes := #[t, t] })
    (B : Option Addr) (n : Nat) (olds : List Value) (hs : a.eval s = .slice B n n) (hB : At w B olds) (hlo : olds.length = n * size)
    (A : Option Addr) (m c : Nat) (news : List Value) (hx : a.eval x = .slice A m c) (hA : At w A news) (hl : news.length = m * size) (h1 : ∀ u ∈ news, u.oneCell' = true)
    (hm : 0 < m) (h63 : n + m ≤ maxLen) (hbytes : (n + m) * bytes ≤ 140737488355328)
    (h : ∀ v' w', w'.ownsRow w.heap.size e size v' (n + m) (olds ++ news) → w.grownBy w' none → wpList P ops Q rest (a.put o.dst v') w') : wpList P ops Q (o :: rest) a w :=
  wpList_plain hgd fun _ hK => wp_app_full s x hT ho B n olds hs hB hlo A m c news hx hA hl h1 hm h63 hbytes fun v' w' h2 h3 => hK _ _ (h v' w' h2 h3)
end

/-- a row of zero bytes: closed to the walk's simp -/
def zrow (n : Nat) : List Value := List.replicate n (.int .u8 0)
theorem zrow_length (n : Nat) : (zrow n).length = n := by simp [zrow]
theorem zrow_one (n : Nat) : ∀ v ∈ zrow n, v.oneCell' = true := by
  intro v hv
  have := List.eq_of_mem_replicate hv
  subst this; rfl

/-- make: of an element whose cells are all the same -/
theorem made_same (z : Value) (v : Value) (size k : Nat) (hz : z.cells = Array.replicate size v) (hs : 0 < size) : madeCells z.cells k = (List.replicate k v).toArray := by
  rw [hz]
  apply Array.ext
  · simp [madeCells]
  · intro i h1 h2
    simp only [madeCells, Array.getElem_map, Array.getElem_range, Array.size_replicate, List.getElem_toArray, List.getElem_replicate]
    rw [getElem!_pos _ _ (by simp; exact Nat.mod_lt _ hs)]
    simp

theorem wpList_make {P : Program} {w : World} {ops : Array Oper} {rest : List Oper} {o : Oper} {a : Act} {Q : Exit → Act → World → Prop} (hgd : o.guard = none) (l c : Operand) {t e : TypeId} {size bytes : Nat} (hT : SliceTy P t e size bytes)
    (hop : o.op = Op.makeSlice t l c) (v : Value) (hv : ∀ i z, P.info? e = some i → i.zero = some z → z.cells = Array.replicate size v)
    (L C : Int) (n m : Nat) (hl : a.eval l = .int .i64 L) (hc : a.eval c = .int .i64 C) (hL : L = (n : Int)) (hC : C = (m : Int)) (hnm : n ≤ m) (hb : bytes * m ≤ 281474976710656) (h63 : m ≤ 281474976710656) (cs : List Value) (hcs : List.replicate (m * size) v = cs)
    (h : wpList P ops Q rest (a.put o.dst (.slice (some ⟨w.heap.size, 0, none⟩) n m)) (w.alloc (.cells cs.toArray e))) : wpList P ops Q (o :: rest) a w := by
  refine wpList_plain hgd fun K hK => ?_
  obtain ⟨i, z, hi, hz, hs, hby, hzs⟩ := hT.info
  have hb' : (i.bytes : Int) * C ≤ 281474976710656 := by
    rw [hby, hC, ← Int.natCast_mul]; omega
  have hrun := run_make (P := P) w t e i z hT.und hi hz .i64 .i64 L C (by omega) (by omega) hb' (by omega)
  rw [hs, made_same z v size _ (hv i z hi hz) hT.pos, hL, hC, Int.toNat_natCast, Int.toNat_natCast, hcs] at hrun
  unfold Oper.wp execOp
  rw [← hL, ← hC] at hrun
  simp only [hop, hl, hc, Sem.run_bind, Sem.run_pure, hrun, Result.andThen_ok]
  exact hK _ _ h

theorem run_copy_at {P : Program} (w : World) (dT sT ty elem : TypeId) (hu : P.underlying dT = some (.slice elem)) (hsz : (P.info? elem).map (·.size) = some 1)
    (g off dLen dCap : Nat) (A : Option Addr) (sLen sCap : Nat) (cur : List Value) (t : TypeId) (hB : Blk w g t cur) (cs : List Value) (hA : At w A cs) (hn : cs.length = Nat.min sLen dLen)
    (hfit : off + cs.length ≤ cur.length) (h1 : ∀ v ∈ cs, v.oneCell' = true) :
    (Builtin.copy_ #[dT, sT] ty #[.slice (some ⟨g, off, none⟩) dLen dCap, .slice A sLen sCap]).run P w = .ok (goInt cs.length) (w.setRow g (splice cur off cs).toArray) := by
  rcases Nat.eq_zero_or_pos cs.length with h0 | h0
  · obtain rfl : cs = [] := List.eq_nil_of_length_eq_zero h0
    have : splice cur off [] = cur := by simp [splice]
    rw [this, setRow_self w g _ t (0, 0) hB]
    exact run_copy_none (P := P) w dT sT ty elem _ A dLen dCap sLen sCap hu hsz (by simpa using hn.symm)
  · obtain ⟨ad, rfl, hc⟩ := hA.add h0
    have := run_copy_row (P := P) w dT sT ty elem g off dLen dCap ad sLen sCap cur.toArray t cs hu hsz hB hn hc (by simpa using hfit) h1
    rw [this]
    simp [splice]

theorem wp_copy {P : Program} {w : World} {o : Oper} {a : Act} {K : Act → World → Prop} {Q : Exit → Act → World → Prop} (d s : Operand) {dT sT : TypeId}
    (ho : o.op = .call { callee := .builtin .copy, args := #[d, s], argTypes := #[dT, sT] }) {elem : TypeId} (hu : P.underlying dT = some (.slice elem)) (hsz : (P.info? elem).map (·.size) = some 1)
    (g off dLen dCap : Nat) (A : Option Addr) (sLen sCap : Nat) (hd : a.eval d = .slice (some ⟨g, off, none⟩) dLen dCap) (hs : a.eval s = .slice A sLen sCap)
    (cur : List Value) (t : TypeId) (hB : Blk w g t cur) (cs : List Value) (hA : At w A cs) (hn : cs.length = Nat.min sLen dLen) (hfit : off + cs.length ≤ cur.length) (h1 : ∀ v ∈ cs, v.oneCell' = true)
    (h : K (a.put o.dst (goInt cs.length)) (w.setRow g (splice cur off cs).toArray)) : o.wp P a w K Q := by
  have hrun := run_copy_at (P := P) w dT sT o.type elem hu hsz g off dLen dCap A sLen sCap cur t hB cs hA hn hfit h1
  unfold Oper.wp
  simp [execOp, ho, resolve, invoke, builtin, hd, hs, hrun, Result.andThen]
  exact h

theorem wpList_copy {P : Program} {w : World} {ops : Array Oper} {rest : List Oper} {o : Oper} {a : Act} {Q : Exit → Act → World → Prop} (hgd : o.guard = none) (d s : Operand) {dT sT : TypeId}
    (ho : o.op = .call { callee := .builtin .copy, args := #[d, s], argTypes := #[dT, sT] }) {elem : TypeId} (hu : P.underlying dT = some (.slice elem)) (hsz : (P.info? elem).map (·.size) = some 1)
    (g off dLen dCap : Nat) (A : Option Addr) (sLen sCap : Nat) (hd : a.eval d = .slice (some ⟨g, off, none⟩) dLen dCap) (hs : a.eval s = .slice A sLen sCap)
    (cur : List Value) (t : TypeId) (hB : Blk w g t cur) (cs : List Value) (hA : At w A cs) (hn : cs.length = Nat.min sLen dLen) (hfit : off + cs.length ≤ cur.length) (h1 : ∀ v ∈ cs, v.oneCell' = true)
    (h : wpList P ops Q rest (a.put o.dst (goInt cs.length)) (w.setRow g (splice cur off cs).toArray)) : wpList P ops Q (o :: rest) a w :=
  wpList_plain hgd fun _ hK => wp_copy d s ho hu hsz g off dLen dCap A sLen sCap hd hs cur t hB cs hA hn hfit h1 (hK _ _ h)

theorem Blk.own {w : World} {g : Nat} {e : TypeId} {cs : List Value} (h : Blk w g e cs) {base n m size : Nat} (hb : base ≤ g) (hcs : cs.length = m * size) (hnm : n ≤ m) (hm : m ≤ maxLen) {xs : List Value} (hx : cs.take (n * size) = xs) :
    w.ownsRow base e size (.slice (some ⟨g, 0, none⟩) n m) n xs := by
  refine ⟨?_, .inr ⟨g, m, cs.toArray, rfl, hb, h, hnm, hm, by simpa using hcs, by simpa using hx⟩⟩
  rw [← hx, List.length_take, hcs]
  exact Nat.min_eq_left (Nat.mul_le_mul_right _ hnm)

/-- what is owned is read -/
theorem own_at {w : World} {base n size : Nat} {e : TypeId} {v : Value} {xs : List Value} (h : w.ownsRow base e size v n xs) : ∃ A c, v = .slice A n c ∧ n ≤ c ∧ c ≤ maxLen ∧ At w A xs := by
  rcases h.2 with ⟨rfl, rfl⟩ | ⟨g, cap, cur, rfl, hg, hh, hnc, hcm, hcs, hx⟩
  · have : xs = [] := List.eq_nil_of_length_eq_zero (by have := h.1; omega)
    subst this
    exact ⟨none, 0, rfl, Nat.le_refl _, by unfold maxLen; omega, At.nil⟩
  · refine ⟨_, _, rfl, hnc, hcm, fun _ => ⟨g, 0, rfl, fun j u hu => ?_⟩⟩
    have := h.cells (g := g) rfl j u hu
    rwa [addr_add] at this

theorem own_shape {w : World} {base n size : Nat} {e : TypeId} {v : Value} {xs : List Value} (h : w.ownsRow base e size v n xs) (hn : 0 < n) :
    ∃ g c, v = .slice (some ⟨g, 0, none⟩) n c ∧ n ≤ c ∧ c ≤ maxLen ∧ base ≤ g ∧ At w (some ⟨g, 0, none⟩) xs := by
  rcases h.2 with ⟨rfl, rfl⟩ | ⟨g, cap, cur, rfl, hg, hh, hnc, hcm, hcs, hx⟩
  · omega
  · refine ⟨g, cap, rfl, hnc, hcm, hg, fun _ => ⟨g, 0, rfl, fun j u hu => ?_⟩⟩
    have := h.cells (g := g) rfl j u hu
    rwa [addr_add] at this

/-- bytes as a string -/
def str (l : List UInt8) : ByteArray := ⟨l.toArray⟩
theorem str_inj {a b : List UInt8} (h : str a = str b) : a = b := by
  unfold str at h
  injection h with h
  exact List.toArray_inj h
theorem str_toList (l : List UInt8) : (str l).toList = l := ByteArray.toList_mk l
theorem str_beq (a b : List UInt8) : ((str a).toList == (str b).toList) = decide (a = b) := by
  rw [str_toList, str_toList, Bool.eq_iff_iff]; simp
theorem str_size (l : List UInt8) : (str l).size = l.length := by simp [str, ByteArray.size]

theorem run_str {P : Program} (w : World) (src dst e : TypeId) (hs : P.underlying src = some (.slice e)) (he : P.underlying e = some (.int .u8)) (hd : P.underlying dst = some .string)
    (A : Option Addr) (n c : Nat) (l : List UInt8) (hA : At w A (bs l)) (hn : n = l.length) : (convert src dst (.slice A n c)).run P w = .ok (.string (str l)) w := by
  subst hn
  rw [run_convert_bytes_string w src dst e A l.length c hs he hd]
  have hz : ∀ A, l = [] → (Conv.bytesToString (.slice A l.length c)).run P w = .ok (.string (str l)) w := by
    intro A hl
    subst hl
    cases A with
    | none => simp [Conv.bytesToString]; rfl
    | some ad =>
      exact run_bytesToString (P := P) w ad _ c [] (run_loadCells_list (P := P) w ad [] (fun j v h => by simp at h))
  rcases Nat.eq_zero_or_pos l.length with h0 | h0
  · exact hz A (List.eq_nil_of_length_eq_zero h0)
  · obtain ⟨ad, rfl, hc⟩ := hA.add (by rw [bs_length]; exact h0)
    have hl := run_loadCells_list (P := P) w ad (bs l) hc
    rw [bs_length] at hl
    have hm : bs l = (l.map n8).map (Value.int .u8) := by simp [bs]
    rw [hm] at hl
    rw [run_bytesToString w ad _ c _ hl, foldl_push_bytes]
    congr 2
    unfold str
    simp only [List.map_map, ByteArray.mk.injEq]
    have : (fun n : Int => UInt8.ofNat n.toNat) ∘ n8 = id := by
      funext b; simp [n8]
    rw [this]
    simp [ByteArray.empty, ByteArray.emptyWithCapacity]
    rfl

theorem below_dn {B : Nat} {a w : World} (h : Below B a w) (n : Nat) : Below B a (w.drewN n) := below_drewN h n

theorem own_below {w w' : World} {base n size : Nat} {e : TypeId} {v : Value} {xs : List Value} (h : w.ownsRow base e size v n xs) (hb : Below w.heap.size w w') : w'.ownsRow base e size v n xs := by
  refine ⟨h.1, ?_⟩
  rcases h.2 with h2 | ⟨g, cap, cur, hv, hg, hh, r⟩
  · exact .inl h2
  · exact .inr ⟨g, cap, cur, hv, hg, by rw [hb.block g (lt_of_block hh)]; exact hh, r⟩

theorem own_mono {w : World} {base base' n size : Nat} {e : TypeId} {v : Value} {xs : List Value} (h : w.ownsRow base e size v n xs) (hb : base' ≤ base) : w.ownsRow base' e size v n xs := by
  refine ⟨h.1, ?_⟩
  rcases h.2 with h2 | ⟨g, cap, cur, hv, hg, r⟩
  · exact .inl h2
  · exact .inr ⟨g, cap, cur, hv, by omega, r⟩

theorem one_bs (l : List UInt8) : ∀ u ∈ bs l, u.oneCell' = true := by
  intro u hu
  unfold bs at hu
  obtain ⟨b, _, rfl⟩ := List.mem_map.1 hu
  rfl
end Go.Proofs.Ytbleebiffpkcmaa
