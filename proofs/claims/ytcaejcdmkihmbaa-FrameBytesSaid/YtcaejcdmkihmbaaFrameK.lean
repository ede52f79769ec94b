/- The law FrameBack: aids; the inputs that it leaves out. -/
import Derived.Test.YtcaejcdmkihmbaaFrameS
import Derived.Deep.WholeRow
import Derived.StillTailTactics
namespace Go.Proofs.Ytcaejcdmkihmbaa
open Go.RowKit

theorem exec_load_at {P : Program} {o : Oper} {ev : Operand → Value} {w : World} (ty : TypeId) (x : Operand) (ho : o.op = .load ty x) (b off : Nat) (hx : ev x = .pointer (some ⟨b, off, none⟩)) (cs : List Value) (d : TypeDesc)
    (hA : At w (some ⟨b, off, none⟩) cs) (h0 : 0 < cs.length) (hu : P.underlying ty = some d) (hd : (match d with | .struct _ | .array _ _ => true | _ => false) = true) (hi : (P.info? ty).map (·.size) = some cs.length) :
    (execOp ev o).run P w = .ok (.value (.agg cs.toArray)) w := by
  obtain ⟨b', off', e, hlt, hc⟩ := hA.all h0
  cases e
  have hrun := run_load_at (P := P) w hu hd hi b off hc
  unfold execOp
  simp only [ho, hx, Instr.loadAt, Instr.sureAddr, Sem.run_bind, Sem.run_pure, Result.andThen_ok, hrun]

theorem place512 (a : Int) : ∃ m : Nat, m < 512 ∧ (wrap64 (a.tmod 512 + 512)).tmod 512 = (m : Int) := by
  have hp : (0 : Int) < 512 := by omega
  have h1 := Int.tmod_lt_of_pos a hp
  have h2 := Int.lt_tmod_of_pos a hp
  generalize a.tmod 512 = x at *
  have hw : wrap64 (x + 512) = x + 512 := IntWalk.wrap64_in _ ⟨by omega, by omega⟩
  rw [hw]
  have h3 : 0 ≤ x + 512 := by omega
  rw [Int.tmod_eq_emod_of_nonneg h3]
  exact ⟨((x + 512) % 512).toNat, by omega, by omega⟩

theorem u32_or_1 (b : BitVec 32) : bits .or .u32 (n32 b) 1 = n32 (b ||| 1#32) := by
  have h : (1 : Int) = n32 1#32 := by decide
  rw [h]
  unfold n32
  rw [u32_or_nat _ _ b.isLt (by decide), BitVec.toNat_or]
theorem bit_at (y : BitVec 32) (k : Nat) : bits .and .u32 (n32 y / 2 ^ k) 1 = if y.getLsbD k then 1 else 0 := by
  have h3 : n32 y / (2 ^ k : Int) = n32 (y >>> k) := by
    have := n32_shr y k (2 ^ k) rfl
    rw [← this]; congr 1; try simp
  have h1 : bits .and .u32 (n32 (y >>> k)) 1 = n32 ((y >>> k) &&& 1#32) := u32_and_bv _ 1#32
  rw [h3, h1, BitVec.and_one_eq_setWidth_ofBool_getLsbD]
  have h4 : (y >>> k).getLsbD 0 = y.getLsbD k := by simp
  rw [h4]
  cases y.getLsbD k <;> decide
theorem pw_n8 : ∀ r : Nat, r < 8 → (2 ^ r : Int) % 256 = n8 (Crc.pw r) := by
  intro r hr
  have : ∀ r : Fin 8, (2 ^ r.val : Int) % 256 = n8 (Crc.pw r.val) := by decide
  exact this ⟨r, hr⟩
theorem grown_drew {w w' : World} {row : Option Nat} (h : w.grownBy w' row) : w.grownBy w'.drew row := ⟨h.os, h.tape, h.output, h.size, h.block⟩

theorem u8_xor_n8 (a b : UInt8) : bits .xor .u8 (n8 a) (n8 b) = n8 (a ^^^ b) := by
  unfold n8
  rw [u8_xor_nat _ _ a.toNat_lt b.toNat_lt, UInt8.toNat_xor]
theorem pw_xor (z : UInt8) (r : Nat) (hr : r < 8) : bits .xor .u8 (n8 z) (2 ^ r % 256) = n8 (z ^^^ Crc.pw r) := by
  rw [pw_n8 r hr, u8_xor_n8]

/-- a frame is laid into the block that was made last -/
theorem wpList_frame_new {w : World} {ops : Array Oper} {rest : List Oper} {o : Oper} {a : Act} {Q : Exit → Act → World → Prop} (hgd : o.guard = none) (x y : Operand) (ho : o.op = .store 33 x y)
    (hx : a.eval x = .pointer (some ⟨w.heap.size, 0, none⟩)) (s i p q m : Int) (A : Option Addr) (n c : Nat) (hy : a.eval y = .agg (fc s i p q m A n c).toArray)
    (h : wpList Try.prog ops Q rest (a.put o.dst undef) (w.alloc (.cells #[.int .i64 s, .int .i64 i, .int .i64 p, .int .i64 q, .int .u32 m, .slice A n c] 33))) : wpList Try.prog ops Q (o :: rest) a (w.alloc (.cells zfc.toArray 33)) := by
  refine wpList_store_row hgd _ x y ho w.heap.size (fc s i p q m A n c).toArray hx hy 33 zfc.toArray (Blk.new w _ zfc) (by kernel_rfl) rfl (fc_all _ _ _ _ _ _ _ _) ?_
  rw [World.setRow_alloc_new]
  exact h

set_option maxRecDepth 100000 in
set_option maxHeartbeats 2000000 in
theorem fback_great (A R : Option Addr) (n c nr cr : Nat) (seq inc bits_ at_ : Int) (w : World) (h : 90 < n ∨ 1000 < nr) :
    Calls Try.prog 6 #[.slice A n c, .int .i64 seq, .int .i64 inc, .int .u32 bits_, .int .i64 at_, .slice R nr cr] w fun e w' => e = .returned (.bool true) ∧ Below w.heap.size w w' := by
  by_cases h1 : 90 < n
  · have h2 : (90 : Int) < (n : Int) := by omega
    clear h
    go_enter Try.func6, Try.ntmps6
    go_wp2_with fail
    refine (wakes4_any _).mono ?_
    rintro e w2 ⟨rfl, hb2⟩
    go_wp2_with fail
    go_ret
    exact ⟨rfl, hb2⟩
  · have h2 : ¬ (90 : Int) < (n : Int) := by omega
    have h3 : (1000 : Int) < (nr : Int) := by omega
    clear h h1
    go_enter Try.func6, Try.ntmps6
    go_wp2_with fail
    refine (wakes4_any _).mono ?_
    rintro e w2 ⟨rfl, hb2⟩
    go_wp2_with fail
    go_ret
    exact ⟨rfl, hb2⟩
end Go.Proofs.Ytcaejcdmkihmbaa
