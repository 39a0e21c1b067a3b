/- The operations, one rule each. No condition. -/
import Derived.Test.YtiobmbicldjikaaGreatDoorRep
import Derived.Laws.IdiomStrings
set_option linter.unusedVariables false
namespace Go.Proofs.YtiobmbicldjikaaGreatDoor
open Go.RowKit (Below)

class TI (P : Program) (t : TypeId) (ag : outParam Bool) (n : outParam Nat) : Prop where
  agg : ∀ w, (isAgg t).run P w = .ok ag w
  size : ∀ w, (sizeOf t).run P w = .ok n w
class SlT (P : Program) (t : TypeId) (el : outParam TypeId) (n : outParam Nat) : Prop where
  und : P.underlying t = some (.slice el)
  size : ∀ w, (sizeOf el).run P w = .ok n w
class FdT (P : Program) (s : TypeId) (f : Nat) (off : outParam Nat) : Prop where
  ok : ∀ w b o, (Instr.fieldAt s (.pointer (some ⟨b, o, none⟩)) f).run P w = .ok (.pointer (some ⟨b, o + off, none⟩)) w
class StrT (P : Program) (t : TypeId) : Prop where
  und : P.underlying t = some .string
class IntT (P : Program) (t : TypeId) (k : outParam IntKind) : Prop where
  und : P.underlying t = some (.int k)
class BytT (P : Program) (t : TypeId) (e : outParam TypeId) : Prop where
  und : P.underlying t = some (.slice e)
  el : P.underlying e = some (.int .u8)
class BoolT (P : Program) (t : TypeId) : Prop where
  und : P.underlying t = some .bool

/-- Cells that may be read: of a piece of ours, or of memory that was there before. -/
def Src (W : World) (L : List Hp) (b base : Nat) (vs : List Value) : Prop := ∀ w, St W w L → Holds w (cellsAt b base vs)
theorem src_box {W : World} {L : List Hp} {b base : Nat} {vs : List Value} (h : InL (cellsAt b base vs) L) : Src W L b base vs := fun w hs => holds_mem hs h.mem
theorem src_old {W : World} {L : List Hp} {b base : Nat} {vs : List Value} (h : Holds W (cellsAt b base vs)) : Src W L b base vs := fun w hs => holds_old hs h
theorem src_sub {W : World} {L : List Hp} {b base : Nat} {vs : List Value} {H : Hp} (h : ∀ x, x ∈ cellsAt b base vs → x ∈ H) (hm : InL H L) : Src W L b base vs := fun w hs => (holds_mem hs hm.mem).sub h

def nth : List Value → Nat → Option Value
  | [], _ => none
  | v :: _, 0 => some v
  | _ :: vs, i + 1 => nth vs i
theorem nth_eq : ∀ (vs : List Value) (i : Nat), nth vs i = vs[i]?
  | [], _ => rfl
  | _ :: _, 0 => rfl
  | _ :: vs, i + 1 => by simpa [nth] using nth_eq vs i
/-- Cells as the value of a variable. -/
inductive LdV : Bool → List Value → Value → Prop
  | agg {cs} : LdV true cs (.agg cs.toArray)
  | one {v} : LdV false [v] v

section
variable {P : Program} {o : Oper} {W : World} {n : Nat} {e : Env} {L : List Hp}

theorem q_move {x : Operand} {v : Value} (ho : o.op = .move x) (hx : e.ev x = some v) : QOp P o W n e L v := .mk fun a w ha hs => by
  simp [execOp, ho, ha.ev hx]
theorem q_assign {x : Operand} {v : Value} (ho : o.op = .assign x) (hx : e.ev x = some v) : QOp P o W n e L v := .mk fun a w ha hs => by
  simp [execOp, ho, ha.ev hx]
theorem q_pick {c x y : Operand} {b : Bool} {u v : Value} (ho : o.op = .pick c x y) (hc : e.ev c = some (.bool b)) (hx : e.ev x = some u) (hy : e.ev y = some v) : QOp P o W n e L (if b then u else v) := .mk fun a w ha hs => by
  simp [execOp, ho, ha.ev hx, ha.ev hy, ha.ev hc, asBool]
theorem q_pick_t {c x y : Operand} {b : Bool} {u : Value} (ho : o.op = .pick c x y) (hc : e.ev c = some (.bool b)) (hx : e.ev x = some u) (hb : b = true) : QOp P o W n e L u := .mk fun a w ha hs => by
  subst hb; simp [execOp, ho, ha.ev hx, ha.ev hc, asBool]
theorem q_pick_f {c x y : Operand} {b : Bool} {u : Value} (ho : o.op = .pick c x y) (hc : e.ev c = some (.bool b)) (hx : e.ev y = some u) (hb : b = false) : QOp P o W n e L u := .mk fun a w ha hs => by
  subst hb; simp [execOp, ho, ha.ev hx, ha.ev hc, asBool]
theorem q_fieldAddr {s : TypeId} {x : Operand} {f off b base k : Nat} (ho : o.op = .fieldAddr s x f) [h : FdT P s f off] (hx : e.ev x = some (.pointer (some ⟨b, base + k, none⟩))) :
    QOp P o W n e L (.pointer (some ⟨b, base + (k + off), none⟩)) := .mk fun a w ha hs => by
  simp [execOp, ho, ha.ev hx, h.ok, Nat.add_assoc]
theorem q_nilCheck {x : Operand} {p : Addr} (ho : o.op = .nilCheck x) (hx : e.ev x = some (.pointer (some p))) : QOp P o W n e L (.pointer (some p)) := .mk fun a w ha hs => by
  simp [execOp, ho, ha.ev hx]
theorem q_indexAddr {t el : TypeId} {x ix : Operand} {a : Option Addr} {len cap sz k : Nat} (ho : o.op = .indexAddr t x ix) [h : SlT P t el sz] (hx : e.ev x = some (.slice a len cap)) (hi : e.ev ix = some (.int .i64 (k : Int)))
    (hlt : k < len) (ha : Adr a len) : QOp P o W n e L (.pointer (some ⟨blk a, (ofs a + k * sz) + 0, none⟩)) := .mk fun ac w hag hs => by
  have h1 : (0 : Int) ≤ k ∧ (k : Int) < len := by omega
  have ha' := ha (by omega)
  simp only [execOp, ho, hag.ev hx, hag.ev hi, Instr.indexAt, asIntOf, Sem.run_bind, Sem.run_pure, Result.andThen_ok, run_underlying h.und, Int.toNat_natCast, if_pos h1]
  rw [ha']
  simp only [Sem.run_bind, Sem.run_pure, Result.andThen_ok, h.size, Addr.add_lit, Nat.add_zero]
  rfl
theorem q_indexAddrI {t el : TypeId} {x ix : Operand} {a : Option Addr} {len cap sz : Nat} {i : Int} (ho : o.op = .indexAddr t x ix) [h : SlT P t el sz] (hx : e.ev x = some (.slice a len cap)) (hi : e.ev ix = some (.int .i64 i))
    (h0 : 0 ≤ i) (hlt : i.toNat < len) (ha : Adr a len) : QOp P o W n e L (.pointer (some ⟨blk a, (ofs a + i.toNat * sz) + 0, none⟩)) :=
  q_indexAddr ho hx (by rw [hi]; congr 2; omega) hlt ha
theorem run_loadCells_holds {w : World} {b base : Nat} {vs cs : List Value} {k m : Nat} (hh : Holds w (cellsAt b base vs)) (ht : Tk k m vs cs) : (loadCells ⟨b, base + k, none⟩ m).run P w = .ok cs.toArray w := by
  have hl := ht.spec.1
  have := run_loadCells_list (P := P) w ⟨b, base + k, none⟩ cs (fun j v hv => by
    have := hh (b, base + (k + j)) v (mem_cellsAt.2 ⟨k + j, ht.spec.2 j v hv, rfl⟩)
    rw [Addr.add_lit]; simpa [Nat.add_assoc] using this)
  rw [hl] at this
  exact this
theorem run_loadVar_holds {t : TypeId} {ag : Bool} {m : Nat} [h : TI P t ag m] {w : World} {b base : Nat} {vs cs : List Value} {k : Nat} {v : Value} (hh : Holds w (cellsAt b base vs)) (ht : Tk k m vs cs) (hv : LdV ag cs v) :
    (loadVar t ⟨b, base + k, none⟩).run P w = .ok v w := by
  cases hv with
  | agg => simp [loadVar, h.agg, h.size, run_loadCells_holds hh ht]
  | one =>
    have hc := hh (b, base + (k + 0)) v (mem_cellsAt.2 ⟨k + 0, ht.spec.2 0 v rfl, rfl⟩)
    simp only [Nat.add_zero] at hc
    simp [loadVar, h.agg, hc]
theorem q_load {t : TypeId} {ag : Bool} {m : Nat} {x : Operand} {b base k : Nat} {vs cs : List Value} {v : Value} (ho : o.op = .load t x) [h : TI P t ag m] (hx : e.ev x = some (.pointer (some ⟨b, base + k, none⟩)))
    (hs : Src W L b base vs) (ht : Tk k m vs cs) (hv : LdV ag cs v) : QOp P o W n e L v := .mk fun a w ha hw => by
  simp [execOp, ho, ha.ev hx, Instr.loadAt, Instr.sureAddr, run_loadVar_holds (hs w hw) ht hv]

/-! Numbers -/
theorem q_eql {t yt : TypeId} {x y : Operand} {i j : Int} {k : IntKind} (ho : o.op = .binOp .eql t x y yt) (hx : e.ev x = some (.int k i)) (hy : e.ev y = some (.int k j)) : QOp P o W n e L (.bool (i == j)) := .mk fun a w ha hs => by
  simp [execOp, ho, ha.ev hx, ha.ev hy, eqGuard_at_int, binOp_eql]
theorem q_neq {t yt : TypeId} {x y : Operand} {i j : Int} {k : IntKind} (ho : o.op = .binOp .neq t x y yt) (hx : e.ev x = some (.int k i)) (hy : e.ev y = some (.int k j)) : QOp P o W n e L (.bool (i != j)) := .mk fun a w ha hs => by
  simp [execOp, ho, ha.ev hx, ha.ev hy, eqGuard_at_int, binOp_neq]
theorem q_lss {t yt : TypeId} {x y : Operand} {i j : Int} {k : IntKind} (ho : o.op = .binOp .lss t x y yt) (hx : e.ev x = some (.int k i)) (hy : e.ev y = some (.int k j)) : QOp P o W n e L (.bool (decide (i < j))) := .mk fun a w ha hs => by
  simp [execOp, ho, ha.ev hx, ha.ev hy, eqGuard_at_int, binOp_lss]
theorem q_leq {t yt : TypeId} {x y : Operand} {i j : Int} {k : IntKind} (ho : o.op = .binOp .leq t x y yt) (hx : e.ev x = some (.int k i)) (hy : e.ev y = some (.int k j)) : QOp P o W n e L (.bool (decide (i ≤ j))) := .mk fun a w ha hs => by
  simp [execOp, ho, ha.ev hx, ha.ev hy, eqGuard_at_int, binOp_leq]
theorem q_gtr {t yt : TypeId} {x y : Operand} {i j : Int} {k : IntKind} (ho : o.op = .binOp .gtr t x y yt) (hx : e.ev x = some (.int k i)) (hy : e.ev y = some (.int k j)) : QOp P o W n e L (.bool (decide (j < i))) := .mk fun a w ha hs => by
  simp [execOp, ho, ha.ev hx, ha.ev hy, eqGuard_at_int, binOp_gtr]
theorem q_geq {t yt : TypeId} {x y : Operand} {i j : Int} {k : IntKind} (ho : o.op = .binOp .geq t x y yt) (hx : e.ev x = some (.int k i)) (hy : e.ev y = some (.int k j)) : QOp P o W n e L (.bool (decide (j ≤ i))) := .mk fun a w ha hs => by
  simp [execOp, ho, ha.ev hx, ha.ev hy, eqGuard_at_int, binOp_geq]
theorem wrap_in {z : Int} (h : I64 z) : IntKind.i64.wrap z = z := by
  obtain ⟨h1, h2⟩ := h
  simp only [IntKind.wrap, IntKind.bits, IntKind.signed, Bool.true_and, decide_eq_true_eq, ge_iff_le, show (2 : Int) ^ 64 = 18446744073709551616 from rfl, show (2 : Int) ^ (64 - 1) = 9223372036854775808 from rfl]
  split <;> omega
theorem q_addw {t yt : TypeId} {x y : Operand} {i j : Int} {k : IntKind} (ho : o.op = .binOp .add t x y yt) (hx : e.ev x = some (.int k i)) (hy : e.ev y = some (.int k j)) : QOp P o W n e L (.int k (k.wrap (i + j))) := .mk fun a w ha hs => by
  simp only [execOp, ho, ha.ev hx, ha.ev hy, eqGuard_add, binOp_add, Op.intArith]; rfl
theorem q_subw {t yt : TypeId} {x y : Operand} {i j : Int} {k : IntKind} (ho : o.op = .binOp .sub t x y yt) (hx : e.ev x = some (.int k i)) (hy : e.ev y = some (.int k j)) : QOp P o W n e L (.int k (k.wrap (i - j))) := .mk fun a w ha hs => by
  simp only [execOp, ho, ha.ev hx, ha.ev hy, eqGuard_sub, binOp_sub, Op.intArith]; rfl
theorem q_mulw {t yt : TypeId} {x y : Operand} {i j : Int} {k : IntKind} (ho : o.op = .binOp .mul t x y yt) (hx : e.ev x = some (.int k i)) (hy : e.ev y = some (.int k j)) : QOp P o W n e L (.int k (k.wrap (i * j))) := .mk fun a w ha hs => by
  simp only [execOp, ho, ha.ev hx, ha.ev hy, eqGuard_mul, binOp_mul, Op.intArith]; rfl
theorem q_add {t yt : TypeId} {x y : Operand} {i j : Int} (ho : o.op = .binOp .add t x y yt) (hx : e.ev x = some (.int .i64 i)) (hy : e.ev y = some (.int .i64 j)) (hb : I64 (i + j)) : QOp P o W n e L (.int .i64 (i + j)) := by
  have := q_addw (P := P) (W := W) (n := n) (L := L) ho hx hy; rwa [wrap_in hb] at this
theorem q_sub {t yt : TypeId} {x y : Operand} {i j : Int} (ho : o.op = .binOp .sub t x y yt) (hx : e.ev x = some (.int .i64 i)) (hy : e.ev y = some (.int .i64 j)) (hb : I64 (i - j)) : QOp P o W n e L (.int .i64 (i - j)) := by
  have := q_subw (P := P) (W := W) (n := n) (L := L) ho hx hy; rwa [wrap_in hb] at this
theorem q_mul {t yt : TypeId} {x y : Operand} {i j : Int} (ho : o.op = .binOp .mul t x y yt) (hx : e.ev x = some (.int .i64 i)) (hy : e.ev y = some (.int .i64 j)) (hb : I64 (i * j)) : QOp P o W n e L (.int .i64 (i * j)) := by
  have := q_mulw (P := P) (W := W) (n := n) (L := L) ho hx hy; rwa [wrap_in hb] at this
theorem q_rem {t yt : TypeId} {x y : Operand} {i j : Int} {k : IntKind} (ho : o.op = .binOp .rem t x y yt) (hx : e.ev x = some (.int k i)) (hy : e.ev y = some (.int k j)) (hj : j ≠ 0) : QOp P o W n e L (.int k (i.tmod j)) := .mk fun a w ha hs => by
  simp only [execOp, ho, ha.ev hx, ha.ev hy, eqGuard_rem, binOp_rem, Op.intDiv, if_neg hj]; rfl
theorem q_quow {t yt : TypeId} {x y : Operand} {i j : Int} {k : IntKind} (ho : o.op = .binOp .quo t x y yt) (hx : e.ev x = some (.int k i)) (hy : e.ev y = some (.int k j)) (hj : j ≠ 0) : QOp P o W n e L (.int k (k.wrap (i.tdiv j))) := .mk fun a w ha hs => by
  simp only [execOp, ho, ha.ev hx, ha.ev hy, eqGuard_quo, binOp_quo, Op.intDiv, if_neg hj]; rfl
theorem q_neg {t : TypeId} {x : Operand} {i : Int} (ho : o.op = .unOp .neg t x) (hx : e.ev x = some (.int .i64 i)) (hb : I64 (-i)) : QOp P o W n e L (.int .i64 (-i)) := .mk fun a w ha hs => by
  simp [execOp, ho, ha.ev hx, Op.unary, Op.intArith, wrap_in hb]
theorem q_not {t : TypeId} {x : Operand} {b : Bool} (ho : o.op = .unOp .not t x) (hx : e.ev x = some (.bool b)) : QOp P o W n e L (.bool !b) := .mk fun a w ha hs => by
  simp [execOp, ho, ha.ev hx, Op.unary]
theorem q_beq {t yt : TypeId} {x y : Operand} {b c : Bool} (ho : o.op = .binOp .eql t x y yt) [h : BoolT P t] (hx : e.ev x = some (.bool b)) (hy : e.ev y = some (.bool c)) : QOp P o W n e L (.bool (decide (b = c))) := .mk fun a w ha hs => by
  rw [show decide (b = c) = (b == c) by cases b <;> cases c <;> rfl]
  simp [execOp, ho, ha.ev hx, ha.ev hy, eqGuard_at_bool, run_eql_bool w t b c h.und]
theorem q_bne {t yt : TypeId} {x y : Operand} {b c : Bool} (ho : o.op = .binOp .neq t x y yt) [h : BoolT P t] (hx : e.ev x = some (.bool b)) (hy : e.ev y = some (.bool c)) : QOp P o W n e L (.bool (!decide (b = c))) := .mk fun a w ha hs => by
  rw [show decide (b = c) = (b == c) by cases b <;> cases c <;> rfl]
  simp [execOp, ho, ha.ev hx, ha.ev hy, eqGuard_at_bool, run_neq_bool w t b c h.und]

/-! Strings -/
theorem beq_toList (s t : ByteArray) : (s.toList == t.toList) = decide (s = t) := by
  have h : ∀ s : ByteArray, s.toList = s.data.toList := fun s => ByteArray.toList_eq s
  rw [Bool.eq_iff_iff]
  simp only [beq_iff_eq, decide_eq_true_eq, h]
  constructor
  · intro hh; cases s; cases t; simp at hh; rw [hh]
  · intro hh; rw [hh]
theorem q_seq {t yt : TypeId} {x y : Operand} {s u : ByteArray} (ho : o.op = .binOp .eql t x y yt) (hx : e.ev x = some (.string s)) (hy : e.ev y = some (.string u)) : QOp P o W n e L (.bool (decide (s = u))) := .mk fun a w ha hs => by
  simp [execOp, ho, ha.ev hx, ha.ev hy, eqGuard_at_string, binOp, Op.stringOp, beq_toList]
theorem q_sne {t yt : TypeId} {x y : Operand} {s u : ByteArray} (ho : o.op = .binOp .neq t x y yt) (hx : e.ev x = some (.string s)) (hy : e.ev y = some (.string u)) : QOp P o W n e L (.bool (!decide (s = u))) := .mk fun a w ha hs => by
  simp [execOp, ho, ha.ev hx, ha.ev hy, eqGuard_at_string, binOp, Op.stringOp, beq_toList]
theorem q_slt {t yt : TypeId} {x y : Operand} {s u : ByteArray} (ho : o.op = .binOp .lss t x y yt) (hx : e.ev x = some (.string s)) (hy : e.ev y = some (.string u)) : QOp P o W n e L (.bool (Op.bytesLess s.toList u.toList)) := .mk fun a w ha hs => by
  simp [execOp, ho, ha.ev hx, ha.ev hy, eqGuard_lss, binOp, Op.stringOp]
theorem q_sge {t yt : TypeId} {x y : Operand} {s u : ByteArray} (ho : o.op = .binOp .geq t x y yt) (hx : e.ev x = some (.string s)) (hy : e.ev y = some (.string u)) : QOp P o W n e L (.bool (!Op.bytesLess s.toList u.toList)) := .mk fun a w ha hs => by
  simp [execOp, ho, ha.ev hx, ha.ev hy, eqGuard_geq, binOp, Op.stringOp]
theorem q_cat {t yt : TypeId} {x y : Operand} {s u : ByteArray} (ho : o.op = .binOp .add t x y yt) (hx : e.ev x = some (.string s)) (hy : e.ev y = some (.string u)) (hb : s.size + u.size ≤ 9223372036854775807) : QOp P o W n e L (.string (s ++ u)) := .mk fun a w ha hs => by
  have hb' : ¬ ((s.size + u.size : Nat) : Int) > IntKind.i64.max := by rw [IntKind.max_i64]; omega
  simp only [execOp, ho, ha.ev hx, ha.ev hy, eqGuard_add, binOp, Op.stringOp, if_neg hb']; rfl
theorem q_index {t : TypeId} {x ix : Operand} {s : ByteArray} {i : Int} {k : Nat} (ho : o.op = .index t x ix) [h : StrT P t] (hx : e.ev x = some (.string s)) (hi : e.ev ix = some (.int .i64 i)) (hk : i = (k : Int)) (hlt : k < s.size) :
    QOp P o W n e L (.int .u8 (s[k]).toNat) := .mk fun a w ha hs => by
  subst hk
  simp [execOp, ho, ha.ev hx, ha.ev hi, Instr.index, asIntOf, run_underlying h.und, hlt]
theorem q_len {t : TypeId} {x : Operand} {p : Option Addr} {l c el sz : Nat} (ho : o.op = .call { callee := .builtin .len, args := #[x], argTypes := #[t] }) [h : SlT P t el sz] (hx : e.ev x = some (.slice p l c)) : QOp P o W n e L (.int .i64 l) := .mk fun a w ha hs => by
  simp [execOp, ho, resolve, invoke, builtin, ha.ev hx, Builtin.len_, run_underlying h.und, goInt]
theorem q_lenS {t : TypeId} {x : Operand} {s : ByteArray} (ho : o.op = .call { callee := .builtin .len, args := #[x], argTypes := #[t] }) [h : StrT P t] (hx : e.ev x = some (.string s)) : QOp P o W n e L (.int .i64 s.size) := .mk fun a w ha hs => by
  simp [execOp, ho, resolve, invoke, builtin, ha.ev hx, Builtin.len_, run_underlying h.und, goInt]
theorem q_extract {x : Operand} {vs : List Value} {i : Nat} {v : Value} (ho : o.op = .extract x i) (hx : e.ev x = some (.tuple vs.toArray)) (hv : nth vs i = some v) : QOp P o W n e L v := .mk fun a w ha hs => by
  have hv' : vs[i]? = some v := by rw [← nth_eq]; exact hv
  simp [execOp, ho, ha.ev hx, Instr.extract, hv']
/-- A field of a struct value. -/
class FlT (P : Program) (s : TypeId) (f : Nat) (off : outParam Nat) (ag : outParam Bool) (m : outParam Nat) : Prop where
  ok : ∀ w (cs : List Value) (r : List Value) v, Tk off m cs r → LdV ag r v → (Instr.field s (.agg cs.toArray) f).run P w = .ok v w
theorem q_field {s : TypeId} {x : Operand} {f off m : Nat} {ag : Bool} {cs r : List Value} {v : Value} (ho : o.op = .field s x f) [h : FlT P s f off ag m] (hx : e.ev x = some (.agg cs.toArray)) (ht : Tk off m cs r) (hv : LdV ag r v) : QOp P o W n e L v := .mk fun a w ha hs => by
  simp [execOp, ho, ha.ev hx, h.ok w cs r v ht hv]
end

/-! Conversions -/
theorem q_convI {P : Program} {o : Oper} {W : World} {n : Nat} {e : Env} {L : List Hp} {s t : TypeId} {x : Operand} {k k' : IntKind} {z : Int} (ho : o.op = .convert s t x) [hs : IntT P s k'] [ht : IntT P t k] (hx : e.ev x = some (.int k' z)) : QOp P o W n e L (.int k (k.wrap z)) := .mk fun a w ha hw => by
  simp [execOp, ho, ha.ev hx, convert, run_underlying hs.und, run_underlying ht.und, Conv.intToInt]
/-- A string of these bytes. -/
def str (l : List UInt8) : ByteArray := ⟨l.toArray⟩
theorem str_append (l m : List UInt8) : str l ++ str m = str (l ++ m) := by
  apply ByteArray.ext
  simp [str]
theorem str_size (l : List UInt8) : (str l).size = l.length := rfl
theorem str_inj {l m : List UInt8} (h : str l = str m) : l = m := by
  have := congrArg (fun s => s.data.toList) h
  simpa [str] using this
theorem sz_lit (a : Array UInt8) : ByteArray.size ⟨a⟩ = a.size := rfl
def oneB (z : Int) : ByteArray := ⟨#[UInt8.ofNat z.toNat]⟩
theorem oneB_size (z : Int) : (oneB z).size = 1 := rfl
theorem q_conv1 {P : Program} {o : Oper} {W : World} {n : Nat} {e : Env} {L : List Hp} {s t el : TypeId} {x : Operand} {b base c : Nat} {z : Int} (ho : o.op = .convert s t x) [hs : BytT P s el] [ht : StrT P t] (hx : e.ev x = some (.slice (some ⟨b, base, none⟩) 1 c)) (hv : Src W L b base [.int .u8 z]) : QOp P o W n e L (.string (oneB z)) := .mk fun a w ha hw => by
  have h1 := run_convert_bytes_string (P := P) w s t el (some ⟨b, base, none⟩) 1 c hs.und hs.el ht.und
  have h2 := run_bytesToString (P := P) w ⟨b, base, none⟩ 1 c [z] (by
    have := run_loadCells_holds (P := P) (k := 0) (m := 1) (hv w hw) (.take .done)
    simpa using this)
  simp only [execOp, ho, ha.ev hx]
  simp [h1, h2, oneB]
  rfl

/-! ### Results -/
inductive ResL (P : Program) (W : World) (e : Env) (L : List Hp) : List ResultVar → List Value → Prop
  | nil : ResL P W e L [] []
  | tmp {t v rs vs} : e.get t = some v → ResL P W e L rs vs → ResL P W e L (.tmp t :: rs) (v :: vs)
  | cell {a t ag m b base k cs r v rs vs} [TI P t ag m] : e.get a = some (.pointer (some ⟨b, base + k, none⟩)) → Src W L b base cs → Tk k m cs r → LdV ag r v → ResL P W e L rs vs → ResL P W e L (.cell a t :: rs) (v :: vs)
def resV : List Value → Value
  | [v] => v
  | vs => .tuple vs.toArray
def resOne (tmps : Array Value) : ResultVar → Sem Value
  | .tmp t => pure (tmps.getD t undef)
  | .cell x t => do loadVar t (← asAddr (tmps.getD x undef))
theorem results_eq (fn : Func) (tmps : Array Value) : results fn tmps = (do let vs ← fn.results.mapM (resOne tmps); pure (if h : vs.size = 1 then vs[0] else .tuple vs)) := by
  unfold results
  have : (resOne tmps) = (fun | .tmp t => pure (tmps.getD t undef) | .cell x t => do loadVar t (← asAddr (tmps.getD x undef))) := by funext r; cases r <;> rfl
  rw [this]
  rfl
theorem ResL.run {P : Program} {W w : World} {e : Env} {L : List Hp} {n : Nat} {a : Act} (ha : Agree n e a) (hw : St W w L) {rs : List ResultVar} {vs : List Value} (h : ResL P W e L rs vs) :
    (rs.mapM (resOne a.tmps)).run P w = .ok vs w := by
  induction h with
  | nil => simp
  | tmp ht _ ih =>
    have h1 : ∀ t v, e.get t = some v → (resOne a.tmps (.tmp t)) = pure v := fun t v h => by simp [resOne, ha.get _ _ h]
    simp only [List.mapM_cons, h1 _ _ ht, Sem.run_bind, Sem.run_pure, Result.andThen_ok, ih]
  | @cell x t _ _ _ _ _ _ _ _ _ _ _ ht hs hk hv _ ih =>
    have h1 := run_loadVar_holds (P := P) (t := t) (hs w hw) hk hv
    have h2 : ∀ x t p, e.get x = some (.pointer (some p)) → (resOne a.tmps (.cell x t)) = loadVar t p := fun x t p h => by
      simp only [resOne, Array.getD_eq_getD_getElem?, ha.get _ _ h, Option.getD_some, asAddr]
      rfl
    simp only [List.mapM_cons, h2 _ _ _ ht, Sem.run_bind, Sem.run_pure, Result.andThen_ok, ih, h1]
theorem ResL.len {P : Program} {W : World} {e : Env} {L : List Hp} {rs : List ResultVar} {vs : List Value} (h : ResL P W e L rs vs) : vs.length = rs.length := by
  induction h with
  | nil => rfl
  | tmp _ _ ih => simp [ih]
  | cell _ _ _ _ _ ih => simp [ih]
theorem jx_rt {P : Program} {W : World} {e : Env} {L : List Hp} {n : Nat} {fn : Func} {rs : List ResultVar} {vs : List Value} {R : Value → List Hp → Prop} (h : R (resV vs) L) (hf : fn.results = rs.toArray := by rfl)
    (hr : ResL P W e L rs vs := by repeat (first | exact .nil | apply ResL.tmp rfl | apply ResL.cell rfl (by first | exact src_box (by repeat (first | exact .here | apply InL.there)) | exact src_old (by assumption) | exact src_sub (by assumption) (by repeat (first | exact .here | apply InL.there)) | fail) (by repeat constructor) (by constructor))) : JX (bodyPost P fn (RetR R W)) .ret W n e L := by
  refine ⟨fun a w ha hs => ⟨ha.defers, resV vs, ?_, resV vs, L, rfl, hs, h⟩⟩
  have hrun := hr.run ha hs
  rw [results_eq, hf, List.mapM_toArray]
  simp only [Sem.run_bind, Sem.run_map, hrun, Result.andThen_ok, Sem.run_pure]
  congr 1
  match vs with
  | [] => simp [resV]
  | [v] => simp [resV]
  | u :: v :: vs => simp [resV]

theorem jx_sel {P : Program} {W : World} {e : Env} {L M : List Hp} {n : Nat} {fn : Func} {R : Value → List Hp → Prop} {x : Exit} (h : JX (bodyPost P fn (RetR R W)) x W n e M) (hs : Sel M L) : JX (bodyPost P fn (RetR R W)) x W n e L :=
  ⟨fun a w ha hw => h.run a w ha (hw.sel hs)⟩
theorem ResL.wk {P : Program} {W : World} {e : Env} {L M : List Hp} (hs : ∀ w, St W w L → St W w M) {rs : List ResultVar} {vs : List Value} (h : ResL P W e M rs vs) : ResL P W e L rs vs := by
  induction h with
  | nil => exact .nil
  | tmp h _ ih => exact .tmp h ih
  | cell h k1 k2 k3 _ ih => exact .cell h (fun w hw => k1 w (hs w hw)) k2 k3 ih
/-- A return of values, with the pieces 'M' that go with them. -/
theorem jx_rm {P : Program} {W : World} {e : Env} {L : List Hp} {n : Nat} {fn : Func} {rs : List ResultVar} {vs : List Value} {R : Value → List Hp → Prop} (M : List Hp) (h : R (resV vs) M) (hs : Sel M L := by repeat (first | exact .nil | apply Sel.cons (by repeat (first | exact .here | exact .e rfl | apply Rm.there)))) (hf : fn.results = rs.toArray := by rfl)
    (hr : ResL P W e L rs vs := by repeat (first | exact .nil | apply ResL.tmp rfl | apply ResL.cell rfl (by first | exact src_box (by repeat (first | exact .here | apply InL.there)) | exact src_old (by assumption) | exact src_sub (by assumption) (by repeat (first | exact .here | apply InL.there)) | fail) (by repeat constructor) (by constructor))) : JX (bodyPost P fn (RetR R W)) .ret W n e L := by
  have k : JX (bodyPost P fn (RetR (fun v L' => v = resV vs ∧ L' = L) W)) .ret W n e L := jx_rt ⟨rfl, rfl⟩ hf hr
  refine ⟨fun a w ha hw => ?_⟩
  obtain ⟨h1, v, h2, v', M', h3, h4, h5, h6⟩ := k.run a w ha hw
  subst h6
  cases h3
  subst h5
  exact ⟨h1, _, h2, _, M, rfl, h4.sel hs, h⟩
/-- A return of values alone. -/
theorem jx_is {P : Program} {W : World} {e : Env} {L : List Hp} {n : Nat} {fn : Func} {rs : List ResultVar} {vs : List Value} {u : Value} (h : resV vs = u) (hf : fn.results = rs.toArray := by rfl)
    (hr : ResL P W e L rs vs := by repeat (first | exact .nil | apply ResL.tmp rfl | apply ResL.cell rfl (by first | exact src_box (by repeat (first | exact .here | apply InL.there)) | exact src_old (by assumption) | exact src_sub (by assumption) (by repeat (first | exact .here | apply InL.there)) | fail) (by repeat constructor) (by constructor))) : JX (bodyPost P fn (RetR (Is u) W)) .ret W n e L :=
  jx_rm [] ⟨h, rfl⟩ .nil hf hr

/-! ### Operations that make or change memory -/
section
variable {P : Program} {ops : Array Oper} {Q : Exit → Act → World → Prop} {W : World} {n : Nat} {rest : List Oper} {e : Env} {L : List Hp}
theorem j_box {o : Oper} {d : Nat} {t : TypeId} {x : Operand} {v : Value} {cs : List Value} (h : ∀ b, J P ops Q W n rest ((d, .pointer (some ⟨b, 0 + 0, none⟩)) :: e) (cellsAt b 0 cs :: L))
    (hd : o.dst = some d := by rfl) (ho : o.op = .box t x := by rfl) (hx : e.ev x = some v := by rfl) (hc : v.cells = cs.toArray := by rfl) (hn : Nat.blt d n = true := by rfl) (hg : Wants ops e o.guard := by first | exact .none | exact .some rfl rfl rfl rfl | exact .some rfl rfl rfl (by assumption) | fail) : J P ops Q W n (o :: rest) e L :=
  j_w (ι := Nat) (val := fun b => .pointer (some ⟨b, 0 + 0, none⟩)) (M := fun b => cellsAt b 0 cs :: L) hd hn hg
    (fun a w ha hs => ⟨w.heap.size, _, by simp only [execOp, ho, ha.ev hx, Instr.box, newVar, newRow, hc]; rfl, hs.alloc cs t⟩) h
class ZeroT (P : Program) (t : TypeId) (z : outParam (List Value)) : Prop where
  ok : ∀ w, ∃ v, (zeroValue t).run P w = .ok v w ∧ v.cells = z.toArray
theorem j_alloc {o : Oper} {d : Nat} {t : TypeId} {z : List Value} [hz : ZeroT P t z] (h : ∀ b, J P ops Q W n rest ((d, .pointer (some ⟨b, 0 + 0, none⟩)) :: e) (cellsAt b 0 z :: L))
    (hd : o.dst = some d := by rfl) (ho : o.op = .alloc t := by rfl) (hn : Nat.blt d n = true := by rfl) (hg : Wants ops e o.guard := by first | exact .none | exact .some rfl rfl rfl rfl | exact .some rfl rfl rfl (by assumption) | fail) : J P ops Q W n (o :: rest) e L :=
  j_w (ι := Nat) (val := fun b => .pointer (some ⟨b, 0 + 0, none⟩)) (M := fun b => cellsAt b 0 z :: L) hd hn hg
    (fun a w ha hs => by
      obtain ⟨v, h1, h2⟩ := hz.ok w
      exact ⟨w.heap.size, _, by simp only [execOp, ho, Instr.alloc, Sem.run_bind, h1, Result.andThen_ok, newVar, newRow, h2]; rfl, hs.alloc z t⟩) h
theorem St.store {w : World} {L' : List Hp} (hs : St W w L) {b base k : Nat} {vs us ns : List Value} (hc : Ch (cellsAt b base vs) (cellsAt b base us) L L') (hr : Rp k ns vs us) (h1 : ∀ v ∈ ns, v.oneCell' = true) :
    ∃ w', (storeCells ⟨b, base + k, none⟩ ns).run P w = .ok () w' ∧ St W w' L' := by
  obtain ⟨old, pre, post, rfl, rfl, h3, h4⟩ := hr.spec
  obtain ⟨R, p1, p2⟩ := hc.perms
  subst h3
  by_cases hz : ns = []
  · subst hz
    obtain rfl := List.eq_nil_of_length_eq_zero (by simpa using h4)
    exact ⟨w, by simp [storeCells], hs.perm (p1.trans p2.symm)⟩
  have hsat := hs.sat.perm p1
  obtain ⟨w', hr, hs2, hz', hb⟩ := run_storeCells_sat (P := P) ns old w base pre.length pre post h1 h4 rfl hsat 0 ⟨b, base + pre.length, none⟩ (by simp [Addr.add_lit]) (fun m => by simp [Addr.add_lit])
  refine ⟨w', hr, ⟨hs.below.trans (hb.mono ?_), hs2.perm p2.symm⟩⟩
  obtain ⟨x, hx⟩ : ∃ x, x ∈ old := by
    cases old with
    | nil => exact absurd (List.eq_nil_of_length_eq_zero (by simpa using h4.symm)) hz
    | cons x _ => exact ⟨x, List.mem_cons_self⟩
  obtain ⟨i, hi⟩ := List.getElem?_of_mem hx
  exact hsat.own (b, base + (pre.length + i)) x (List.mem_append_left _ (mem_cellsAt.2 ⟨pre.length + i, by rw [List.append_assoc, List.getElem?_append_right (by omega)]; simp; rw [List.getElem?_append_left (List.getElem?_eq_some_iff.1 hi).1]; exact hi, rfl⟩))
theorem j_store {o : Oper} {t : TypeId} {p x : Operand} {b base k m : Nat} {ag : Bool} {v : Value} {vs us ns : List Value} {L' : List Hp} [ht : TI P t ag m] (h : J P ops Q W n rest e L')
    (hd : o.dst = none := by rfl) (ho : o.op = .store t p x := by rfl) (hp : e.ev p = some (.pointer (some ⟨b, base + k, none⟩)) := by rfl) (hx : e.ev x = some v := by rfl) (hv : v.cells = ns.toArray := by rfl) (hm : ns.length = m := by rfl) (h1 : ∀ v ∈ ns, v.oneCell' = true := by simp [Value.oneCell'])
    (hc : Ch (cellsAt b base vs) (cellsAt b base us) L L' := by first | ((repeat (first | exact .here | apply Ch.there)); done) | fail) (hr : Rp k ns vs us := by repeat constructor) (hg : Wants ops e o.guard := by first | exact .none | exact .some rfl rfl rfl rfl | exact .some rfl rfl rfl (by assumption) | fail) : J P ops Q W n (o :: rest) e L :=
  j_s hd hg (fun a w ha hs => by
    obtain ⟨w', hrun, hs'⟩ := hs.store (P := P) hc hr h1
    refine ⟨w', ?_, hs'⟩
    have hne : ¬ ns.toArray.size ≠ m := by simp [hm]
    simp only [execOp, ho, ha.ev hp, ha.ev hx, Instr.storeAt, Instr.sureAddr, storeVar, Sem.run_bind, Sem.run_pure, Result.andThen_ok, ht.size, if_neg hne, hv, hrun]) h
end

/-- An operation that leaves the world alone, whichever it is. -/
theorem j_op {P : Program} {ops : Array Oper} {Q : Exit → Act → World → Prop} {W : World} {n : Nat} {rest : List Oper} {e : Env} {L : List Hp} {o : Oper} {v : Value} {d : Nat} (h : J P ops Q W n rest ((d, v) :: e) L)
    (hd : o.dst = some d := by rfl) (hn : Nat.blt d n = true := by rfl) (hg : Wants ops e o.guard := by first | exact .none | exact .some rfl rfl rfl rfl | exact .some rfl rfl rfl (by assumption) | fail)
    (hq : QOp P o W n e L v := by first | (show QOp _ ⟨_, .move _, _, _, _, _⟩ _ _ _ _ _; first | exact q_move rfl rfl | fail) | (show QOp _ ⟨_, .assign _, _, _, _, _⟩ _ _ _ _ _; first | exact q_assign rfl rfl | fail) | (show QOp _ ⟨_, .load _ _, _, _, _, _⟩ _ _ _ _ _; first | exact q_load rfl rfl (by first | exact src_box (by repeat (first | exact .here | apply InL.there)) | exact src_old (by assumption) | exact src_sub (by assumption) (by repeat (first | exact .here | apply InL.there)) | fail) (by repeat constructor) (by constructor) | fail) | (show QOp _ ⟨_, .fieldAddr _ _ _, _, _, _, _⟩ _ _ _ _ _; first | exact q_fieldAddr rfl rfl | fail) | (show QOp _ ⟨_, .indexAddr _ _ _, _, _, _, _⟩ _ _ _ _ _; first | exact q_indexAddr rfl rfl rfl (by first | assumption | omega | fail) (by first | assumption | exact fun _ => rfl | fail) | exact q_indexAddrI rfl rfl rfl (by omega) (by omega) (by first | assumption | exact fun _ => rfl | fail) | fail) | (show QOp _ ⟨_, .binOp .eql _ _ _ _, _, _, _, _⟩ _ _ _ _ _; first | exact q_eql rfl rfl rfl | exact q_seq rfl rfl rfl | exact q_beq rfl rfl rfl | fail) | (show QOp _ ⟨_, .binOp .neq _ _ _ _, _, _, _, _⟩ _ _ _ _ _; first | exact q_neq rfl rfl rfl | exact q_sne rfl rfl rfl | exact q_bne rfl rfl rfl | fail) | (show QOp _ ⟨_, .binOp .lss _ _ _ _, _, _, _, _⟩ _ _ _ _ _; first | exact q_lss rfl rfl rfl | exact q_slt rfl rfl rfl | fail) | (show QOp _ ⟨_, .binOp .leq _ _ _ _, _, _, _, _⟩ _ _ _ _ _; first | exact q_leq rfl rfl rfl | fail) | (show QOp _ ⟨_, .binOp .gtr _ _ _ _, _, _, _, _⟩ _ _ _ _ _; first | exact q_gtr rfl rfl rfl | fail) | (show QOp _ ⟨_, .binOp .geq _ _ _ _, _, _, _, _⟩ _ _ _ _ _; first | exact q_geq rfl rfl rfl | exact q_sge rfl rfl rfl | fail) | (show QOp _ ⟨_, .binOp .add _ _ _ _, _, _, _, _⟩ _ _ _ _ _; first | exact q_add rfl rfl rfl (by omega) | exact q_cat rfl rfl rfl (by first | assumption | omega | (simp only [ByteArray.size_append, str_size, oneB_size, sz_lit, List.size_toArray, List.length_cons, List.length_nil]; omega) | fail) | fail) | (show QOp _ ⟨_, .binOp .sub _ _ _ _, _, _, _, _⟩ _ _ _ _ _; first | exact q_sub rfl rfl rfl (by omega) | fail) | (show QOp _ ⟨_, .binOp .rem _ _ _ _, _, _, _, _⟩ _ _ _ _ _; first | exact q_rem rfl rfl rfl (by first | decide | omega | fail) | fail) | (show QOp _ ⟨_, .binOp .quo _ _ _ _, _, _, _, _⟩ _ _ _ _ _; first | exact q_quow rfl rfl rfl (by first | decide | omega | fail) | fail) | (show QOp _ ⟨_, .binOp .mul _ _ _ _, _, _, _, _⟩ _ _ _ _ _; first | exact q_mul rfl rfl rfl (by omega) | exact q_mulw rfl rfl rfl | fail) | (show QOp _ ⟨_, .pick _ _ _, _, _, _, _⟩ _ _ _ _ _; first | exact q_pick_t rfl rfl rfl (by first | rfl | assumption | exact decide_eq_true (by first | assumption | omega | fail) | exact eq_t (by first | assumption | omega | fail) | exact ne_t (by first | assumption | omega | fail) | exact not_t (by assumption) | fail) | exact q_pick_f rfl rfl rfl (by first | rfl | assumption | exact decide_eq_false (by first | assumption | omega | fail) | exact eq_f (by first | assumption | omega | fail) | exact ne_f (by first | assumption | omega | fail) | exact not_f (by assumption) | fail) | fail) | (show QOp _ ⟨_, .unOp .not _ _, _, _, _, _⟩ _ _ _ _ _; first | exact q_not rfl rfl | fail) | (show QOp _ ⟨_, .unOp .neg _ _, _, _, _, _⟩ _ _ _ _ _; first | exact q_neg rfl rfl (by omega) | fail) | (show QOp _ ⟨_, .call _, _, _, _, _⟩ _ _ _ _ _; first | exact q_len rfl rfl | exact q_lenS rfl rfl | fail) | (show QOp _ ⟨_, .extract _ _, _, _, _, _⟩ _ _ _ _ _; first | exact q_extract rfl rfl rfl | fail) | (show QOp _ ⟨_, .index _ _ _, _, _, _, _⟩ _ _ _ _ _; first | exact q_index rfl rfl rfl rfl (by first | assumption | omega | fail) | fail) | (show QOp _ ⟨_, .field _ _ _, _, _, _, _⟩ _ _ _ _ _; first | exact q_field rfl rfl (by repeat constructor) (by constructor) | fail) | (show QOp _ ⟨_, .nilCheck _, _, _, _, _⟩ _ _ _ _ _; first | exact q_nilCheck rfl rfl | fail) | (show QOp _ ⟨_, .convert _ _ _, _, _, _, _⟩ _ _ _ _ _; first | exact q_convI rfl rfl | exact q_conv1 rfl rfl (by first | exact src_box (by repeat (first | exact .here | apply InL.there)) | fail) | fail) | fail) : J P ops Q W n (o :: rest) e L := j_q h hq hd hn hg

end Go.Proofs.YtiobmbicldjikaaGreatDoor
