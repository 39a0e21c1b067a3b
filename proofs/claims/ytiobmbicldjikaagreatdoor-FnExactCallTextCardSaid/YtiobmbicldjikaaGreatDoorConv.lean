/- Bytes and strings; the library's functions, as contracts. No condition. -/
import Derived.Test.YtiobmbicldjikaaGreatDoorElem

import Derived.Test.YtiobmbicldjikaaGreatDoorBuild

import Derived.Test.YtiobmbicldjikaaGreatDoorShelf

set_option linter.unusedVariables false

namespace Go.Proofs.YtiobmbicldjikaaGreatDoor

open Go.RowKit (Below)

instance : Rep UInt8 where
  size := 1
  rep c x H := c = [.int .u8 (x.toNat : Int)] ∧ H = []
  len := by rintro c x H ⟨rfl, rfl⟩; rfl
  one := by rintro c x H ⟨rfl, rfl⟩ v hv; obtain rfl := List.mem_singleton.1 hv; rfl
theorem RdS.u8 {w : World} {a : Option Addr} {cap : Nat} {l : List UInt8} (h : RdS w a cap l) {i : Nat} (hi : i < l.length) : Holds w (cellsAt (blk a) (ofs a + i * 1) [.int .u8 (l[i].toNat : Int)]) := by
  obtain ⟨c, h1, H, ⟨rfl, _⟩, _⟩ := h.el hi
  exact h1
theorem Elems.u8 : ∀ {l : List UInt8}, Elems (l.map fun (b : UInt8) => Value.int .u8 (b.toNat : Int)) l []
  | [] => .nil
  | x :: l => by
    have := Elems.cons (c := [.int .u8 (x.toNat : Int)]) (x := x) (Hx := []) ⟨rfl, rfl⟩ (Elems.u8 (l := l))
    simpa using this
instance : Rep ByteArray where
  size := 1
  rep c x H := c = [.string x] ∧ H = []
  len := by rintro c x H ⟨rfl, rfl⟩; rfl
  one := by rintro c x H ⟨rfl, rfl⟩ v hv; obtain rfl := List.mem_singleton.1 hv; rfl
theorem RdS.str {w : World} {a : Option Addr} {cap : Nat} {l : List ByteArray} (h : RdS w a cap l) {i : Nat} (hi : i < l.length) : Holds w (cellsAt (blk a) (ofs a + i * 1) [.string l[i]]) := by
  obtain ⟨c, h1, H, ⟨rfl, _⟩, _⟩ := h.el hi
  exact h1

section

variable {P : Program} {ops : Array Oper} {Q : Exit → Act → World → Prop} {W : World} {n : Nat} {rest : List Oper} {e : Env} {L : List Hp} {o : Oper}

theorem St.allocF {W w : World} {L : List Hp} (h : St W w L) (cs : List Value) (e : TypeId) (k : Nat) : St W (w.alloc (.cells cs.toArray e (cs.length, k))) (cellsAt w.heap.size 0 cs :: L) := by
  have hb : Below w.heap.size w (w.alloc (.cells cs.toArray e (cs.length, k))) := (Below.refl _ _).alloc (Nat.le_refl _) _
  refine St.trans1 h ⟨hb, ?_⟩
  simp only [List.flatten_cons, List.flatten_nil, List.append_nil]
  refine ⟨?_, cellsAt_nodup _ _ _, ?_, ?_⟩
  · intro p v hm
    obtain ⟨i, hi, rfl⟩ := mem_cellsAt.1 hm
    simp [World.cell?, World.alloc, -World.alloc_eq, hi]
  · intro p v hm
    obtain ⟨i, hi, rfl⟩ := mem_cellsAt.1 hm
    exact Nat.le_refl _
  · intro p v hm
    obtain ⟨i, hi, rfl⟩ := mem_cellsAt.1 hm
    have hl : i < cs.length := (List.getElem?_eq_some_iff.1 hi).1
    simp [World.frozen?, World.alloc, -World.alloc_eq]
    omega
/-- A new byte slice out of a string. -/
theorem j_bytes {d : Nat} {s t el : TypeId} {x : Operand} {u : ByteArray} [hs : StrT P s] [ht : BytT P t el] (hu : u.size ≤ 140737488355328)
    (h : ∀ a cap H, Slc a cap u.data.toList H → J P ops Q W n rest ((d, .slice a u.data.toList.length cap) :: e) (H :: L))
    (hd : o.dst = some d := by rfl) (ho : o.op = .convert s t x := by rfl) (hx : e.ev x = some (.string u) := by rfl)
    (hn : Nat.blt d n = true := by rfl) (hg : Wants ops e o.guard := by first | exact .none | exact .some rfl rfl rfl rfl | exact .some rfl rfl rfl (by assumption) | fail) : J P ops Q W n (o :: rest) e L := by
  refine j_w (ι := { y : Option Addr × Nat × Hp // Slc y.1 y.2.1 u.data.toList y.2.2 }) (val := fun y => .slice y.1.1 u.data.toList.length y.1.2.1) (M := fun y => y.1.2.2 :: L) hd hn hg (fun ac w ha hw => ?_) (fun y => h _ _ _ y.2)
  have hsz : u.data.toList.length = u.size := by rw [Array.length_toList]; rfl
  have h1 := run_bytes_of_string (P := P) w s t el u hs.und ht.und ht.el
  have hc1 : u.size ≤ grownCap w u.size 0 el := grownCap_ge w u.size 0 el
  have hc2 : grownCap w u.size 0 el ≤ maxLen := grownCap_le_maxLen w u.size 0 el (by unfold maxLen; omega)
  have hrow : bytesRow u (grownCap w u.size 0 el) = ((u.data.toList.map fun (b : UInt8) => Value.int .u8 (b.toNat : Int)) ++ List.replicate (grownCap w u.size 0 el - u.size) (Value.int .u8 0)).toArray := by
    unfold bytesRow
    apply Array.toList_inj.1
    simp [Array.toList_map]
  have hS : Slc (some ⟨w.heap.size, 0, none⟩) (grownCap w u.size 0 el) u.data.toList (cellsAt w.heap.size 0 ((u.data.toList.map fun (b : UInt8) => Value.int .u8 (b.toNat : Int)) ++ List.replicate (grownCap w u.size 0 el - u.size) (Value.int .u8 0)) ++ []) :=
    .inr ⟨_, _, _, _, [], rfl, ⟨by omega, by unfold maxLen at hc2; omega⟩, by simp [hsz, Rep.size], fun v hv => by obtain ⟨_, rfl⟩ := List.mem_replicate.1 hv; rfl, Elems.u8, rfl⟩
  refine ⟨⟨(_, _, _), hS⟩, _, by simp only [execOp, ho, ha.ev hx, Sem.run_bind, h1, hsz]; rfl, ?_⟩
  have := hw.drew.allocF ((u.data.toList.map fun (b : UInt8) => Value.int .u8 (b.toNat : Int)) ++ List.replicate (grownCap w u.size 0 el - u.size) (Value.int .u8 0)) el ((bytesRow u (grownCap w u.size 0 el)).size + 1)
  rw [← hrow, show (List.map (fun (b : UInt8) => Value.int IntKind.u8 (b.toNat : Int)) u.data.toList ++ List.replicate (grownCap w u.size 0 el - u.size) (Value.int IntKind.u8 0)).length = (bytesRow u (grownCap w u.size 0 el)).size from by rw [hrow]; simp] at this
  simpa using this
/-- A string out of a byte slice. -/
theorem q_string {s t el : TypeId} {x : Operand} {a : Option Addr} {cap : Nat} {l : List UInt8} (hl : ∀ w, St W w L → RdS w a cap l) (ho : o.op = .convert s t x) [hs : BytT P s el] [ht : StrT P t] (hx : e.ev x = some (.slice a l.length cap)) : QOp P o W n e L (.string (str l)) := .mk fun ac w ha hw => by
  have hr := hl w hw
  simp only [execOp, ho, ha.ev hx]
  by_cases h0 : l = []
  · subst h0
    have h1 := run_convert_bytes_string (P := P) w s t el a 0 cap hs.und hs.el ht.und
    obtain ⟨H, h2 | ⟨b, off, cs, sp, He, rfl, h2, _⟩, hh⟩ := hr
    · cases a with
      | none => simp [h1, Conv.bytesToString]; rfl
      | some p =>
        have h3 := run_bytesToString (P := P) w p 0 cap [] (by
          have := run_loadCells_list (P := P) w p [] (by simp)
          simpa using this)
        simp [h1, h3]
        rfl
    · have h3 := run_bytesToString (P := P) w ⟨b, off, none⟩ 0 cap [] (by
        have := run_loadCells_list (P := P) w ⟨b, off, none⟩ [] (by simp)
        simpa using this)
      simp [h1, h3]
      rfl
  · have hp : 0 < l.length := List.length_pos_iff.2 h0
    have hadr := hr.adr hp
    rw [hadr]
    have := run_convert_bytes_back (P := P) w s t el ⟨blk a, ofs a, none⟩ cap l hs.und hs.el ht.und (fun j hj => by
      have := hr.u8 hj (blk a, ofs a + j) (.int .u8 (l[j].toNat : Int)) (mem_cellsAt.2 ⟨0, rfl, by simp⟩)
      rw [Addr.add_lit]
      simpa using this)
    simp [this, str]
end

/-! ### The library -/

/-- What the library's functions ask of the world, and of every world that grows out of it. -/
def LibOk (W : World) : Prop := ∀ w, Below W.heap.size W w → Lib.TabIs Tryz.prog w "internal/strconv.uint64pow10" .u64 Lib.pow10Tab ∧ ∃ m, w.cell? ⟨1, 0, none⟩ = some (.int .i64 m)
theorem LibOk.st {W w : World} {L : List Hp} (h : LibOk W) (hs : St W w L) : LibOk w := fun w' hb => h w' (hs.below.trans (hb.mono hs.below.size))
theorem below_grow {w : World} {k : Nat} {os : Array Obj} : Below w.heap.size w (Go.Sort.grow (w.drewN k) os) := by
  refine ⟨rfl, rfl, rfl, by simp [Go.Sort.grow, World.drewN], fun j hj => ?_⟩
  simp only [Go.Sort.grow, World.drewN]
  rw [Array.getElem?_append_left hj]
theorem itoa_c (W : World) (hL : LibOk W) (z : Int) (hz : I64 z) : CR Tryz.prog 90 [.int .i64 z] W (Is (.string (str (Lib.itoa z)))) := by
  obtain ⟨h1, h2⟩ := hz
  refine ⟨(Tryz.strconv_Itoa z (by omega) (by omega) W (hL W (Below.refl _ _)).1).mono ?_⟩
  rintro e w' ⟨rfl, k, os, rfl⟩
  exact ⟨_, [], rfl, ⟨below_grow, Sat.nil _ _⟩, rfl, rfl⟩
theorem join_c (W : World) {a : Option Addr} {cap : Nat} {l : List ByteArray} {sep : ByteArray} (hl : RdS W a cap l) (hlen : l.length ≤ 140737488355328) (hb : (Lib.join (l.map (·.data.toList)) sep.data.toList).length ≤ 140737488355328) :
    CR Tryz.prog 119 [.slice a l.length cap, .string sep] W (Is (.string (str (Lib.join (l.map (·.data.toList)) sep.data.toList)))) := by
  by_cases h0 : l = []
  · subst h0
    refine ⟨(Tryz.strings_Join_none a cap sep W).mono ?_⟩
    rintro e w' ⟨rfl, rfl⟩
    exact ⟨_, [], rfl, St.refl _, by simp [Lib.join, str], rfl⟩
  · have hp : 0 < l.length := List.length_pos_iff.2 h0
    have hadr := hl.adr hp
    have hc := hl.len_le.1
    rw [hadr] at hl ⊢
    have hcell : ∀ (j : Nat) x, l[j]? = some x → W.cell? ⟨blk a, ofs a + j, none⟩ = some (.string x) := fun j x hj => by
      obtain ⟨hjl, rfl⟩ := List.getElem?_eq_some_iff.1 hj
      have := hl.str hjl (blk a, ofs a + j) (.string l[j]) (mem_cellsAt.2 ⟨0, rfl, by simp [blk, ofs]⟩)
      exact this
    refine ⟨(Tryz.strings_Join (blk a) (ofs a) cap l sep W hcell (lt_of_cell (a := ⟨blk a, ofs a + 0, none⟩) (hcell 0 l[0] (by simp [hp]))) hlen hc hb).mono ?_⟩
    rintro e w' ⟨rfl, hbl⟩
    exact ⟨_, [], rfl, ⟨hbl, Sat.nil _ _⟩, rfl, rfl⟩
theorem replace_c (W : World) (hL : LibOk W) {s old new : ByteArray} (hs : s.size < 4294967281) (h1 : 1 ≤ old.size) (hlen : s.size + Lib.countB s old * new.size ≤ 140737488355328) :
    CR Tryz.prog 91 [.string s, .string old, .string new] W (Is (.string (str (Lib.replaceAll s.data.toList old.data.toList new.data.toList)))) := by
  obtain ⟨_, m, hm⟩ := hL W (Below.refl _ _)
  refine ⟨(Tryz.strings_ReplaceAll s old new m W hs hm h1 hlen).mono ?_⟩
  rintro e w' ⟨rfl, hbl⟩
  exact ⟨_, [], rfl, ⟨hbl, Sat.nil _ _⟩, rfl, rfl⟩

/-! ### Numbers and signs in words -/

def numT (z : Int) : List UInt8 := if inR z 0 1000000000 then Lib.itoa z else []
theorem nDigits_le : ∀ (k u : Nat), u < 10 ^ (k + 1) → Lib.nDigits u ≤ k + 1
  | 0, u, h => by rw [Lib.nDigits_small (by simpa using h)]; omega
  | k + 1, u, h => by
    by_cases h1 : u < 10
    · rw [Lib.nDigits_small h1]; omega
    · rw [Lib.nDigits_big h1]
      have := nDigits_le k (u / 10) (by rw [Nat.pow_succ] at h; omega)
      omega
theorem numT_in {z : Int} (h : inR z 0 1000000000 = true) : numT z = Lib.decDigits z.toNat := by
  rw [numT, h]
  simp only [inR, Bool.and_eq_true, decide_eq_true_eq] at h
  simp only [if_true, Lib.itoa, if_neg (show ¬ z < 0 by omega)]
theorem numT_len (z : Int) : (numT z).length ≤ 10 := by
  by_cases h : inR z 0 1000000000 = true
  · rw [numT_in h, Lib.decDigits_length]
    simp only [inR, Bool.and_eq_true, decide_eq_true_eq] at h
    exact nDigits_le 9 _ (by have : z.toNat ≤ 1000000000 := by omega
                             omega)
  · rw [numT, Bool.eq_false_iff.2 h]; simp
theorem digit_one (m : Nat) : oneB (IntKind.u8.wrap (48 + (m : Int).tmod 10)) = str [UInt8.ofNat (48 + m % 10)] := by
  have h1 : (m : Int).tmod 10 = ((m % 10 : Nat) : Int) := rfl
  have h2 : IntKind.u8.wrap (48 + ((m % 10 : Nat) : Int)) = ((48 + m % 10 : Nat) : Int) := by
    have : m % 10 < 10 := Nat.mod_lt _ (by decide)
    simp only [IntKind.wrap, IntKind.bits, IntKind.signed, Bool.false_and, Bool.false_eq_true, if_false]
    omega
  rw [h1, h2]; rfl
theorem digit_last {m : Nat} (h : m < 10) : oneB (IntKind.u8.wrap (48 + (m : Int))) = str [UInt8.ofNat (48 + m)] := by
  have := digit_one m
  rwa [Nat.mod_eq_of_lt h, show (m : Int).tmod 10 = ((m % 10 : Nat) : Int) from rfl, Nat.mod_eq_of_lt h] at this
theorem quo_ten (m : Nat) (h : m ≤ 1000000000) : IntKind.i64.wrap ((m : Int).tdiv 10) = ((m / 10 : Nat) : Int) := by
  have h1 : (m : Int).tdiv 10 = ((m / 10 : Nat) : Int) := rfl
  rw [h1]; exact wrap_in ⟨by omega, by omega⟩
theorem iNum_c (W : World) (hL : LibOk W) (z : Int) : CR Tryz.prog 48 [.int .i64 z] W (Is (.string (str (numT z)))) := by
  refine calls_j Tryz.func48 rfl rfl rfl ?_
  repeat' (first | (show J _ _ _ _ _ (_ :: _) _ _; refine j_call (fun _ hw => within_c _ _ _ _) ?_; rintro _ _ ⟨rfl, rfl⟩) | (show JP _ _ _ _ _ _ _ _ (_ :: _) _ _; refine jp_call (fun _ hw => within_c _ _ _ _) ?_) | refine j_nil ?_ | (show J _ _ _ _ _ (_ :: _) _ _; first | refine j_skip ?_ | refine j_skipU ?_ | refine j_alloc (fun _ => ?_) | refine j_box (fun _ => ?_) | refine j_store ?_ | refine j_build ?_ | refine j_buildSlice (fun _ => ?_) | refine j_makeFunc ?_ | refine j_skip0 ?_ | refine j_op ?_ | ((fail_if_success refine j_look ?_); first | refine j_guard_dec (fun _ => ?_) (fun _ => ?_) | refine j_guard_eq (fun _ => ?_) (fun _ => ?_) | refine j_guard_ne (fun _ => ?_) (fun _ => ?_) | refine j_guard_not (fun _ => ?_) (fun _ => ?_) | refine j_guard (fun _ => ?_) (fun _ => ?_))) | (show JC _ _ _ _ _ _ _; first | refine jc_seq ?_ | refine jc_region ?_ | refine jc_lex ?_ | refine jc_skip ?_ | refine jc_block ?_ | refine jc_ret ?_ | refine jc_exit ?_ | refine jc_true ?_ | refine jc_false ?_ | refine jc_dec (fun _ => ?_) (fun _ => ?_) | refine jc_eq (fun _ => ?_) (fun _ => ?_) | refine jc_ne (fun _ => ?_) (fun _ => ?_) | refine jc_not (fun _ => ?_) (fun _ => ?_) | refine jc_cond (fun _ => ?_) (fun _ => ?_)) | (show JP _ _ _ _ _ _ _ _ (_ :: _) _ _; first | refine jp_do ?_ | refine jp_skip ?_ | refine jp_skipU ?_ | refine jp_build ?_ | refine jp_op ?_) | refine jp_nil ?_ | (show JX _ _ _ _ _ _; first | refine jx_qp ?_ | refine jx_then ?_ | refine jx_block ?_ | refine jx_then_ret ?_ | refine jx_block_ret ?_ | refine jx_then_exit ?_ | refine jx_block_here ?_ | refine jx_block_past ?_ | refine jx_is ?_))
  · rw [numT, ‹inR z 0 1000000000 = false›]; rfl
  · rename_i h
    have hr := h
    simp only [inR, Bool.and_eq_true, decide_eq_true_eq] at hr
    have hz : I64 z := ⟨by omega, by omega⟩
    repeat' (first | (show J _ _ _ _ _ (_ :: _) _ _; refine j_call (fun _ hw => itoa_c _ (hL.st hw) _ hz) ?_; rintro _ _ ⟨rfl, rfl⟩) | (show JP _ _ _ _ _ _ _ _ (_ :: _) _ _; refine jp_call (fun _ hw => itoa_c _ (hL.st hw) _ hz) ?_) | refine j_nil ?_ | (show J _ _ _ _ _ (_ :: _) _ _; first | refine j_skip ?_ | refine j_skipU ?_ | refine j_alloc (fun _ => ?_) | refine j_box (fun _ => ?_) | refine j_store ?_ | refine j_build ?_ | refine j_buildSlice (fun _ => ?_) | refine j_makeFunc ?_ | refine j_skip0 ?_ | refine j_op ?_ | ((fail_if_success refine j_look ?_); first | refine j_guard_dec (fun _ => ?_) (fun _ => ?_) | refine j_guard_eq (fun _ => ?_) (fun _ => ?_) | refine j_guard_ne (fun _ => ?_) (fun _ => ?_) | refine j_guard_not (fun _ => ?_) (fun _ => ?_) | refine j_guard (fun _ => ?_) (fun _ => ?_))) | (show JC _ _ _ _ _ _ _; first | refine jc_seq ?_ | refine jc_region ?_ | refine jc_lex ?_ | refine jc_skip ?_ | refine jc_block ?_ | refine jc_ret ?_ | refine jc_exit ?_ | refine jc_true ?_ | refine jc_false ?_ | refine jc_dec (fun _ => ?_) (fun _ => ?_) | refine jc_eq (fun _ => ?_) (fun _ => ?_) | refine jc_ne (fun _ => ?_) (fun _ => ?_) | refine jc_not (fun _ => ?_) (fun _ => ?_) | refine jc_cond (fun _ => ?_) (fun _ => ?_)) | (show JP _ _ _ _ _ _ _ _ (_ :: _) _ _; first | refine jp_do ?_ | refine jp_skip ?_ | refine jp_skipU ?_ | refine jp_build ?_ | refine jp_op ?_) | refine jp_nil ?_ | (show JX _ _ _ _ _ _; first | refine jx_qp ?_ | refine jx_then ?_ | refine jx_block ?_ | refine jx_then_ret ?_ | refine jx_block_ret ?_ | refine jx_then_exit ?_ | refine jx_block_here ?_ | refine jx_block_past ?_ | refine jx_is ?_))
    rw [numT, h]; rfl
theorem sNum_c (W : World) (z : Int) : CR Tryz.prog 35 [.int .i64 z] W (Is (.string (str (numT z)))) := by
  refine calls_j Tryz.func35 rfl rfl rfl ?_
  repeat' (first | (show J _ _ _ _ _ (_ :: _) _ _; refine j_call (fun _ hw => l01In_c _ _ _ _) ?_; rintro _ _ ⟨rfl, rfl⟩) | (show JP _ _ _ _ _ _ _ _ (_ :: _) _ _; refine jp_call (fun _ hw => l01In_c _ _ _ _) ?_) | refine j_nil ?_ | (show J _ _ _ _ _ (_ :: _) _ _; first | refine j_skip ?_ | refine j_skipU ?_ | refine j_alloc (fun _ => ?_) | refine j_box (fun _ => ?_) | refine j_store ?_ | refine j_build ?_ | refine j_buildSlice (fun _ => ?_) | refine j_makeFunc ?_ | refine j_skip0 ?_ | refine j_op ?_ | ((fail_if_success refine j_look ?_); first | refine j_guard_dec (fun _ => ?_) (fun _ => ?_) | refine j_guard_eq (fun _ => ?_) (fun _ => ?_) | refine j_guard_ne (fun _ => ?_) (fun _ => ?_) | refine j_guard_not (fun _ => ?_) (fun _ => ?_) | refine j_guard (fun _ => ?_) (fun _ => ?_))) | (show JC _ _ _ _ _ _ _; first | refine jc_seq ?_ | refine jc_region ?_ | refine jc_lex ?_ | refine jc_skip ?_ | refine jc_block ?_ | refine jc_ret ?_ | refine jc_exit ?_ | refine jc_true ?_ | refine jc_false ?_ | refine jc_dec (fun _ => ?_) (fun _ => ?_) | refine jc_eq (fun _ => ?_) (fun _ => ?_) | refine jc_ne (fun _ => ?_) (fun _ => ?_) | refine jc_not (fun _ => ?_) (fun _ => ?_) | refine jc_cond (fun _ => ?_) (fun _ => ?_)) | (show JP _ _ _ _ _ _ _ _ (_ :: _) _ _; first | refine jp_do ?_ | refine jp_skip ?_ | refine jp_skipU ?_ | refine jp_build ?_ | refine jp_op ?_) | refine jp_nil ?_ | (show JX _ _ _ _ _ _; first | refine jx_qp ?_ | refine jx_then ?_ | refine jx_block ?_ | refine jx_then_ret ?_ | refine jx_block_ret ?_ | refine jx_then_exit ?_ | refine jx_block_here ?_ | refine jx_block_past ?_ | refine jx_is ?_))
  · rw [numT, ‹inR z 0 1000000000 = false›]; rfl
  · rename_i h
    have hr := h
    simp only [inR, Bool.and_eq_true, decide_eq_true_eq] at hr
    have hb := numT_len z
    rw [numT_in h] at hb ⊢
    refine jc_loop (fun x : Nat × List UInt8 => [(0, .int .i64 x.1), (3, .string (str x.2))]) (fun _ => []) (fun x => x.1 ≤ 1000000000 ∧ Lib.decDigits x.1 ++ x.2 = Lib.decDigits z.toNat) (fun x => x.1) (z.toNat, []) ⟨by dsimp only; omega, by simp⟩ ⟨by simp [Env.get, argEnv]; omega, rfl, trivial⟩ (fun w => St.sel .nil) ?_
    rintro ⟨m, s⟩ ⟨hm, hd⟩
    dsimp only at hm hd ⊢
    have hs : s.length ≤ 10 := by have := congrArg List.length hd; simp at this; omega
    by_cases h9 : (9 : Int) < m
    · have h10 : ¬ m < 10 := by omega
      have ht : (m : Int).tmod 10 = ((m % 10 : Nat) : Int) := rfl
      repeat' (first | refine j_nil ?_ | (show J _ _ _ _ _ (_ :: _) _ _; first | refine j_skip ?_ | refine j_skipU ?_ | refine j_alloc (fun _ => ?_) | refine j_box (fun _ => ?_) | refine j_store ?_ | refine j_build ?_ | refine j_buildSlice (fun _ => ?_) | refine j_makeFunc ?_ | refine j_skip0 ?_ | refine j_op ?_ | ((fail_if_success refine j_look ?_); first | refine j_guard_dec (fun _ => ?_) (fun _ => ?_) | refine j_guard_eq (fun _ => ?_) (fun _ => ?_) | refine j_guard_ne (fun _ => ?_) (fun _ => ?_) | refine j_guard_not (fun _ => ?_) (fun _ => ?_) | refine j_guard (fun _ => ?_) (fun _ => ?_))) | (show JC _ _ _ _ _ _ _; first | refine jc_seq ?_ | refine jc_region ?_ | refine jc_lex ?_ | refine jc_skip ?_ | refine jc_block ?_ | refine jc_ret ?_ | refine jc_exit ?_ | refine jc_true ?_ | refine jc_false ?_ | refine jc_dec (fun _ => ?_) (fun _ => ?_) | refine jc_eq (fun _ => ?_) (fun _ => ?_) | refine jc_ne (fun _ => ?_) (fun _ => ?_) | refine jc_not (fun _ => ?_) (fun _ => ?_) | refine jc_cond (fun _ => ?_) (fun _ => ?_)) | (show JP _ _ _ _ _ _ _ _ (_ :: _) _ _; first | refine jp_do ?_ | refine jp_skip ?_ | refine jp_skipU ?_ | refine jp_build ?_ | refine jp_op ?_) | refine jp_nil ?_ | (show JX _ _ _ _ _ _; first | refine jx_qp ?_ | refine jx_then ?_ | refine jx_block ?_ | refine jx_then_ret ?_ | refine jx_block_ret ?_ | refine jx_then_exit ?_ | refine jx_block_here ?_ | refine jx_block_past ?_ | refine jx_is ?_))
      refine jx_round (m / 10, UInt8.ofNat (48 + m % 10) :: s) ⟨by dsimp only; omega, ?_⟩ (by dsimp only; omega) ⟨?_, ?_, trivial⟩ (fun w => St.sel .nil)
      · rw [Lib.decDigits, dif_neg h10] at hd; simpa using hd
      · show some (Value.int .i64 (IntKind.i64.wrap ((m : Int).tdiv 10))) = some (Value.int .i64 ((m / 10 : Nat) : Int))
        rw [quo_ten m hm]
      · simp only [Env.get]; rw [digit_one, str_append]; rfl
    · repeat' (first | refine j_nil ?_ | (show J _ _ _ _ _ (_ :: _) _ _; first | refine j_skip ?_ | refine j_skipU ?_ | refine j_alloc (fun _ => ?_) | refine j_box (fun _ => ?_) | refine j_store ?_ | refine j_build ?_ | refine j_buildSlice (fun _ => ?_) | refine j_makeFunc ?_ | refine j_skip0 ?_ | refine j_op ?_ | ((fail_if_success refine j_look ?_); first | refine j_guard_dec (fun _ => ?_) (fun _ => ?_) | refine j_guard_eq (fun _ => ?_) (fun _ => ?_) | refine j_guard_ne (fun _ => ?_) (fun _ => ?_) | refine j_guard_not (fun _ => ?_) (fun _ => ?_) | refine j_guard (fun _ => ?_) (fun _ => ?_))) | (show JC _ _ _ _ _ _ _; first | refine jc_seq ?_ | refine jc_region ?_ | refine jc_lex ?_ | refine jc_skip ?_ | refine jc_block ?_ | refine jc_ret ?_ | refine jc_exit ?_ | refine jc_true ?_ | refine jc_false ?_ | refine jc_dec (fun _ => ?_) (fun _ => ?_) | refine jc_eq (fun _ => ?_) (fun _ => ?_) | refine jc_ne (fun _ => ?_) (fun _ => ?_) | refine jc_not (fun _ => ?_) (fun _ => ?_) | refine jc_cond (fun _ => ?_) (fun _ => ?_)) | (show JP _ _ _ _ _ _ _ _ (_ :: _) _ _; first | refine jp_do ?_ | refine jp_skip ?_ | refine jp_skipU ?_ | refine jp_build ?_ | refine jp_op ?_) | refine jp_nil ?_ | (show JX _ _ _ _ _ _; first | refine jx_qp ?_ | refine jx_then ?_ | refine jx_block ?_ | refine jx_then_ret ?_ | refine jx_block_ret ?_ | refine jx_then_exit ?_ | refine jx_block_here ?_ | refine jx_block_past ?_ | refine jx_is ?_))
      rw [digit_last (by omega), str_append]
      rw [Lib.decDigits, dif_pos (by omega)] at hd
      rw [← hd]; rfl
end Go.Proofs.YtiobmbicldjikaaGreatDoor
