/- The normal form of an operation. No condition. -/
import Derived.Test.YtiobmbicldjikaaGreatDoorParts

import Derived.Test.YtiobmbicldjikaaGreatDoorElem

set_option linter.unusedVariables false

namespace Go.Proofs.YtiobmbicldjikaaGreatDoor

def flushPut (out : List DPart) (put : List Int) : List DPart := if 0 < put.length then out ++ [⟨2, 0, put⟩] else out
def flushF (out : List DPart) (put : List Int) (drop : Int) : List DPart := if 0 < drop then flushPut out put ++ [⟨3, drop, []⟩] else flushPut out put
def FlushR (bp bo bd : Nat) (out : List DPart) (v : Value) (M : List Hp) : Prop :=
  v = .tuple #[] ∧ ∃ a c H, Slc a c out H ∧ M = [cellsAt bp 0 [.slice none 0 0], cellsAt bo 0 [.slice a out.length c], H, cellsAt bd 0 [.int .i64 0]]
theorem iFlush_c {W : World} {F : List Hp} {bp bo bd cp co : Nat} {ap ao : Option Addr} {put : List Int} {out : List DPart} {drop : Int} {H1 Ho : Hp} (hp : Slc ap cp put H1) (ho : Slc ao co out Ho) (hd : I64 drop) (hb : out.length ≤ 1000000000) :
    CM Tryz.prog 208 [.pointer (some ⟨bp, 0 + 0, none⟩), .pointer (some ⟨bo, 0 + 0, none⟩), .pointer (some ⟨bd, 0 + 0, none⟩)] W
      [cellsAt bp 0 [.slice ap put.length cp], H1, cellsAt bo 0 [.slice ao out.length co], Ho, cellsAt bd 0 [.int .i64 drop]] F (FlushR bp bo bd (flushF out put drop)) := by
  refine callsm_j Tryz.func208 rfl rfl rfl ?_
  repeat' (first | refine j_nil ?_ | (show J _ _ _ _ _ (_ :: _) _ _; first | refine j_skip ?_ | refine j_skipU ?_ | refine j_alloc (fun _ => ?_) | refine j_box (fun _ => ?_) | refine j_store ?_ | refine j_build ?_ | refine j_buildSlice (fun _ => ?_) | refine j_makeFunc ?_ | refine j_skip0 ?_ | refine j_op ?_ | ((fail_if_success refine j_look ?_); first | refine j_guard_dec (fun _ => ?_) (fun _ => ?_) | refine j_guard_eq (fun _ => ?_) (fun _ => ?_) | refine j_guard_ne (fun _ => ?_) (fun _ => ?_) | refine j_guard_not (fun _ => ?_) (fun _ => ?_) | refine j_guard (fun _ => ?_) (fun _ => ?_))) | (show JC _ _ _ _ _ _ _; first | refine jc_seq ?_ | refine jc_region ?_ | refine jc_lex ?_ | refine jc_skip ?_ | refine jc_block ?_ | refine jc_ret ?_ | refine jc_exit ?_ | refine jc_true ?_ | refine jc_false ?_ | refine jc_dec (fun _ => ?_) (fun _ => ?_) | refine jc_eq (fun _ => ?_) (fun _ => ?_) | refine jc_ne (fun _ => ?_) (fun _ => ?_) | refine jc_not (fun _ => ?_) (fun _ => ?_) | refine jc_cond (fun _ => ?_) (fun _ => ?_)) | (show JP _ _ _ _ _ _ _ _ (_ :: _) _ _; first | refine jp_do ?_ | refine jp_skip ?_ | refine jp_skipU ?_ | refine jp_build ?_ | refine jp_op ?_) | refine jp_nil ?_ | (show JX _ _ _ _ _ _; first | refine jx_qp ?_ | refine jx_then ?_ | refine jx_block ?_ | refine jx_then_ret ?_ | refine jx_block_ret ?_ | refine jx_then_exit ?_ | refine jx_block_here ?_ | refine jx_block_past ?_ | refine jx_is ?_))
  case refine_1 h1 =>
    refine j_append1 (α := DPart) ho (Elems.single (DPart.re (x := ⟨2, 0, put⟩) (show I64 2 by decide) (show I64 0 by decide) hp)) (news_src (src_box (by repeat (first | exact .here | apply InL.there))) rfl) (by simp; omega) (fun a' c' H' hS => ?_)
    repeat' (first | refine j_nil ?_ | (show J _ _ _ _ _ (_ :: _) _ _; first | refine j_skip ?_ | refine j_skipU ?_ | refine j_alloc (fun _ => ?_) | refine j_box (fun _ => ?_) | refine j_store ?_ | refine j_build ?_ | refine j_buildSlice (fun _ => ?_) | refine j_makeFunc ?_ | refine j_skip0 ?_ | refine j_op ?_ | ((fail_if_success refine j_look ?_); first | refine j_guard_dec (fun _ => ?_) (fun _ => ?_) | refine j_guard_eq (fun _ => ?_) (fun _ => ?_) | refine j_guard_ne (fun _ => ?_) (fun _ => ?_) | refine j_guard_not (fun _ => ?_) (fun _ => ?_) | refine j_guard (fun _ => ?_) (fun _ => ?_))) | (show JC _ _ _ _ _ _ _; first | refine jc_seq ?_ | refine jc_region ?_ | refine jc_lex ?_ | refine jc_skip ?_ | refine jc_block ?_ | refine jc_ret ?_ | refine jc_exit ?_ | refine jc_true ?_ | refine jc_false ?_ | refine jc_dec (fun _ => ?_) (fun _ => ?_) | refine jc_eq (fun _ => ?_) (fun _ => ?_) | refine jc_ne (fun _ => ?_) (fun _ => ?_) | refine jc_not (fun _ => ?_) (fun _ => ?_) | refine jc_cond (fun _ => ?_) (fun _ => ?_)) | (show JP _ _ _ _ _ _ _ _ (_ :: _) _ _; first | refine jp_do ?_ | refine jp_skip ?_ | refine jp_skipU ?_ | refine jp_build ?_ | refine jp_op ?_) | refine jp_nil ?_ | (show JX _ _ _ _ _ _; first | refine jx_qp ?_ | refine jx_then ?_ | refine jx_block ?_ | refine jx_then_ret ?_ | refine jx_block_ret ?_ | refine jx_then_exit ?_ | refine jx_block_here ?_ | refine jx_block_past ?_ | refine jx_is ?_))
    case refine_1 h2 =>
      refine j_append0 (α := DPart) hS (Elems.single (DPart.re (x := ⟨3, drop, []⟩) (show I64 3 by decide) hd .nil)) (news_src (src_box (by repeat (first | exact .here | apply InL.there))) rfl) (by simp; omega) (fun a2 c2 H2 hS2 => ?_)
      repeat' (first | refine j_nil ?_ | (show J _ _ _ _ _ (_ :: _) _ _; first | refine j_skip ?_ | refine j_skipU ?_ | refine j_alloc (fun _ => ?_) | refine j_box (fun _ => ?_) | refine j_store ?_ | refine j_build ?_ | refine j_buildSlice (fun _ => ?_) | refine j_makeFunc ?_ | refine j_skip0 ?_ | refine j_op ?_ | ((fail_if_success refine j_look ?_); first | refine j_guard_dec (fun _ => ?_) (fun _ => ?_) | refine j_guard_eq (fun _ => ?_) (fun _ => ?_) | refine j_guard_ne (fun _ => ?_) (fun _ => ?_) | refine j_guard_not (fun _ => ?_) (fun _ => ?_) | refine j_guard (fun _ => ?_) (fun _ => ?_))) | (show JC _ _ _ _ _ _ _; first | refine jc_seq ?_ | refine jc_region ?_ | refine jc_lex ?_ | refine jc_skip ?_ | refine jc_block ?_ | refine jc_ret ?_ | refine jc_exit ?_ | refine jc_true ?_ | refine jc_false ?_ | refine jc_dec (fun _ => ?_) (fun _ => ?_) | refine jc_eq (fun _ => ?_) (fun _ => ?_) | refine jc_ne (fun _ => ?_) (fun _ => ?_) | refine jc_not (fun _ => ?_) (fun _ => ?_) | refine jc_cond (fun _ => ?_) (fun _ => ?_)) | (show JP _ _ _ _ _ _ _ _ (_ :: _) _ _; first | refine jp_do ?_ | refine jp_skip ?_ | refine jp_skipU ?_ | refine jp_build ?_ | refine jp_op ?_) | refine jp_nil ?_ | (show JX _ _ _ _ _ _; first | refine jx_qp ?_ | refine jx_then ?_ | refine jx_block ?_ | refine jx_then_ret ?_ | refine jx_block_ret ?_ | refine jx_then_exit ?_ | refine jx_block_here ?_ | refine jx_block_past ?_ | refine jx_is ?_))
      have hf : flushF out put drop = (out ++ [⟨2, 0, put⟩]) ++ [⟨3, drop, []⟩] := by unfold flushF flushPut; rw [if_pos (by assumption), if_pos (by omega)]
      rw [hf]
      exact jx_endm (.inr rfl) [cellsAt bp 0 [.slice none 0 0], cellsAt bo 0 [.slice a2 _ c2], H2, cellsAt bd 0 [.int .i64 0]] ⟨rfl, _, _, _, hS2, rfl⟩
    case refine_2 =>
      have hf : flushF out put drop = (out ++ [⟨2, 0, put⟩]) := by unfold flushF flushPut; rw [if_neg (by assumption), if_pos (by omega)]
      rw [hf]
      exact jx_endm (.inr rfl) [cellsAt bp 0 [.slice none 0 0], cellsAt bo 0 [.slice a' _ c'], H', cellsAt bd 0 [.int .i64 0]] ⟨rfl, _, _, _, hS, rfl⟩
  case refine_2.refine_1 h2 =>
    refine j_append0 (α := DPart) ho (Elems.single (DPart.re (x := ⟨3, drop, []⟩) (show I64 3 by decide) hd .nil)) (news_src (src_box (by repeat (first | exact .here | apply InL.there))) rfl) (by simp; omega) (fun a2 c2 H2 hS2 => ?_)
    repeat' (first | refine j_nil ?_ | (show J _ _ _ _ _ (_ :: _) _ _; first | refine j_skip ?_ | refine j_skipU ?_ | refine j_alloc (fun _ => ?_) | refine j_box (fun _ => ?_) | refine j_store ?_ | refine j_build ?_ | refine j_buildSlice (fun _ => ?_) | refine j_makeFunc ?_ | refine j_skip0 ?_ | refine j_op ?_ | ((fail_if_success refine j_look ?_); first | refine j_guard_dec (fun _ => ?_) (fun _ => ?_) | refine j_guard_eq (fun _ => ?_) (fun _ => ?_) | refine j_guard_ne (fun _ => ?_) (fun _ => ?_) | refine j_guard_not (fun _ => ?_) (fun _ => ?_) | refine j_guard (fun _ => ?_) (fun _ => ?_))) | (show JC _ _ _ _ _ _ _; first | refine jc_seq ?_ | refine jc_region ?_ | refine jc_lex ?_ | refine jc_skip ?_ | refine jc_block ?_ | refine jc_ret ?_ | refine jc_exit ?_ | refine jc_true ?_ | refine jc_false ?_ | refine jc_dec (fun _ => ?_) (fun _ => ?_) | refine jc_eq (fun _ => ?_) (fun _ => ?_) | refine jc_ne (fun _ => ?_) (fun _ => ?_) | refine jc_not (fun _ => ?_) (fun _ => ?_) | refine jc_cond (fun _ => ?_) (fun _ => ?_)) | (show JP _ _ _ _ _ _ _ _ (_ :: _) _ _; first | refine jp_do ?_ | refine jp_skip ?_ | refine jp_skipU ?_ | refine jp_build ?_ | refine jp_op ?_) | refine jp_nil ?_ | (show JX _ _ _ _ _ _; first | refine jx_qp ?_ | refine jx_then ?_ | refine jx_block ?_ | refine jx_then_ret ?_ | refine jx_block_ret ?_ | refine jx_then_exit ?_ | refine jx_block_here ?_ | refine jx_block_past ?_ | refine jx_is ?_))
    have hf : flushF out put drop = out ++ [⟨3, drop, []⟩] := by unfold flushF flushPut; rw [if_pos (by assumption), if_neg (by omega)]
    rw [hf]
    exact jx_endm (.inr rfl) [cellsAt bp 0 [.slice none 0 0], cellsAt bo 0 [.slice a2 _ c2], H2, cellsAt bd 0 [.int .i64 0]] ⟨rfl, _, _, _, hS2, rfl⟩
  case refine_2.refine_2 =>
    have hf : flushF out put drop = out := by unfold flushF flushPut; rw [if_neg (by assumption), if_neg (by omega)]
    rw [hf]
    exact jx_endm (.inr rfl) [cellsAt bp 0 [.slice none 0 0], cellsAt bo 0 [.slice ao _ co], Ho, cellsAt bd 0 [.int .i64 0]] ⟨rfl, _, _, _, ho, rfl⟩
/-! ### The whole -/

structure NSt where
  out : List DPart
  put : List Int
  drop : Int
def lastIx (o : List DPart) : Nat := ((o.length : Int) - 1).toNat
def keepOn (o : List DPart) (n : Int) : List DPart :=
  if h : lastIx o < o.length then
    (if o[lastIx o].kind = 1 then o.set (lastIx o) ⟨o[lastIx o].kind, o[lastIx o].n + n, o[lastIx o].signs⟩ else o ++ [⟨1, n, []⟩])
  else o ++ [⟨1, n, []⟩]
def nstep (s : NSt) (p : DPart) : NSt :=
  if p.kind = 2 then ⟨s.out, s.put ++ p.signs, s.drop⟩ else if p.kind = 3 then ⟨s.out, s.put, s.drop + p.n⟩
  else if 0 < p.n then ⟨keepOn (flushF s.out s.put s.drop) p.n, [], 0⟩ else s
def ns (l : List DPart) (k : Nat) : NSt := (l.take k).foldl nstep ⟨[], [], 0⟩
def normF (l : List DPart) : List DPart := flushF (ns l l.length).out (ns l l.length).put (ns l l.length).drop
theorem ns_succ {l : List DPart} {k : Nat} (h : k < l.length) : ns l (k + 1) = nstep (ns l k) l[k] := by
  unfold ns; rw [List.take_succ_eq_append_getElem h, List.foldl_append]; rfl
theorem ns_all {l : List DPart} {k : Nat} (h : ¬ k < l.length) : ns l k = ns l l.length := by
  unfold ns; rw [List.take_of_length_le (by omega), List.take_length]
structure NInv (k : Nat) (s : NSt) : Prop where
  out : s.out.length ≤ 3 * k
  put : s.put.length ≤ 200 * k
  drop : 0 ≤ s.drop ∧ s.drop ≤ 200 * k
  n : ∀ p ∈ s.out, 0 ≤ p.n ∧ p.n ≤ 200 * k
theorem flushPut_len (out : List DPart) (put : List Int) : (flushPut out put).length ≤ out.length + 1 := by unfold flushPut; split <;> simp
theorem flushF_len (out : List DPart) (put : List Int) (drop : Int) : (flushF out put drop).length ≤ out.length + 2 := by
  have := flushPut_len out put
  unfold flushF; split <;> simp <;> omega
theorem flushF_n {out : List DPart} {put : List Int} {drop m : Int} (hm : 0 ≤ m) (h : ∀ p ∈ out, 0 ≤ p.n ∧ p.n ≤ m) (hd : drop ≤ m) : ∀ p ∈ flushF out put drop, 0 ≤ p.n ∧ p.n ≤ m := by
  have h1 : ∀ p ∈ flushPut out put, 0 ≤ p.n ∧ p.n ≤ m := by
    unfold flushPut; split
    · intro p hp
      rcases List.mem_append.1 hp with hp | hp
      · exact h p hp
      · obtain rfl := List.mem_singleton.1 hp; simp; omega
    · exact h
  unfold flushF; split
  · intro p hp
    rcases List.mem_append.1 hp with hp | hp
    · exact h1 p hp
    · obtain rfl := List.mem_singleton.1 hp; simp; omega
  · exact h1
theorem keepOn_len (o : List DPart) (n : Int) : (keepOn o n).length ≤ o.length + 1 := by unfold keepOn; split <;> (try split) <;> simp
theorem keepOn_n {o : List DPart} {n m k : Int} (h : ∀ p ∈ o, 0 ≤ p.n ∧ p.n ≤ m) (hn : 0 ≤ n) (hm : 0 ≤ m) (hk : m + n ≤ k) : ∀ p ∈ keepOn o n, 0 ≤ p.n ∧ p.n ≤ k := by
  have h0 : ∀ p ∈ o ++ [⟨1, n, []⟩], 0 ≤ p.n ∧ p.n ≤ k := by
    intro p hp
    rcases List.mem_append.1 hp with hp | hp
    · have := h p hp; omega
    · obtain rfl := List.mem_singleton.1 hp; simp; omega
  unfold keepOn; split
  · split
    · intro p hp
      rename_i hl _
      rcases List.mem_or_eq_of_mem_set hp with hp | rfl
      · have := h p hp; omega
      · have := h _ (List.getElem_mem hl); simp; omega
    · exact h0
  · exact h0
theorem nstep_inv {k : Nat} {s : NSt} {p : DPart} (h : NInv k s) (hp : partOk p = true) : NInv (k + 1) (nstep s p) := by
  have hb := partOk_bd hp
  obtain ⟨h1, h2, h3, h4⟩ := h
  have h4' : ∀ p ∈ s.out, 0 ≤ p.n ∧ p.n ≤ 200 * ((k + 1 : Nat) : Int) := fun p hp => by have := h4 p hp; omega
  unfold nstep
  split
  · exact ⟨by simp; omega, by simp; omega, by simp; omega, h4'⟩
  · split
    · exact ⟨by simp; omega, by simp; omega, by simp; omega, h4'⟩
    · split
      · have e1 := flushF_len s.out s.put s.drop
        have e2 := keepOn_len (flushF s.out s.put s.drop) p.n
        exact ⟨by simp; omega, by simp, by simp; omega, keepOn_n (m := 200 * k) (flushF_n (by omega) h4 h3.2) (by omega) (by omega) (by omega)⟩
      · exact ⟨by omega, by omega, by omega, h4'⟩
theorem ns_inv {l : List DPart} (h : ∀ p ∈ l, partOk p = true) : ∀ k, k ≤ l.length → NInv k (ns l k)
  | 0, _ => ⟨by simp [ns], by simp [ns], by simp [ns], by simp [ns]⟩
  | k + 1, hk => by rw [ns_succ (by omega)]; exact nstep_inv (ns_inv h k (by omega)) (h _ (List.getElem_mem _))

/-- A new slice that is the caller's. -/
def OwnS {α : Type} [Rep α] (l : List α) (v : Value) (M : List Hp) : Prop := ∃ a c H, v = .slice a l.length c ∧ Slc a c l H ∧ M = [H]
structure NIx where
  k : Nat
  ap : Option Addr
  cp : Nat
  H1 : Hp
  ao : Option Addr
  co : Nat
  Ho : Hp
theorem iNormal_c (W : World) {a : Option Addr} {cap : Nat} {l : List DPart} (hl : RdS W a cap l) (hok : ∀ p ∈ l, partOk p = true) (hlen : (l.length : Int) ≤ 600) :
    CR Tryz.prog 166 [.slice a l.length cap] W (OwnS (normF l)) := by
  have hlt := hl.lt
  have hadr := hl.adr
  refine calls_j Tryz.func166 rfl rfl rfl ?_
  repeat' (first | refine j_nil ?_ | (show J _ _ _ _ _ (_ :: _) _ _; first | refine j_skip ?_ | refine j_skipU ?_ | refine j_alloc (fun _ => ?_) | refine j_box (fun _ => ?_) | refine j_store ?_ | refine j_build ?_ | refine j_buildSlice (fun _ => ?_) | refine j_makeFunc ?_ | refine j_skip0 ?_ | refine j_op ?_ | ((fail_if_success refine j_look ?_); first | refine j_guard_dec (fun _ => ?_) (fun _ => ?_) | refine j_guard_eq (fun _ => ?_) (fun _ => ?_) | refine j_guard_ne (fun _ => ?_) (fun _ => ?_) | refine j_guard_not (fun _ => ?_) (fun _ => ?_) | refine j_guard (fun _ => ?_) (fun _ => ?_))) | (show JC _ _ _ _ _ _ _; first | refine jc_seq ?_ | refine jc_region ?_ | refine jc_lex ?_ | refine jc_skip ?_ | refine jc_block ?_ | refine jc_ret ?_ | refine jc_exit ?_ | refine jc_true ?_ | refine jc_false ?_ | refine jc_dec (fun _ => ?_) (fun _ => ?_) | refine jc_eq (fun _ => ?_) (fun _ => ?_) | refine jc_ne (fun _ => ?_) (fun _ => ?_) | refine jc_not (fun _ => ?_) (fun _ => ?_) | refine jc_cond (fun _ => ?_) (fun _ => ?_)) | (show JP _ _ _ _ _ _ _ _ (_ :: _) _ _; first | refine jp_do ?_ | refine jp_skip ?_ | refine jp_skipU ?_ | refine jp_build ?_ | refine jp_op ?_) | refine jp_nil ?_ | (show JX _ _ _ _ _ _; first | refine jx_qp ?_ | refine jx_then ?_ | refine jx_block ?_ | refine jx_then_ret ?_ | refine jx_block_ret ?_ | refine jx_then_exit ?_ | refine jx_block_here ?_ | refine jx_block_past ?_ | refine jx_is ?_))
  rename_i b3 b4 b5
  refine jc_loop (fun x : NIx => [(3, .pointer (some ⟨b3, 0 + 0, none⟩)), (4, .pointer (some ⟨b4, 0 + 0, none⟩)), (5, .pointer (some ⟨b5, 0 + 0, none⟩)),
      (6, .func (.func 208) ([] : List Value).toArray [Value.pointer (some ⟨b4, 0 + 0, none⟩), Value.pointer (some ⟨b3, 0 + 0, none⟩), Value.pointer (some ⟨b5, 0 + 0, none⟩)].toArray),
      (11, .slice a l.length cap), (12, .int .i64 l.length), (13, .int .i64 x.k)])
    (fun x => [cellsAt b4 0 [.slice x.ap (ns l x.k).put.length x.cp], x.H1, cellsAt b3 0 [.slice x.ao (ns l x.k).out.length x.co], x.Ho, cellsAt b5 0 [.int .i64 (ns l x.k).drop]])
    (fun x => x.k ≤ l.length ∧ Slc x.ap x.cp (ns l x.k).put x.H1 ∧ Slc x.ao x.co (ns l x.k).out x.Ho) (fun x => l.length - x.k) ⟨0, none, 0, [], none, 0, []⟩ ⟨by simp, .nil, .nil⟩ ⟨rfl, rfl, rfl, rfl, rfl, rfl, rfl, trivial⟩ (fun w => St.sel (by repeat (first | exact .nil | apply Sel.cons (by repeat (first | exact .here | exact .e rfl | apply Rm.there))))) ?_
  rintro ⟨k, ap, cp, H1, ao, co, Ho⟩ ⟨hk, hp, ho⟩
  dsimp only at hk hp ho ⊢
  have hinv := ns_inv hok k hk
  obtain ⟨j1, j2, j3, j4⟩ := hinv
  by_cases h : k < l.length
  · obtain ⟨a1, c1, hc, i1, i2, hs⟩ := hl.DPart h
    have hpb := partOk_bd (hok l[k] (List.getElem_mem h))
    have hst := ns_succ h
    repeat' (first | refine j_nil ?_ | (show J _ _ _ _ _ (_ :: _) _ _; first | refine j_skip ?_ | refine j_skipU ?_ | refine j_alloc (fun _ => ?_) | refine j_box (fun _ => ?_) | refine j_store ?_ | refine j_build ?_ | refine j_buildSlice (fun _ => ?_) | refine j_makeFunc ?_ | refine j_skip0 ?_ | refine j_op ?_ | ((fail_if_success refine j_look ?_); first | refine j_guard_dec (fun _ => ?_) (fun _ => ?_) | refine j_guard_eq (fun _ => ?_) (fun _ => ?_) | refine j_guard_ne (fun _ => ?_) (fun _ => ?_) | refine j_guard_not (fun _ => ?_) (fun _ => ?_) | refine j_guard (fun _ => ?_) (fun _ => ?_))) | (show JC _ _ _ _ _ _ _; first | refine jc_seq ?_ | refine jc_region ?_ | refine jc_lex ?_ | refine jc_skip ?_ | refine jc_block ?_ | refine jc_ret ?_ | refine jc_exit ?_ | refine jc_true ?_ | refine jc_false ?_ | refine jc_dec (fun _ => ?_) (fun _ => ?_) | refine jc_eq (fun _ => ?_) (fun _ => ?_) | refine jc_ne (fun _ => ?_) (fun _ => ?_) | refine jc_not (fun _ => ?_) (fun _ => ?_) | refine jc_cond (fun _ => ?_) (fun _ => ?_)) | (show JP _ _ _ _ _ _ _ _ (_ :: _) _ _; first | refine jp_do ?_ | refine jp_skip ?_ | refine jp_skipU ?_ | refine jp_build ?_ | refine jp_op ?_) | refine jp_nil ?_ | (show JX _ _ _ _ _ _; first | refine jx_qp ?_ | refine jx_then ?_ | refine jx_block ?_ | refine jx_then_ret ?_ | refine jx_block_ret ?_ | refine jx_then_exit ?_ | refine jx_block_here ?_ | refine jx_block_past ?_ | refine jx_is ?_))
    case refine_1 h1 h2 =>
      have e : ns l (k + 1) = ⟨(ns l k).out, (ns l k).put ++ l[k].signs, (ns l k).drop⟩ := by rw [hst]; unfold nstep; rw [if_pos h2]
      refine j_append0 (α := Int) hp (Elems.ints hs.i64) (fun w hw => (hs.st hw).newsI) (by omega) (fun a2 c2 H2 hS => ?_)
      repeat' (first | refine j_nil ?_ | (show J _ _ _ _ _ (_ :: _) _ _; first | refine j_skip ?_ | refine j_skipU ?_ | refine j_alloc (fun _ => ?_) | refine j_box (fun _ => ?_) | refine j_store ?_ | refine j_build ?_ | refine j_buildSlice (fun _ => ?_) | refine j_makeFunc ?_ | refine j_skip0 ?_ | refine j_op ?_ | ((fail_if_success refine j_look ?_); first | refine j_guard_dec (fun _ => ?_) (fun _ => ?_) | refine j_guard_eq (fun _ => ?_) (fun _ => ?_) | refine j_guard_ne (fun _ => ?_) (fun _ => ?_) | refine j_guard_not (fun _ => ?_) (fun _ => ?_) | refine j_guard (fun _ => ?_) (fun _ => ?_))) | (show JC _ _ _ _ _ _ _; first | refine jc_seq ?_ | refine jc_region ?_ | refine jc_lex ?_ | refine jc_skip ?_ | refine jc_block ?_ | refine jc_ret ?_ | refine jc_exit ?_ | refine jc_true ?_ | refine jc_false ?_ | refine jc_dec (fun _ => ?_) (fun _ => ?_) | refine jc_eq (fun _ => ?_) (fun _ => ?_) | refine jc_ne (fun _ => ?_) (fun _ => ?_) | refine jc_not (fun _ => ?_) (fun _ => ?_) | refine jc_cond (fun _ => ?_) (fun _ => ?_)) | (show JP _ _ _ _ _ _ _ _ (_ :: _) _ _; first | refine jp_do ?_ | refine jp_skip ?_ | refine jp_skipU ?_ | refine jp_build ?_ | refine jp_op ?_) | refine jp_nil ?_ | (show JX _ _ _ _ _ _; first | refine jx_qp ?_ | refine jx_then ?_ | refine jx_block ?_ | refine jx_then_ret ?_ | refine jx_block_ret ?_ | refine jx_then_exit ?_ | refine jx_block_here ?_ | refine jx_block_past ?_ | refine jx_is ?_))
      refine jx_round ⟨k + 1, a2, c2, H2, ao, co, Ho⟩ ⟨h, by rw [e]; exact hS, by rw [e]; exact ho⟩ (by show l.length - (k + 1) < l.length - k; omega) ⟨rfl, rfl, rfl, rfl, rfl, rfl, rfl, trivial⟩ ?_
      dsimp only; rw [e]; exact (fun w => St.sel (by repeat (first | exact .nil | apply Sel.cons (by repeat (first | exact .here | exact .e rfl | apply Rm.there)))))
    case refine_2.refine_1 h1 h2 h3 =>
      have e : ns l (k + 1) = ⟨(ns l k).out, (ns l k).put, (ns l k).drop + l[k].n⟩ := by rw [hst]; unfold nstep; rw [if_neg h2, if_pos h3]
      refine jx_round ⟨k + 1, ap, cp, H1, ao, co, Ho⟩ ⟨h, by rw [e]; exact hp, by rw [e]; exact ho⟩ (by show l.length - (k + 1) < l.length - k; omega) ⟨rfl, rfl, rfl, rfl, rfl, rfl, rfl, trivial⟩ ?_
      dsimp only; rw [e]; exact (fun w => St.sel (by repeat (first | exact .nil | apply Sel.cons (by repeat (first | exact .here | exact .e rfl | apply Rm.there)))))
    case refine_2.refine_2.refine_2 h1 h2 h3 h4 =>
      have e : ns l (k + 1) = ns l k := by rw [hst]; unfold nstep; rw [if_neg h2, if_neg h3, if_neg h4]
      refine jx_round ⟨k + 1, ap, cp, H1, ao, co, Ho⟩ ⟨h, by rw [e]; exact hp, by rw [e]; exact ho⟩ (by show l.length - (k + 1) < l.length - k; omega) ⟨rfl, rfl, rfl, rfl, rfl, rfl, rfl, trivial⟩ ?_
      dsimp only; rw [e]; exact (fun w => St.sel (by repeat (first | exact .nil | apply Sel.cons (by repeat (first | exact .here | exact .e rfl | apply Rm.there)))))
    case refine_2.refine_2.refine_1 h1 h2 h3 h4 =>
      have e : ns l (k + 1) = ⟨keepOn (flushF (ns l k).out (ns l k).put (ns l k).drop) l[k].n, [], 0⟩ := by rw [hst]; unfold nstep; rw [if_neg h2, if_neg h3, if_pos h4]
      refine j_callv (iFlush_c (drop := (ns l k).drop) hp ho ⟨by omega, by omega⟩ (by omega)) (fun v M hR => ?_)
      obtain ⟨rfl, a2, c2, H2, hS, rfl⟩ := hR
      have hfl := flushF_len (ns l k).out (ns l k).put (ns l k).drop
      have hfn := flushF_n (m := 200 * k) (by omega) j4 (put := (ns l k).put) j3.2
      generalize flushF (ns l k).out (ns l k).put (ns l k).drop = o at *
      have hadr2 := hS.adr
      by_cases hz : lastIx o < o.length
      · obtain ⟨c, Hx, hx, hsub, _⟩ := hS.subs hz
        obtain ⟨a3, c3, H3, rfl, rfl, k1, k2, k3⟩ := DPart.un hx
        have hon := hfn _ (List.getElem_mem hz)
        unfold lastIx at *
        repeat' (first | refine j_nil ?_ | (show J _ _ _ _ _ (_ :: _) _ _; first | refine j_skip ?_ | refine j_skipU ?_ | refine j_alloc (fun _ => ?_) | refine j_box (fun _ => ?_) | refine j_store ?_ | refine j_build ?_ | refine j_buildSlice (fun _ => ?_) | refine j_makeFunc ?_ | refine j_skip0 ?_ | refine j_op ?_ | ((fail_if_success refine j_look ?_); first | refine j_guard_dec (fun _ => ?_) (fun _ => ?_) | refine j_guard_eq (fun _ => ?_) (fun _ => ?_) | refine j_guard_ne (fun _ => ?_) (fun _ => ?_) | refine j_guard_not (fun _ => ?_) (fun _ => ?_) | refine j_guard (fun _ => ?_) (fun _ => ?_))) | (show JC _ _ _ _ _ _ _; first | refine jc_seq ?_ | refine jc_region ?_ | refine jc_lex ?_ | refine jc_skip ?_ | refine jc_block ?_ | refine jc_ret ?_ | refine jc_exit ?_ | refine jc_true ?_ | refine jc_false ?_ | refine jc_dec (fun _ => ?_) (fun _ => ?_) | refine jc_eq (fun _ => ?_) (fun _ => ?_) | refine jc_ne (fun _ => ?_) (fun _ => ?_) | refine jc_not (fun _ => ?_) (fun _ => ?_) | refine jc_cond (fun _ => ?_) (fun _ => ?_)) | (show JP _ _ _ _ _ _ _ _ (_ :: _) _ _; first | refine jp_do ?_ | refine jp_skip ?_ | refine jp_skipU ?_ | refine jp_build ?_ | refine jp_op ?_) | refine jp_nil ?_ | (show JX _ _ _ _ _ _; first | refine jx_qp ?_ | refine jx_then ?_ | refine jx_block ?_ | refine jx_then_ret ?_ | refine jx_block_ret ?_ | refine jx_then_exit ?_ | refine jx_block_here ?_ | refine jx_block_past ?_ | refine jx_is ?_))
        case refine_1.refine_1 g1 g2 =>
          have ek : keepOn o l[k].n = o.set ((o.length : Int) - 1).toNat ⟨o[((o.length : Int) - 1).toNat].kind, o[((o.length : Int) - 1).toNat].n + l[k].n, o[((o.length : Int) - 1).toNat].signs⟩ := by
            unfold keepOn lastIx; rw [dif_pos hz, if_pos g2]
          obtain ⟨c', Hx', R, hx', op, cl⟩ := hS.opj hz
          obtain ⟨a4, c4, H4, rfl, rfl, q1, q2, q3⟩ := DPart.un hx'
          obtain ⟨H5, s1, s2⟩ := cl _ ⟨o[((o.length : Int) - 1).toNat].kind, o[((o.length : Int) - 1).toNat].n + l[k].n, o[((o.length : Int) - 1).toNat].signs⟩ _ (DPart.re q1 ⟨by dsimp only; omega, by dsimp only; omega⟩ q3)
          refine J.perm (L' := _ :: _ :: _ :: [cellsAt b4 0 [.slice none 0 0], cellsAt b3 0 [.slice a2 o.length c2], cellsAt b5 0 [.int .i64 0]]) ?_ (fun w hw => op _ _ _ ((hw.sel (L' := [H2, cellsAt b4 0 [.slice none 0 0], cellsAt b3 0 [.slice a2 o.length c2], cellsAt b5 0 [.int .i64 0]]) (by repeat (first | exact .nil | apply Sel.cons (by repeat (first | exact .here | exact .e rfl | apply Rm.there))))))) 
          repeat' (first | refine j_nil ?_ | (show J _ _ _ _ _ (_ :: _) _ _; first | refine j_skip ?_ | refine j_skipU ?_ | refine j_alloc (fun _ => ?_) | refine j_box (fun _ => ?_) | refine j_store ?_ | refine j_build ?_ | refine j_buildSlice (fun _ => ?_) | refine j_makeFunc ?_ | refine j_skip0 ?_ | refine j_op ?_ | ((fail_if_success refine j_look ?_); first | refine j_guard_dec (fun _ => ?_) (fun _ => ?_) | refine j_guard_eq (fun _ => ?_) (fun _ => ?_) | refine j_guard_ne (fun _ => ?_) (fun _ => ?_) | refine j_guard_not (fun _ => ?_) (fun _ => ?_) | refine j_guard (fun _ => ?_) (fun _ => ?_))) | (show JC _ _ _ _ _ _ _; first | refine jc_seq ?_ | refine jc_region ?_ | refine jc_lex ?_ | refine jc_skip ?_ | refine jc_block ?_ | refine jc_ret ?_ | refine jc_exit ?_ | refine jc_true ?_ | refine jc_false ?_ | refine jc_dec (fun _ => ?_) (fun _ => ?_) | refine jc_eq (fun _ => ?_) (fun _ => ?_) | refine jc_ne (fun _ => ?_) (fun _ => ?_) | refine jc_not (fun _ => ?_) (fun _ => ?_) | refine jc_cond (fun _ => ?_) (fun _ => ?_)) | (show JP _ _ _ _ _ _ _ _ (_ :: _) _ _; first | refine jp_do ?_ | refine jp_skip ?_ | refine jp_skipU ?_ | refine jp_build ?_ | refine jp_op ?_) | refine jp_nil ?_ | (show JX _ _ _ _ _ _; first | refine jx_qp ?_ | refine jx_then ?_ | refine jx_block ?_ | refine jx_then_ret ?_ | refine jx_block_ret ?_ | refine jx_then_exit ?_ | refine jx_block_here ?_ | refine jx_block_past ?_ | refine jx_is ?_))
          refine jx_round ⟨k + 1, none, 0, [], a2, c2, H5⟩ ⟨h, by rw [e]; exact .nil, by rw [e, ek]; exact s1⟩ (by show l.length - (k + 1) < l.length - k; omega) ⟨rfl, rfl, rfl, rfl, rfl, rfl, rfl, trivial⟩ ?_
          dsimp only; rw [e, ek]; dsimp only; rw [List.length_set]
          exact fun w hw => St.sel (by repeat (first | exact .nil | apply Sel.cons (by repeat (first | exact .here | exact .e rfl | apply Rm.there)))) (s2 _ _ [cellsAt b4 0 [.slice none 0 0], cellsAt b3 0 [.slice a2 o.length c2], cellsAt b5 0 [.int .i64 0]] hw)
        case refine_1.refine_2 g1 g2 g3 =>
          have ek : keepOn o l[k].n = o ++ [⟨1, l[k].n, []⟩] := by unfold keepOn lastIx; rw [dif_pos hz, if_neg g2]
          refine j_append0 (α := DPart) hS (Elems.single (DPart.re (x := ⟨1, l[k].n, []⟩) (show I64 1 by decide) i2 .nil)) (news_src (src_box (by repeat (first | exact .here | apply InL.there))) rfl) (by simp; omega) (fun a4 c4 H4 hS4 => ?_)
          repeat' (first | refine j_nil ?_ | (show J _ _ _ _ _ (_ :: _) _ _; first | refine j_skip ?_ | refine j_skipU ?_ | refine j_alloc (fun _ => ?_) | refine j_box (fun _ => ?_) | refine j_store ?_ | refine j_build ?_ | refine j_buildSlice (fun _ => ?_) | refine j_makeFunc ?_ | refine j_skip0 ?_ | refine j_op ?_ | ((fail_if_success refine j_look ?_); first | refine j_guard_dec (fun _ => ?_) (fun _ => ?_) | refine j_guard_eq (fun _ => ?_) (fun _ => ?_) | refine j_guard_ne (fun _ => ?_) (fun _ => ?_) | refine j_guard_not (fun _ => ?_) (fun _ => ?_) | refine j_guard (fun _ => ?_) (fun _ => ?_))) | (show JC _ _ _ _ _ _ _; first | refine jc_seq ?_ | refine jc_region ?_ | refine jc_lex ?_ | refine jc_skip ?_ | refine jc_block ?_ | refine jc_ret ?_ | refine jc_exit ?_ | refine jc_true ?_ | refine jc_false ?_ | refine jc_dec (fun _ => ?_) (fun _ => ?_) | refine jc_eq (fun _ => ?_) (fun _ => ?_) | refine jc_ne (fun _ => ?_) (fun _ => ?_) | refine jc_not (fun _ => ?_) (fun _ => ?_) | refine jc_cond (fun _ => ?_) (fun _ => ?_)) | (show JP _ _ _ _ _ _ _ _ (_ :: _) _ _; first | refine jp_do ?_ | refine jp_skip ?_ | refine jp_skipU ?_ | refine jp_build ?_ | refine jp_op ?_) | refine jp_nil ?_ | (show JX _ _ _ _ _ _; first | refine jx_qp ?_ | refine jx_then ?_ | refine jx_block ?_ | refine jx_then_ret ?_ | refine jx_block_ret ?_ | refine jx_then_exit ?_ | refine jx_block_here ?_ | refine jx_block_past ?_ | refine jx_is ?_))
          refine jx_round ⟨k + 1, none, 0, [], a4, c4, H4⟩ ⟨h, by rw [e]; exact .nil, by rw [e, ek]; exact hS4⟩ (by show l.length - (k + 1) < l.length - k; omega) ⟨rfl, rfl, rfl, rfl, rfl, rfl, rfl, trivial⟩ ?_
          dsimp only; rw [e, ek]; exact (fun w => St.sel (by repeat (first | exact .nil | apply Sel.cons (by repeat (first | exact .here | exact .e rfl | apply Rm.there)))))
        all_goals exfalso; omega
      · unfold lastIx at *
        repeat' (first | refine j_nil ?_ | (show J _ _ _ _ _ (_ :: _) _ _; first | refine j_skip ?_ | refine j_skipU ?_ | refine j_alloc (fun _ => ?_) | refine j_box (fun _ => ?_) | refine j_store ?_ | refine j_build ?_ | refine j_buildSlice (fun _ => ?_) | refine j_makeFunc ?_ | refine j_skip0 ?_ | refine j_op ?_ | ((fail_if_success refine j_look ?_); first | refine j_guard_dec (fun _ => ?_) (fun _ => ?_) | refine j_guard_eq (fun _ => ?_) (fun _ => ?_) | refine j_guard_ne (fun _ => ?_) (fun _ => ?_) | refine j_guard_not (fun _ => ?_) (fun _ => ?_) | refine j_guard (fun _ => ?_) (fun _ => ?_))) | (show JC _ _ _ _ _ _ _; first | refine jc_seq ?_ | refine jc_region ?_ | refine jc_lex ?_ | refine jc_skip ?_ | refine jc_block ?_ | refine jc_ret ?_ | refine jc_exit ?_ | refine jc_true ?_ | refine jc_false ?_ | refine jc_dec (fun _ => ?_) (fun _ => ?_) | refine jc_eq (fun _ => ?_) (fun _ => ?_) | refine jc_ne (fun _ => ?_) (fun _ => ?_) | refine jc_not (fun _ => ?_) (fun _ => ?_) | refine jc_cond (fun _ => ?_) (fun _ => ?_)) | (show JP _ _ _ _ _ _ _ _ (_ :: _) _ _; first | refine jp_do ?_ | refine jp_skip ?_ | refine jp_skipU ?_ | refine jp_build ?_ | refine jp_op ?_) | refine jp_nil ?_ | (show JX _ _ _ _ _ _; first | refine jx_qp ?_ | refine jx_then ?_ | refine jx_block ?_ | refine jx_then_ret ?_ | refine jx_block_ret ?_ | refine jx_then_exit ?_ | refine jx_block_here ?_ | refine jx_block_past ?_ | refine jx_is ?_))
        case refine_2 g1 g2 =>
          have ek : keepOn o l[k].n = o ++ [⟨1, l[k].n, []⟩] := by unfold keepOn lastIx; rw [dif_neg hz]
          refine j_append0 (α := DPart) hS (Elems.single (DPart.re (x := ⟨1, l[k].n, []⟩) (show I64 1 by decide) i2 .nil)) (news_src (src_box (by repeat (first | exact .here | apply InL.there))) rfl) (by simp; omega) (fun a4 c4 H4 hS4 => ?_)
          repeat' (first | refine j_nil ?_ | (show J _ _ _ _ _ (_ :: _) _ _; first | refine j_skip ?_ | refine j_skipU ?_ | refine j_alloc (fun _ => ?_) | refine j_box (fun _ => ?_) | refine j_store ?_ | refine j_build ?_ | refine j_buildSlice (fun _ => ?_) | refine j_makeFunc ?_ | refine j_skip0 ?_ | refine j_op ?_ | ((fail_if_success refine j_look ?_); first | refine j_guard_dec (fun _ => ?_) (fun _ => ?_) | refine j_guard_eq (fun _ => ?_) (fun _ => ?_) | refine j_guard_ne (fun _ => ?_) (fun _ => ?_) | refine j_guard_not (fun _ => ?_) (fun _ => ?_) | refine j_guard (fun _ => ?_) (fun _ => ?_))) | (show JC _ _ _ _ _ _ _; first | refine jc_seq ?_ | refine jc_region ?_ | refine jc_lex ?_ | refine jc_skip ?_ | refine jc_block ?_ | refine jc_ret ?_ | refine jc_exit ?_ | refine jc_true ?_ | refine jc_false ?_ | refine jc_dec (fun _ => ?_) (fun _ => ?_) | refine jc_eq (fun _ => ?_) (fun _ => ?_) | refine jc_ne (fun _ => ?_) (fun _ => ?_) | refine jc_not (fun _ => ?_) (fun _ => ?_) | refine jc_cond (fun _ => ?_) (fun _ => ?_)) | (show JP _ _ _ _ _ _ _ _ (_ :: _) _ _; first | refine jp_do ?_ | refine jp_skip ?_ | refine jp_skipU ?_ | refine jp_build ?_ | refine jp_op ?_) | refine jp_nil ?_ | (show JX _ _ _ _ _ _; first | refine jx_qp ?_ | refine jx_then ?_ | refine jx_block ?_ | refine jx_then_ret ?_ | refine jx_block_ret ?_ | refine jx_then_exit ?_ | refine jx_block_here ?_ | refine jx_block_past ?_ | refine jx_is ?_))
          refine jx_round ⟨k + 1, none, 0, [], a4, c4, H4⟩ ⟨h, by rw [e]; exact .nil, by rw [e, ek]; exact hS4⟩ (by show l.length - (k + 1) < l.length - k; omega) ⟨rfl, rfl, rfl, rfl, rfl, rfl, rfl, trivial⟩ ?_
          dsimp only; rw [e, ek]; exact (fun w => St.sel (by repeat (first | exact .nil | apply Sel.cons (by repeat (first | exact .here | exact .e rfl | apply Rm.there)))))
        all_goals exfalso; omega
  · repeat' (first | refine j_nil ?_ | (show J _ _ _ _ _ (_ :: _) _ _; first | refine j_skip ?_ | refine j_skipU ?_ | refine j_alloc (fun _ => ?_) | refine j_box (fun _ => ?_) | refine j_store ?_ | refine j_build ?_ | refine j_buildSlice (fun _ => ?_) | refine j_makeFunc ?_ | refine j_skip0 ?_ | refine j_op ?_ | ((fail_if_success refine j_look ?_); first | refine j_guard_dec (fun _ => ?_) (fun _ => ?_) | refine j_guard_eq (fun _ => ?_) (fun _ => ?_) | refine j_guard_ne (fun _ => ?_) (fun _ => ?_) | refine j_guard_not (fun _ => ?_) (fun _ => ?_) | refine j_guard (fun _ => ?_) (fun _ => ?_))) | (show JC _ _ _ _ _ _ _; first | refine jc_seq ?_ | refine jc_region ?_ | refine jc_lex ?_ | refine jc_skip ?_ | refine jc_block ?_ | refine jc_ret ?_ | refine jc_exit ?_ | refine jc_true ?_ | refine jc_false ?_ | refine jc_dec (fun _ => ?_) (fun _ => ?_) | refine jc_eq (fun _ => ?_) (fun _ => ?_) | refine jc_ne (fun _ => ?_) (fun _ => ?_) | refine jc_not (fun _ => ?_) (fun _ => ?_) | refine jc_cond (fun _ => ?_) (fun _ => ?_)) | (show JP _ _ _ _ _ _ _ _ (_ :: _) _ _; first | refine jp_do ?_ | refine jp_skip ?_ | refine jp_skipU ?_ | refine jp_build ?_ | refine jp_op ?_) | refine jp_nil ?_ | (show JX _ _ _ _ _ _; first | refine jx_qp ?_ | refine jx_then ?_ | refine jx_block ?_ | refine jx_then_ret ?_ | refine jx_block_ret ?_ | refine jx_then_exit ?_ | refine jx_block_here ?_ | refine jx_block_past ?_ | refine jx_is ?_))
    refine j_callv (iFlush_c (drop := (ns l k).drop) hp ho ⟨by omega, by omega⟩ (by omega)) (fun v M hR => ?_)
    obtain ⟨rfl, a2, c2, H2, hS, rfl⟩ := hR
    repeat' (first | refine j_nil ?_ | (show J _ _ _ _ _ (_ :: _) _ _; first | refine j_skip ?_ | refine j_skipU ?_ | refine j_alloc (fun _ => ?_) | refine j_box (fun _ => ?_) | refine j_store ?_ | refine j_build ?_ | refine j_buildSlice (fun _ => ?_) | refine j_makeFunc ?_ | refine j_skip0 ?_ | refine j_op ?_ | ((fail_if_success refine j_look ?_); first | refine j_guard_dec (fun _ => ?_) (fun _ => ?_) | refine j_guard_eq (fun _ => ?_) (fun _ => ?_) | refine j_guard_ne (fun _ => ?_) (fun _ => ?_) | refine j_guard_not (fun _ => ?_) (fun _ => ?_) | refine j_guard (fun _ => ?_) (fun _ => ?_))) | (show JC _ _ _ _ _ _ _; first | refine jc_seq ?_ | refine jc_region ?_ | refine jc_lex ?_ | refine jc_skip ?_ | refine jc_block ?_ | refine jc_ret ?_ | refine jc_exit ?_ | refine jc_true ?_ | refine jc_false ?_ | refine jc_dec (fun _ => ?_) (fun _ => ?_) | refine jc_eq (fun _ => ?_) (fun _ => ?_) | refine jc_ne (fun _ => ?_) (fun _ => ?_) | refine jc_not (fun _ => ?_) (fun _ => ?_) | refine jc_cond (fun _ => ?_) (fun _ => ?_)) | (show JP _ _ _ _ _ _ _ _ (_ :: _) _ _; first | refine jp_do ?_ | refine jp_skip ?_ | refine jp_skipU ?_ | refine jp_build ?_ | refine jp_op ?_) | refine jp_nil ?_ | (show JX _ _ _ _ _ _; first | refine jx_qp ?_ | refine jx_then ?_ | refine jx_block ?_ | refine jx_then_ret ?_ | refine jx_block_ret ?_ | refine jx_then_exit ?_ | refine jx_block_here ?_ | refine jx_block_past ?_ | refine jx_is ?_))
    rw [ns_all h] at hS ⊢
    refine jx_rm [H2] ?_
    exact ⟨a2, c2, H2, rfl, hS, rfl⟩
end Go.Proofs.YtiobmbicldjikaaGreatDoor
