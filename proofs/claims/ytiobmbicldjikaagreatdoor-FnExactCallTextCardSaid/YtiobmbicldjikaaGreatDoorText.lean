/- The texts of signs, operations and events. No condition. -/
import Derived.Test.YtiobmbicldjikaaGreatDoorConv

set_option linter.unusedVariables false

namespace Go.Proofs.YtiobmbicldjikaaGreatDoor

theorem join_nil (sep : List UInt8) : Lib.join [] sep = [] := by simp [Lib.join]
theorem join_one (x sep : List UInt8) : Lib.join [x] sep = x := by simp [Lib.join, List.intercalate]
theorem join_two (x y : List UInt8) (r : List (List UInt8)) (sep : List UInt8) : Lib.join (x :: y :: r) sep = x ++ sep ++ Lib.join (y :: r) sep := by
  simp [Lib.join, List.intercalate, List.intersperse]
theorem join_snoc (sep x : List UInt8) : ∀ (xs : List (List UInt8)), xs ≠ [] → Lib.join (xs ++ [x]) sep = Lib.join xs sep ++ sep ++ x
  | [], h => absurd rfl h
  | [y], _ => by rw [List.singleton_append, join_two, join_one, join_one]
  | y :: z :: r, _ => by
    have := join_snoc sep x (z :: r) (by simp)
    rw [List.cons_append, List.cons_append, join_two, join_two, ← List.cons_append, this]
    simp
theorem join_len (sep : List UInt8) (m : Nat) : ∀ (xs : List (List UInt8)), (∀ x ∈ xs, x.length ≤ m) → (Lib.join xs sep).length ≤ xs.length * (m + sep.length)
  | [], _ => by simp [join_nil]
  | [y], h => by
    rw [join_one]
    have := h y (by simp)
    simp; omega
  | y :: z :: r, h => by
    have h1 := join_len sep m (z :: r) (fun x hx => h x (List.mem_cons_of_mem _ hx))
    have h2 := h y (by simp)
    rw [join_two]
    simp only [List.length_append, List.length_cons] at h1 ⊢
    rw [Nat.add_mul (r.length + 1) 1]
    omega

def dotsT (l : List Int) : List UInt8 := Lib.join (l.map numT) [46]
def signT (l : List Int) : List UInt8 := if l.all signOk then (if l.length = 0 then [45] else dotsT l) else []
theorem dotsT_len (l : List Int) : (dotsT l).length ≤ l.length * 11 := by
  have := join_len [46] 10 (l.map numT) (fun x hx => by obtain ⟨z, _, rfl⟩ := List.mem_map.1 hx; exact numT_len z)
  simpa [dotsT] using this
theorem signT_len (l : List Int) : (signT l).length ≤ l.length * 11 + 1 := by
  have := dotsT_len l
  unfold signT; split <;> (try split) <;> simp <;> omega
theorem map_str_data {α : Type} (f : α → List UInt8) (l : List α) : (l.map (fun x => str (f x))).map (·.data.toList) = l.map f := by
  rw [List.map_map]; congr 1
structure SIx where
  k : Nat
  a : Option Addr
  c : Nat
  H : Hp
theorem map_take_succ {α β : Type} (f : α → β) {l : List α} {k : Nat} (h : k < l.length) : (l.take (k + 1)).map f = (l.take k).map f ++ [f l[k]] := by
  rw [List.take_succ_eq_append_getElem h, List.map_append]; rfl
theorem iDotted_c (W : World) (hL : LibOk W) {a : Option Addr} {cap : Nat} {l : List Int} (hl : RdS W a cap l) (hN : l.length ≤ 1048576) :
    CR Tryz.prog 89 [.slice a l.length cap] W (Is (.string (str (dotsT l)))) := by
  have hlt := hl.lt
  have hadr := hl.adr
  refine calls_j Tryz.func89 rfl rfl rfl ?_
  repeat' (first | refine j_nil ?_ | (show J _ _ _ _ _ (_ :: _) _ _; first | refine j_skip ?_ | refine j_skipU ?_ | refine j_alloc (fun _ => ?_) | refine j_box (fun _ => ?_) | refine j_store ?_ | refine j_build ?_ | refine j_buildSlice (fun _ => ?_) | refine j_makeFunc ?_ | refine j_skip0 ?_ | refine j_op ?_ | ((fail_if_success refine j_look ?_); first | refine j_guard_dec (fun _ => ?_) (fun _ => ?_) | refine j_guard_eq (fun _ => ?_) (fun _ => ?_) | refine j_guard_ne (fun _ => ?_) (fun _ => ?_) | refine j_guard_not (fun _ => ?_) (fun _ => ?_) | refine j_guard (fun _ => ?_) (fun _ => ?_))) | (show JC _ _ _ _ _ _ _; first | refine jc_seq ?_ | refine jc_region ?_ | refine jc_lex ?_ | refine jc_skip ?_ | refine jc_block ?_ | refine jc_ret ?_ | refine jc_exit ?_ | refine jc_true ?_ | refine jc_false ?_ | refine jc_dec (fun _ => ?_) (fun _ => ?_) | refine jc_eq (fun _ => ?_) (fun _ => ?_) | refine jc_ne (fun _ => ?_) (fun _ => ?_) | refine jc_not (fun _ => ?_) (fun _ => ?_) | refine jc_cond (fun _ => ?_) (fun _ => ?_)) | (show JP _ _ _ _ _ _ _ _ (_ :: _) _ _; first | refine jp_do ?_ | refine jp_skip ?_ | refine jp_skipU ?_ | refine jp_build ?_ | refine jp_op ?_) | refine jp_nil ?_ | (show JX _ _ _ _ _ _; first | refine jx_qp ?_ | refine jx_then ?_ | refine jx_block ?_ | refine jx_then_ret ?_ | refine jx_block_ret ?_ | refine jx_then_exit ?_ | refine jx_block_here ?_ | refine jx_block_past ?_ | refine jx_is ?_))
  refine jc_loop (fun x : SIx => [(3, .slice x.a ((l.take x.k).map fun z => str (numT z)).length x.c), (6, .slice a l.length cap), (7, .int .i64 l.length), (8, .int .i64 x.k)]) (fun x => [x.H])
    (fun x => x.k ≤ l.length ∧ Slc x.a x.c ((l.take x.k).map fun z => str (numT z)) x.H) (fun x => l.length - x.k) ⟨0, none, 0, []⟩ ⟨by simp, .nil⟩ ⟨rfl, rfl, rfl, rfl, trivial⟩ (fun w => St.sel (by repeat (first | exact .nil | apply Sel.cons (by repeat (first | exact .here | exact .e rfl | apply Rm.there))))) ?_
  rintro ⟨k, a3, c3, H3⟩ ⟨hk, hS⟩
  dsimp only at hk hS ⊢
  by_cases h : k < l.length
  · obtain ⟨hc, hi⟩ := hl.int h
    repeat' (first | (show J _ _ _ _ _ (_ :: _) _ _; refine j_call (fun _ hw => iNum_c _ (hL.st hw) _) ?_; rintro _ _ ⟨rfl, rfl⟩) | (show JP _ _ _ _ _ _ _ _ (_ :: _) _ _; refine jp_call (fun _ hw => iNum_c _ (hL.st hw) _) ?_) | refine j_nil ?_ | (show J _ _ _ _ _ (_ :: _) _ _; first | refine j_skip ?_ | refine j_skipU ?_ | refine j_alloc (fun _ => ?_) | refine j_box (fun _ => ?_) | refine j_store ?_ | refine j_build ?_ | refine j_buildSlice (fun _ => ?_) | refine j_makeFunc ?_ | refine j_skip0 ?_ | refine j_op ?_ | ((fail_if_success refine j_look ?_); first | refine j_guard_dec (fun _ => ?_) (fun _ => ?_) | refine j_guard_eq (fun _ => ?_) (fun _ => ?_) | refine j_guard_ne (fun _ => ?_) (fun _ => ?_) | refine j_guard_not (fun _ => ?_) (fun _ => ?_) | refine j_guard (fun _ => ?_) (fun _ => ?_))) | (show JC _ _ _ _ _ _ _; first | refine jc_seq ?_ | refine jc_region ?_ | refine jc_lex ?_ | refine jc_skip ?_ | refine jc_block ?_ | refine jc_ret ?_ | refine jc_exit ?_ | refine jc_true ?_ | refine jc_false ?_ | refine jc_dec (fun _ => ?_) (fun _ => ?_) | refine jc_eq (fun _ => ?_) (fun _ => ?_) | refine jc_ne (fun _ => ?_) (fun _ => ?_) | refine jc_not (fun _ => ?_) (fun _ => ?_) | refine jc_cond (fun _ => ?_) (fun _ => ?_)) | (show JP _ _ _ _ _ _ _ _ (_ :: _) _ _; first | refine jp_do ?_ | refine jp_skip ?_ | refine jp_skipU ?_ | refine jp_build ?_ | refine jp_op ?_) | refine jp_nil ?_ | (show JX _ _ _ _ _ _; first | refine jx_qp ?_ | refine jx_then ?_ | refine jx_block ?_ | refine jx_then_ret ?_ | refine jx_block_ret ?_ | refine jx_then_exit ?_ | refine jx_block_here ?_ | refine jx_block_past ?_ | refine jx_is ?_))
    refine j_append0 (α := ByteArray) hS (Elems.single ⟨rfl, rfl⟩) (news_src (src_box (by repeat (first | exact .here | apply InL.there))) rfl) (by simp; omega) (fun a4 c4 H4 hS4 => ?_)
    repeat' (first | refine j_nil ?_ | (show J _ _ _ _ _ (_ :: _) _ _; first | refine j_skip ?_ | refine j_skipU ?_ | refine j_alloc (fun _ => ?_) | refine j_box (fun _ => ?_) | refine j_store ?_ | refine j_build ?_ | refine j_buildSlice (fun _ => ?_) | refine j_makeFunc ?_ | refine j_skip0 ?_ | refine j_op ?_ | ((fail_if_success refine j_look ?_); first | refine j_guard_dec (fun _ => ?_) (fun _ => ?_) | refine j_guard_eq (fun _ => ?_) (fun _ => ?_) | refine j_guard_ne (fun _ => ?_) (fun _ => ?_) | refine j_guard_not (fun _ => ?_) (fun _ => ?_) | refine j_guard (fun _ => ?_) (fun _ => ?_))) | (show JC _ _ _ _ _ _ _; first | refine jc_seq ?_ | refine jc_region ?_ | refine jc_lex ?_ | refine jc_skip ?_ | refine jc_block ?_ | refine jc_ret ?_ | refine jc_exit ?_ | refine jc_true ?_ | refine jc_false ?_ | refine jc_dec (fun _ => ?_) (fun _ => ?_) | refine jc_eq (fun _ => ?_) (fun _ => ?_) | refine jc_ne (fun _ => ?_) (fun _ => ?_) | refine jc_not (fun _ => ?_) (fun _ => ?_) | refine jc_cond (fun _ => ?_) (fun _ => ?_)) | (show JP _ _ _ _ _ _ _ _ (_ :: _) _ _; first | refine jp_do ?_ | refine jp_skip ?_ | refine jp_skipU ?_ | refine jp_build ?_ | refine jp_op ?_) | refine jp_nil ?_ | (show JX _ _ _ _ _ _; first | refine jx_qp ?_ | refine jx_then ?_ | refine jx_block ?_ | refine jx_then_ret ?_ | refine jx_block_ret ?_ | refine jx_then_exit ?_ | refine jx_block_here ?_ | refine jx_block_past ?_ | refine jx_is ?_))
    refine jx_round ⟨k + 1, a4, c4, H4⟩ ⟨h, by rw [map_take_succ _ h]; exact hS4⟩ (by show l.length - (k + 1) < l.length - k; omega) ⟨by dsimp only; rw [map_take_succ _ h]; rfl, rfl, rfl, rfl, trivial⟩ (fun w => St.sel (by repeat (first | exact .nil | apply Sel.cons (by repeat (first | exact .here | exact .e rfl | apply Rm.there)))))
  · have hlen := dotsT_len l
    rw [List.take_of_length_le (by omega)] at hS ⊢
    have he := map_str_data numT l
    repeat' (first | (show J _ _ _ _ _ (_ :: _) _ _; refine j_call (fun _ hw => join_c (sep := str [46]) _ (.own hS (by repeat (first | exact .here | apply InL.there)) hw) (by simp; omega) (by rw [he]; unfold dotsT at hlen; simp only [str] at hlen ⊢; omega)) ?_; rintro _ _ ⟨rfl, rfl⟩) | (show JP _ _ _ _ _ _ _ _ (_ :: _) _ _; refine jp_call (fun _ hw => join_c (sep := str [46]) _ (.own hS (by repeat (first | exact .here | apply InL.there)) hw) (by simp; omega) (by rw [he]; unfold dotsT at hlen; simp only [str] at hlen ⊢; omega)) ?_) | refine j_nil ?_ | (show J _ _ _ _ _ (_ :: _) _ _; first | refine j_skip ?_ | refine j_skipU ?_ | refine j_alloc (fun _ => ?_) | refine j_box (fun _ => ?_) | refine j_store ?_ | refine j_build ?_ | refine j_buildSlice (fun _ => ?_) | refine j_makeFunc ?_ | refine j_skip0 ?_ | refine j_op ?_ | ((fail_if_success refine j_look ?_); first | refine j_guard_dec (fun _ => ?_) (fun _ => ?_) | refine j_guard_eq (fun _ => ?_) (fun _ => ?_) | refine j_guard_ne (fun _ => ?_) (fun _ => ?_) | refine j_guard_not (fun _ => ?_) (fun _ => ?_) | refine j_guard (fun _ => ?_) (fun _ => ?_))) | (show JC _ _ _ _ _ _ _; first | refine jc_seq ?_ | refine jc_region ?_ | refine jc_lex ?_ | refine jc_skip ?_ | refine jc_block ?_ | refine jc_ret ?_ | refine jc_exit ?_ | refine jc_true ?_ | refine jc_false ?_ | refine jc_dec (fun _ => ?_) (fun _ => ?_) | refine jc_eq (fun _ => ?_) (fun _ => ?_) | refine jc_ne (fun _ => ?_) (fun _ => ?_) | refine jc_not (fun _ => ?_) (fun _ => ?_) | refine jc_cond (fun _ => ?_) (fun _ => ?_)) | (show JP _ _ _ _ _ _ _ _ (_ :: _) _ _; first | refine jp_do ?_ | refine jp_skip ?_ | refine jp_skipU ?_ | refine jp_build ?_ | refine jp_op ?_) | refine jp_nil ?_ | (show JX _ _ _ _ _ _; first | refine jx_qp ?_ | refine jx_then ?_ | refine jx_block ?_ | refine jx_then_ret ?_ | refine jx_block_ret ?_ | refine jx_then_exit ?_ | refine jx_block_here ?_ | refine jx_block_past ?_ | refine jx_is ?_))
    rw [he]; rfl
theorem iSignT_c (W : World) (hL : LibOk W) {a : Option Addr} {cap : Nat} {l : List Int} (hl : RdS W a cap l) (hN : l.length ≤ 1048576) :
    CR Tryz.prog 47 [.slice a l.length cap] W (Is (.string (str (signT l)))) := by
  refine calls_j Tryz.func47 rfl rfl rfl ?_
  repeat' (first | (show J _ _ _ _ _ (_ :: _) _ _; refine j_call (fun _ hw => iSignsOk_c _ (hl.st hw)) ?_; rintro _ _ ⟨rfl, rfl⟩) | (show JP _ _ _ _ _ _ _ _ (_ :: _) _ _; refine jp_call (fun _ hw => iSignsOk_c _ (hl.st hw)) ?_) | (show J _ _ _ _ _ (_ :: _) _ _; refine j_call (fun _ hw => iDotted_c _ (hL.st hw) (hl.st hw) hN) ?_; rintro _ _ ⟨rfl, rfl⟩) | (show JP _ _ _ _ _ _ _ _ (_ :: _) _ _; refine jp_call (fun _ hw => iDotted_c _ (hL.st hw) (hl.st hw) hN) ?_) | refine j_nil ?_ | (show J _ _ _ _ _ (_ :: _) _ _; first | refine j_skip ?_ | refine j_skipU ?_ | refine j_alloc (fun _ => ?_) | refine j_box (fun _ => ?_) | refine j_store ?_ | refine j_build ?_ | refine j_buildSlice (fun _ => ?_) | refine j_makeFunc ?_ | refine j_skip0 ?_ | refine j_op ?_ | ((fail_if_success refine j_look ?_); first | refine j_guard_dec (fun _ => ?_) (fun _ => ?_) | refine j_guard_eq (fun _ => ?_) (fun _ => ?_) | refine j_guard_ne (fun _ => ?_) (fun _ => ?_) | refine j_guard_not (fun _ => ?_) (fun _ => ?_) | refine j_guard (fun _ => ?_) (fun _ => ?_))) | (show JC _ _ _ _ _ _ _; first | refine jc_seq ?_ | refine jc_region ?_ | refine jc_lex ?_ | refine jc_skip ?_ | refine jc_block ?_ | refine jc_ret ?_ | refine jc_exit ?_ | refine jc_true ?_ | refine jc_false ?_ | refine jc_dec (fun _ => ?_) (fun _ => ?_) | refine jc_eq (fun _ => ?_) (fun _ => ?_) | refine jc_ne (fun _ => ?_) (fun _ => ?_) | refine jc_not (fun _ => ?_) (fun _ => ?_) | refine jc_cond (fun _ => ?_) (fun _ => ?_)) | (show JP _ _ _ _ _ _ _ _ (_ :: _) _ _; first | refine jp_do ?_ | refine jp_skip ?_ | refine jp_skipU ?_ | refine jp_build ?_ | refine jp_op ?_) | refine jp_nil ?_ | (show JX _ _ _ _ _ _; first | refine jx_qp ?_ | refine jx_then ?_ | refine jx_block ?_ | refine jx_then_ret ?_ | refine jx_block_ret ?_ | refine jx_then_exit ?_ | refine jx_block_here ?_ | refine jx_block_past ?_ | refine jx_is ?_))
  · simp [signT, *]; rfl
  · rw [signT, ‹l.all signOk = true›, if_pos rfl, if_pos (by omega)]; rfl
  · rw [signT, ‹l.all signOk = true›, if_pos rfl, if_neg (by omega)]; rfl
theorem sSignT_c (W : World) {a : Option Addr} {cap : Nat} {l : List Int} (hl : RdS W a cap l) (hN : l.length ≤ 1048576) :
    CR Tryz.prog 37 [.slice a l.length cap] W (Is (.string (str (signT l)))) := by
  have hlt := hl.lt
  have hadr := hl.adr
  refine calls_j Tryz.func37 rfl rfl rfl ?_
  repeat' (first | (show J _ _ _ _ _ (_ :: _) _ _; refine j_call (fun _ hw => sSignsOk_c _ (hl.st hw)) ?_; rintro _ _ ⟨rfl, rfl⟩) | (show JP _ _ _ _ _ _ _ _ (_ :: _) _ _; refine jp_call (fun _ hw => sSignsOk_c _ (hl.st hw)) ?_) | refine j_nil ?_ | (show J _ _ _ _ _ (_ :: _) _ _; first | refine j_skip ?_ | refine j_skipU ?_ | refine j_alloc (fun _ => ?_) | refine j_box (fun _ => ?_) | refine j_store ?_ | refine j_build ?_ | refine j_buildSlice (fun _ => ?_) | refine j_makeFunc ?_ | refine j_skip0 ?_ | refine j_op ?_ | ((fail_if_success refine j_look ?_); first | refine j_guard_dec (fun _ => ?_) (fun _ => ?_) | refine j_guard_eq (fun _ => ?_) (fun _ => ?_) | refine j_guard_ne (fun _ => ?_) (fun _ => ?_) | refine j_guard_not (fun _ => ?_) (fun _ => ?_) | refine j_guard (fun _ => ?_) (fun _ => ?_))) | (show JC _ _ _ _ _ _ _; first | refine jc_seq ?_ | refine jc_region ?_ | refine jc_lex ?_ | refine jc_skip ?_ | refine jc_block ?_ | refine jc_ret ?_ | refine jc_exit ?_ | refine jc_true ?_ | refine jc_false ?_ | refine jc_dec (fun _ => ?_) (fun _ => ?_) | refine jc_eq (fun _ => ?_) (fun _ => ?_) | refine jc_ne (fun _ => ?_) (fun _ => ?_) | refine jc_not (fun _ => ?_) (fun _ => ?_) | refine jc_cond (fun _ => ?_) (fun _ => ?_)) | (show JP _ _ _ _ _ _ _ _ (_ :: _) _ _; first | refine jp_do ?_ | refine jp_skip ?_ | refine jp_skipU ?_ | refine jp_build ?_ | refine jp_op ?_) | refine jp_nil ?_ | (show JX _ _ _ _ _ _; first | refine jx_qp ?_ | refine jx_then ?_ | refine jx_block ?_ | refine jx_then_ret ?_ | refine jx_block_ret ?_ | refine jx_then_exit ?_ | refine jx_block_here ?_ | refine jx_block_past ?_ | refine jx_is ?_))
  · simp [signT, *]; rfl
  · rw [signT, ‹l.all signOk = true›, if_pos rfl, if_pos (by omega)]; rfl
  refine jc_loop (fun k : Nat => [(3, .string (str (dotsT (l.take k)))), (12, .slice a l.length cap), (13, .int .i64 l.length), (14, .int .i64 k)]) (fun _ => []) (fun k => k ≤ l.length) (fun k => l.length - k) 0 (by omega) ⟨rfl, rfl, rfl, rfl, trivial⟩ (fun w => St.sel .nil) ?_
  intro k hk
  by_cases h : k < l.length
  · obtain ⟨hc, hi⟩ := hl.int h
    have hln := dotsT_len (l.take k)
    have hnl := numT_len l[k]
    rw [List.length_take_of_le (by omega)] at hln
    have hsn : 0 < k → dotsT (l.take (k + 1)) = dotsT (l.take k) ++ [46] ++ numT l[k] := fun h0 => by
      unfold dotsT; rw [map_take_succ _ h, join_snoc _ _ _ (by intro h1; have := congrArg List.length h1; rw [List.length_map, List.length_take_of_le (by omega), List.length_nil] at this; omega)]
    repeat' (first | (show J _ _ _ _ _ (_ :: _) _ _; refine j_call (fun _ hw => sNum_c _ _) ?_; rintro _ _ ⟨rfl, rfl⟩) | (show JP _ _ _ _ _ _ _ _ (_ :: _) _ _; refine jp_call (fun _ hw => sNum_c _ _) ?_) | refine j_nil ?_ | (show J _ _ _ _ _ (_ :: _) _ _; first | refine j_skip ?_ | refine j_skipU ?_ | refine j_alloc (fun _ => ?_) | refine j_box (fun _ => ?_) | refine j_store ?_ | refine j_build ?_ | refine j_buildSlice (fun _ => ?_) | refine j_makeFunc ?_ | refine j_skip0 ?_ | refine j_op ?_ | ((fail_if_success refine j_look ?_); first | refine j_guard_dec (fun _ => ?_) (fun _ => ?_) | refine j_guard_eq (fun _ => ?_) (fun _ => ?_) | refine j_guard_ne (fun _ => ?_) (fun _ => ?_) | refine j_guard_not (fun _ => ?_) (fun _ => ?_) | refine j_guard (fun _ => ?_) (fun _ => ?_))) | (show JC _ _ _ _ _ _ _; first | refine jc_seq ?_ | refine jc_region ?_ | refine jc_lex ?_ | refine jc_skip ?_ | refine jc_block ?_ | refine jc_ret ?_ | refine jc_exit ?_ | refine jc_true ?_ | refine jc_false ?_ | refine jc_dec (fun _ => ?_) (fun _ => ?_) | refine jc_eq (fun _ => ?_) (fun _ => ?_) | refine jc_ne (fun _ => ?_) (fun _ => ?_) | refine jc_not (fun _ => ?_) (fun _ => ?_) | refine jc_cond (fun _ => ?_) (fun _ => ?_)) | (show JP _ _ _ _ _ _ _ _ (_ :: _) _ _; first | refine jp_do ?_ | refine jp_skip ?_ | refine jp_skipU ?_ | refine jp_build ?_ | refine jp_op ?_) | refine jp_nil ?_ | (show JX _ _ _ _ _ _; first | refine jx_qp ?_ | refine jx_then ?_ | refine jx_block ?_ | refine jx_then_ret ?_ | refine jx_block_ret ?_ | refine jx_then_exit ?_ | refine jx_block_here ?_ | refine jx_block_past ?_ | refine jx_is ?_))
    all_goals refine jx_round (k + 1) (by omega) (by omega) ⟨?_, rfl, rfl, rfl, trivial⟩ (fun w => St.sel .nil)
    · show some (Value.string ((str (dotsT (l.take k)) ++ str [46]) ++ str (numT l[k]))) = _
      rw [str_append, str_append, hsn (by omega)]
    · obtain rfl : k = 0 := by omega
      show some (Value.string (str (dotsT (l.take 0)) ++ str (numT l[0]))) = _
      rw [str_append]
      unfold dotsT
      rw [map_take_succ _ h]
      simp [join_nil, join_one]
  · repeat' (first | refine j_nil ?_ | (show J _ _ _ _ _ (_ :: _) _ _; first | refine j_skip ?_ | refine j_skipU ?_ | refine j_alloc (fun _ => ?_) | refine j_box (fun _ => ?_) | refine j_store ?_ | refine j_build ?_ | refine j_buildSlice (fun _ => ?_) | refine j_makeFunc ?_ | refine j_skip0 ?_ | refine j_op ?_ | ((fail_if_success refine j_look ?_); first | refine j_guard_dec (fun _ => ?_) (fun _ => ?_) | refine j_guard_eq (fun _ => ?_) (fun _ => ?_) | refine j_guard_ne (fun _ => ?_) (fun _ => ?_) | refine j_guard_not (fun _ => ?_) (fun _ => ?_) | refine j_guard (fun _ => ?_) (fun _ => ?_))) | (show JC _ _ _ _ _ _ _; first | refine jc_seq ?_ | refine jc_region ?_ | refine jc_lex ?_ | refine jc_skip ?_ | refine jc_block ?_ | refine jc_ret ?_ | refine jc_exit ?_ | refine jc_true ?_ | refine jc_false ?_ | refine jc_dec (fun _ => ?_) (fun _ => ?_) | refine jc_eq (fun _ => ?_) (fun _ => ?_) | refine jc_ne (fun _ => ?_) (fun _ => ?_) | refine jc_not (fun _ => ?_) (fun _ => ?_) | refine jc_cond (fun _ => ?_) (fun _ => ?_)) | (show JP _ _ _ _ _ _ _ _ (_ :: _) _ _; first | refine jp_do ?_ | refine jp_skip ?_ | refine jp_skipU ?_ | refine jp_build ?_ | refine jp_op ?_) | refine jp_nil ?_ | (show JX _ _ _ _ _ _; first | refine jx_qp ?_ | refine jx_then ?_ | refine jx_block ?_ | refine jx_then_ret ?_ | refine jx_block_ret ?_ | refine jx_then_exit ?_ | refine jx_block_here ?_ | refine jx_block_past ?_ | refine jx_is ?_))
    rw [List.take_of_length_le (by omega), signT, ‹l.all signOk = true›, if_pos rfl, if_neg (by omega)]; rfl

/-! ### Operations -/

def partT (p : DPart) : List UInt8 := if p.kind = 1 then 107 :: numT p.n else if p.kind = 3 then 100 :: numT p.n else 112 :: dotsT p.signs
def opT (l : List DPart) : List UInt8 := if opOk l then (if (opNorm l).length = 0 then [45] else Lib.join ((opNorm l).map partT) [32]) else []
structure NPart (p : DPart) : Prop where
  kind : p.kind = 1 ∨ p.kind = 2 ∨ p.kind = 3
  n : 0 ≤ p.n ∧ p.n ≤ 120000
  signs : p.signs.length ≤ 120000
  sg : p.kind = 2 → p.signs.all signOk = true ∧ 0 < p.signs.length
theorem flushF_mem {C : DPart → Prop} {out : List DPart} {put : List Int} {drop : Int} (h : ∀ p ∈ out, C p) (h2 : 0 < put.length → C ⟨2, 0, put⟩) (h3 : C ⟨3, drop, []⟩) : ∀ p ∈ flushF out put drop, C p := by
  have h1 : ∀ p ∈ flushPut out put, C p := by
    unfold flushPut; split
    · intro p hp
      rcases List.mem_append.1 hp with hp | hp
      · exact h p hp
      · obtain rfl := List.mem_singleton.1 hp; exact h2 ‹_›
    · exact h
  unfold flushF; split
  · intro p hp
    rcases List.mem_append.1 hp with hp | hp
    · exact h1 p hp
    · obtain rfl := List.mem_singleton.1 hp; exact h3
  · exact h1
structure KPart (m : Nat) (p : DPart) : Prop where
  kind : p.kind = 1 ∨ p.kind = 2 ∨ p.kind = 3
  n : 0 ≤ p.n ∧ p.n ≤ 200 * m
  signs : p.signs.length ≤ 200 * m
  sg : p.kind = 2 → p.signs.all signOk = true ∧ 0 < p.signs.length
theorem KPart.mono {m k : Nat} {p : DPart} (h : KPart m p) (hk : m ≤ k) : KPart k p := ⟨h.kind, by have := h.n; omega, by have := h.signs; omega, h.sg⟩
theorem partOk_signs {p : DPart} (h : partOk p = true) (hk : p.kind = 2) : p.signs.all signOk = true := by
  unfold partOk at h
  rw [if_neg (by omega), if_pos hk, Bool.and_eq_true] at h
  exact h.2
theorem ns_put {l : List DPart} (h : ∀ p ∈ l, partOk p = true) : ∀ k, k ≤ l.length → (ns l k).put.all signOk = true
  | 0, _ => by simp [ns]
  | k + 1, hk => by
    have ih := ns_put h k (by omega)
    rw [ns_succ (by omega)]
    unfold nstep
    split
    · rename_i h2
      rw [List.all_append, ih, partOk_signs (h _ (List.getElem_mem _)) h2]; rfl
    · split
      · exact ih
      · split
        · rfl
        · exact ih
theorem keepOn_mem {m : Nat} {o : List DPart} {n : Int} (h : ∀ p ∈ o, KPart m p) (hn : 0 ≤ n ∧ n ≤ 200) : ∀ p ∈ keepOn o n, KPart (m + 1) p := by
  have h0 : ∀ p ∈ o ++ [⟨1, n, []⟩], KPart (m + 1) p := by
    intro p hp
    rcases List.mem_append.1 hp with hp | hp
    · exact (h p hp).mono (by omega)
    · obtain rfl := List.mem_singleton.1 hp; exact ⟨.inl rfl, by dsimp only; omega, by simp, fun h => absurd (show (1 : Int) = 2 from h) (by decide)⟩
  unfold keepOn; split
  · split
    · intro p hp
      rename_i hl hk
      rcases List.mem_or_eq_of_mem_set hp with hp | rfl
      · exact (h p hp).mono (by omega)
      · obtain ⟨k1, k2, k3, k4⟩ := h _ (List.getElem_mem hl)
        exact ⟨k1, by dsimp only; omega, by dsimp only; omega, k4⟩
    · exact h0
  · exact h0
theorem ns_mem {l : List DPart} (h : ∀ p ∈ l, partOk p = true) : ∀ k, k ≤ l.length → ∀ p ∈ (ns l k).out, KPart k p
  | 0, _ => by simp [ns]
  | k + 1, hk => by
    have ih := ns_mem h k (by omega)
    have hi := ns_inv h k (by omega)
    have hb := partOk_bd (h l[k] (List.getElem_mem _))
    obtain ⟨j1, j2, j3, j4⟩ := hi
    have ihm : ∀ p ∈ (ns l k).out, KPart (k + 1) p := fun p hp => (ih p hp).mono (by omega)
    rw [ns_succ (by omega)]
    unfold nstep
    split
    · exact ihm
    · split
      · exact ihm
      · split
        · exact keepOn_mem (flushF_mem ih (fun h0 => ⟨.inr (.inl rfl), by dsimp only; omega, by dsimp only; omega, fun _ => ⟨ns_put h k (by omega), h0⟩⟩) ⟨.inr (.inr rfl), by dsimp only; omega, by simp, fun h => absurd (show (3 : Int) = 2 from h) (by decide)⟩) (by omega)
        · exact ihm
theorem opNorm_mem (l : List DPart) : ∀ p ∈ opNorm l, NPart p := by
  unfold opNorm
  split
  · rename_i h
    have hp := partsOk_mem (opOk_parts h)
    have hlen := partsOk_len (opOk_parts h)
    obtain ⟨j1, j2, j3, j4⟩ := ns_inv hp l.length (Nat.le_refl _)
    intro p hm
    have : KPart l.length p := flushF_mem (ns_mem hp l.length (Nat.le_refl _)) (fun h0 => ⟨.inr (.inl rfl), by dsimp only; omega, by dsimp only; omega, fun _ => ⟨ns_put hp _ (Nat.le_refl _), h0⟩⟩) ⟨.inr (.inr rfl), by dsimp only; omega, by simp, fun h => absurd (show (3 : Int) = 2 from h) (by decide)⟩ p hm
    obtain ⟨k1, k2, k3, k4⟩ := this
    exact ⟨k1, by omega, by omega, k4⟩
  · simp
theorem opNorm_len (l : List DPart) : (opNorm l).length ≤ 2000 := by
  unfold opNorm
  split
  · rename_i h
    have hp := partsOk_mem (opOk_parts h)
    have hlen := partsOk_len (opOk_parts h)
    obtain ⟨j1, j2, j3, j4⟩ := ns_inv hp l.length (Nat.le_refl _)
    have := flushF_len (ns l l.length).out (ns l l.length).put (ns l l.length).drop
    unfold normF; omega
  · simp
theorem partT_len {p : DPart} (h : NPart p) : (partT p).length ≤ 1400000 := by
  have h1 := numT_len p.n
  have h2 := dotsT_len p.signs
  have h3 := h.signs
  unfold partT; split <;> (try split) <;> simp <;> omega
theorem Slc.elP {a : Option Addr} {cap : Nat} {l : List DPart} {H : Hp} (h : Slc a cap l H) {i : Nat} (hi : i < l.length) : ∃ a1 c1 H1, (∀ x, x ∈ cellsAt (blk a) (ofs a + i * 3) [.int .i64 l[i].kind, .int .i64 l[i].n, .slice a1 l[i].signs.length c1] → x ∈ H) ∧ I64 l[i].kind ∧ I64 l[i].n ∧ Slc a1 c1 l[i].signs H1 ∧ ∀ x, x ∈ H1 → x ∈ H := by
  obtain ⟨c, Hx, h1, h2, h3⟩ := h.subs hi
  obtain ⟨a1, c1, H1, rfl, rfl, k1, k2, k3⟩ := DPart.un h1
  exact ⟨a1, c1, H1, h2, k1, k2, k3, h3⟩
theorem RdS.part {α : Type} [Rep α] {W w : World} {L : List Hp} {a : Option Addr} {cap : Nat} {l : List α} {H1 H : Hp} (h : Slc a cap l H1) (hs : ∀ x, x ∈ H1 → x ∈ H) (hm : InL H L) (hw : St W w L) : RdS w a cap l := ⟨H1, h, (holds_mem hw hm.mem).sub hs⟩
theorem iOpT_c (W : World) (hL : LibOk W) {a : Option Addr} {cap : Nat} {l : List DPart} (hl : RdS W a cap l) : CR Tryz.prog 92 [.slice a l.length cap] W (Is (.string (str (opT l)))) := by
  refine calls_j Tryz.func92 rfl rfl rfl ?_
  repeat' (first | (show J _ _ _ _ _ (_ :: _) _ _; refine j_call (fun _ hw => iOpOk_c _ (hl.st hw)) ?_; rintro _ _ ⟨rfl, rfl⟩) | (show JP _ _ _ _ _ _ _ _ (_ :: _) _ _; refine jp_call (fun _ hw => iOpOk_c _ (hl.st hw)) ?_) | refine j_nil ?_ | (show J _ _ _ _ _ (_ :: _) _ _; first | refine j_skip ?_ | refine j_skipU ?_ | refine j_alloc (fun _ => ?_) | refine j_box (fun _ => ?_) | refine j_store ?_ | refine j_build ?_ | refine j_buildSlice (fun _ => ?_) | refine j_makeFunc ?_ | refine j_skip0 ?_ | refine j_op ?_ | ((fail_if_success refine j_look ?_); first | refine j_guard_dec (fun _ => ?_) (fun _ => ?_) | refine j_guard_eq (fun _ => ?_) (fun _ => ?_) | refine j_guard_ne (fun _ => ?_) (fun _ => ?_) | refine j_guard_not (fun _ => ?_) (fun _ => ?_) | refine j_guard (fun _ => ?_) (fun _ => ?_))) | (show JC _ _ _ _ _ _ _; first | refine jc_seq ?_ | refine jc_region ?_ | refine jc_lex ?_ | refine jc_skip ?_ | refine jc_block ?_ | refine jc_ret ?_ | refine jc_exit ?_ | refine jc_true ?_ | refine jc_false ?_ | refine jc_dec (fun _ => ?_) (fun _ => ?_) | refine jc_eq (fun _ => ?_) (fun _ => ?_) | refine jc_ne (fun _ => ?_) (fun _ => ?_) | refine jc_not (fun _ => ?_) (fun _ => ?_) | refine jc_cond (fun _ => ?_) (fun _ => ?_)) | (show JP _ _ _ _ _ _ _ _ (_ :: _) _ _; first | refine jp_do ?_ | refine jp_skip ?_ | refine jp_skipU ?_ | refine jp_build ?_ | refine jp_op ?_) | refine jp_nil ?_ | (show JX _ _ _ _ _ _; first | refine jx_qp ?_ | refine jx_then ?_ | refine jx_block ?_ | refine jx_then_ret ?_ | refine jx_block_ret ?_ | refine jx_then_exit ?_ | refine jx_block_here ?_ | refine jx_block_past ?_ | refine jx_is ?_))
  · simp [opT, *]; rfl
  rename_i hok
  refine j_call (fun w hw => iOpNorm_c _ (hl.st hw)) (fun v M hR => ?_)
  obtain ⟨a2, c2, H2, rfl, hS, rfl⟩ := hR
  have hopT : opT l = if (opNorm l).length = 0 then [45] else Lib.join ((opNorm l).map partT) [32] := by unfold opT; rw [hok]; rfl
  have hmem := opNorm_mem l
  have hnl := opNorm_len l
  rw [hopT]
  generalize opNorm l = o at *
  have hadr2 := hS.adr
  repeat' (first | refine j_nil ?_ | (show J _ _ _ _ _ (_ :: _) _ _; first | refine j_skip ?_ | refine j_skipU ?_ | refine j_alloc (fun _ => ?_) | refine j_box (fun _ => ?_) | refine j_store ?_ | refine j_build ?_ | refine j_buildSlice (fun _ => ?_) | refine j_makeFunc ?_ | refine j_skip0 ?_ | refine j_op ?_ | ((fail_if_success refine j_look ?_); first | refine j_guard_dec (fun _ => ?_) (fun _ => ?_) | refine j_guard_eq (fun _ => ?_) (fun _ => ?_) | refine j_guard_ne (fun _ => ?_) (fun _ => ?_) | refine j_guard_not (fun _ => ?_) (fun _ => ?_) | refine j_guard (fun _ => ?_) (fun _ => ?_))) | (show JC _ _ _ _ _ _ _; first | refine jc_seq ?_ | refine jc_region ?_ | refine jc_lex ?_ | refine jc_skip ?_ | refine jc_block ?_ | refine jc_ret ?_ | refine jc_exit ?_ | refine jc_true ?_ | refine jc_false ?_ | refine jc_dec (fun _ => ?_) (fun _ => ?_) | refine jc_eq (fun _ => ?_) (fun _ => ?_) | refine jc_ne (fun _ => ?_) (fun _ => ?_) | refine jc_not (fun _ => ?_) (fun _ => ?_) | refine jc_cond (fun _ => ?_) (fun _ => ?_)) | (show JP _ _ _ _ _ _ _ _ (_ :: _) _ _; first | refine jp_do ?_ | refine jp_skip ?_ | refine jp_skipU ?_ | refine jp_build ?_ | refine jp_op ?_) | refine jp_nil ?_ | (show JX _ _ _ _ _ _; first | refine jx_qp ?_ | refine jx_then ?_ | refine jx_block ?_ | refine jx_then_ret ?_ | refine jx_block_ret ?_ | refine jx_then_exit ?_ | refine jx_block_here ?_ | refine jx_block_past ?_ | refine jx_is ?_))
  refine jc_loop (fun x : SIx => [(3, .slice x.a ((o.take x.k).map fun p => str (partT p)).length x.c), (10, .slice a2 o.length c2), (11, .int .i64 o.length), (12, .int .i64 x.k)]) (fun x => [H2, x.H])
    (fun x => x.k ≤ o.length ∧ Slc x.a x.c ((o.take x.k).map fun p => str (partT p)) x.H) (fun x => o.length - x.k) ⟨0, none, 0, []⟩ ⟨by simp, .nil⟩ ⟨rfl, rfl, rfl, rfl, trivial⟩ (fun w => St.sel (by repeat (first | exact .nil | apply Sel.cons (by repeat (first | exact .here | exact .e rfl | apply Rm.there))))) ?_
  rintro ⟨k, a3, c3, H3⟩ ⟨hk, hS3⟩
  dsimp only at hk hS3 ⊢
  by_cases h : k < o.length
  · obtain ⟨a1, c1, H1, hsub, i1, i2, hs, hsub2⟩ := hS.elP h
    obtain ⟨n1, n2, n3, n4⟩ := hmem o[k] (List.getElem_mem h)
    have hn10 := numT_len o[k].n
    have hsl := dotsT_len o[k].signs
    repeat' (first | (show J _ _ _ _ _ (_ :: _) _ _; refine j_call (fun _ hw => iNum_c _ (hL.st hw) _) ?_; rintro _ _ ⟨rfl, rfl⟩) | (show JP _ _ _ _ _ _ _ _ (_ :: _) _ _; refine jp_call (fun _ hw => iNum_c _ (hL.st hw) _) ?_) | (show J _ _ _ _ _ (_ :: _) _ _; refine j_call (fun _ hw => iDotted_c _ (hL.st hw) (.part hs hsub2 (by repeat (first | exact .here | apply InL.there)) hw) (by omega)) ?_; rintro _ _ ⟨rfl, rfl⟩) | (show JP _ _ _ _ _ _ _ _ (_ :: _) _ _; refine jp_call (fun _ hw => iDotted_c _ (hL.st hw) (.part hs hsub2 (by repeat (first | exact .here | apply InL.there)) hw) (by omega)) ?_) | refine j_nil ?_ | (show J _ _ _ _ _ (_ :: _) _ _; first | refine j_skip ?_ | refine j_skipU ?_ | refine j_alloc (fun _ => ?_) | refine j_box (fun _ => ?_) | refine j_store ?_ | refine j_build ?_ | refine j_buildSlice (fun _ => ?_) | refine j_makeFunc ?_ | refine j_skip0 ?_ | refine j_op ?_ | ((fail_if_success refine j_look ?_); first | refine j_guard_dec (fun _ => ?_) (fun _ => ?_) | refine j_guard_eq (fun _ => ?_) (fun _ => ?_) | refine j_guard_ne (fun _ => ?_) (fun _ => ?_) | refine j_guard_not (fun _ => ?_) (fun _ => ?_) | refine j_guard (fun _ => ?_) (fun _ => ?_))) | (show JC _ _ _ _ _ _ _; first | refine jc_seq ?_ | refine jc_region ?_ | refine jc_lex ?_ | refine jc_skip ?_ | refine jc_block ?_ | refine jc_ret ?_ | refine jc_exit ?_ | refine jc_true ?_ | refine jc_false ?_ | refine jc_dec (fun _ => ?_) (fun _ => ?_) | refine jc_eq (fun _ => ?_) (fun _ => ?_) | refine jc_ne (fun _ => ?_) (fun _ => ?_) | refine jc_not (fun _ => ?_) (fun _ => ?_) | refine jc_cond (fun _ => ?_) (fun _ => ?_)) | (show JP _ _ _ _ _ _ _ _ (_ :: _) _ _; first | refine jp_do ?_ | refine jp_skip ?_ | refine jp_skipU ?_ | refine jp_build ?_ | refine jp_op ?_) | refine jp_nil ?_ | (show JX _ _ _ _ _ _; first | refine jx_qp ?_ | refine jx_then ?_ | refine jx_block ?_ | refine jx_then_ret ?_ | refine jx_block_ret ?_ | refine jx_then_exit ?_ | refine jx_block_here ?_ | refine jx_block_past ?_ | refine jx_is ?_))
    case refine_1 g1 g2 g3 =>
      have hp : str (partT o[k]) = ⟨#[107]⟩ ++ str (numT o[k].n) := by unfold partT; rw [if_pos g2]; exact (str_append [107] _).symm
      refine j_append0 (α := ByteArray) hS3 (Elems.single (show rep [Value.string (⟨#[107]⟩ ++ str (numT o[k].n))] (str (partT o[k])) [] from ⟨by rw [hp], rfl⟩)) (news_src (src_box (by repeat (first | exact .here | apply InL.there))) rfl) (by simp; omega) (fun a4 c4 H4 hS4 => ?_)
      repeat' (first | refine j_nil ?_ | (show J _ _ _ _ _ (_ :: _) _ _; first | refine j_skip ?_ | refine j_skipU ?_ | refine j_alloc (fun _ => ?_) | refine j_box (fun _ => ?_) | refine j_store ?_ | refine j_build ?_ | refine j_buildSlice (fun _ => ?_) | refine j_makeFunc ?_ | refine j_skip0 ?_ | refine j_op ?_ | ((fail_if_success refine j_look ?_); first | refine j_guard_dec (fun _ => ?_) (fun _ => ?_) | refine j_guard_eq (fun _ => ?_) (fun _ => ?_) | refine j_guard_ne (fun _ => ?_) (fun _ => ?_) | refine j_guard_not (fun _ => ?_) (fun _ => ?_) | refine j_guard (fun _ => ?_) (fun _ => ?_))) | (show JC _ _ _ _ _ _ _; first | refine jc_seq ?_ | refine jc_region ?_ | refine jc_lex ?_ | refine jc_skip ?_ | refine jc_block ?_ | refine jc_ret ?_ | refine jc_exit ?_ | refine jc_true ?_ | refine jc_false ?_ | refine jc_dec (fun _ => ?_) (fun _ => ?_) | refine jc_eq (fun _ => ?_) (fun _ => ?_) | refine jc_ne (fun _ => ?_) (fun _ => ?_) | refine jc_not (fun _ => ?_) (fun _ => ?_) | refine jc_cond (fun _ => ?_) (fun _ => ?_)) | (show JP _ _ _ _ _ _ _ _ (_ :: _) _ _; first | refine jp_do ?_ | refine jp_skip ?_ | refine jp_skipU ?_ | refine jp_build ?_ | refine jp_op ?_) | refine jp_nil ?_ | (show JX _ _ _ _ _ _; first | refine jx_qp ?_ | refine jx_then ?_ | refine jx_block ?_ | refine jx_then_ret ?_ | refine jx_block_ret ?_ | refine jx_then_exit ?_ | refine jx_block_here ?_ | refine jx_block_past ?_ | refine jx_is ?_))
      refine jx_round ⟨k + 1, a4, c4, H4⟩ ⟨h, by rw [map_take_succ _ h]; exact hS4⟩ (by show o.length - (k + 1) < o.length - k; omega) ⟨by dsimp only; rw [map_take_succ _ h]; rfl, rfl, rfl, rfl, trivial⟩ (fun w => St.sel (by repeat (first | exact .nil | apply Sel.cons (by repeat (first | exact .here | exact .e rfl | apply Rm.there)))))
    case refine_2.refine_1 g1 g2 g3 g4 =>
      have hp : str (partT o[k]) = ⟨#[100]⟩ ++ str (numT o[k].n) := by unfold partT; rw [if_neg g2, if_pos g3]; exact (str_append [100] _).symm
      refine j_append0 (α := ByteArray) hS3 (Elems.single (show rep [Value.string (⟨#[100]⟩ ++ str (numT o[k].n))] (str (partT o[k])) [] from ⟨by rw [hp], rfl⟩)) (news_src (src_box (by repeat (first | exact .here | apply InL.there))) rfl) (by simp; omega) (fun a4 c4 H4 hS4 => ?_)
      repeat' (first | refine j_nil ?_ | (show J _ _ _ _ _ (_ :: _) _ _; first | refine j_skip ?_ | refine j_skipU ?_ | refine j_alloc (fun _ => ?_) | refine j_box (fun _ => ?_) | refine j_store ?_ | refine j_build ?_ | refine j_buildSlice (fun _ => ?_) | refine j_makeFunc ?_ | refine j_skip0 ?_ | refine j_op ?_ | ((fail_if_success refine j_look ?_); first | refine j_guard_dec (fun _ => ?_) (fun _ => ?_) | refine j_guard_eq (fun _ => ?_) (fun _ => ?_) | refine j_guard_ne (fun _ => ?_) (fun _ => ?_) | refine j_guard_not (fun _ => ?_) (fun _ => ?_) | refine j_guard (fun _ => ?_) (fun _ => ?_))) | (show JC _ _ _ _ _ _ _; first | refine jc_seq ?_ | refine jc_region ?_ | refine jc_lex ?_ | refine jc_skip ?_ | refine jc_block ?_ | refine jc_ret ?_ | refine jc_exit ?_ | refine jc_true ?_ | refine jc_false ?_ | refine jc_dec (fun _ => ?_) (fun _ => ?_) | refine jc_eq (fun _ => ?_) (fun _ => ?_) | refine jc_ne (fun _ => ?_) (fun _ => ?_) | refine jc_not (fun _ => ?_) (fun _ => ?_) | refine jc_cond (fun _ => ?_) (fun _ => ?_)) | (show JP _ _ _ _ _ _ _ _ (_ :: _) _ _; first | refine jp_do ?_ | refine jp_skip ?_ | refine jp_skipU ?_ | refine jp_build ?_ | refine jp_op ?_) | refine jp_nil ?_ | (show JX _ _ _ _ _ _; first | refine jx_qp ?_ | refine jx_then ?_ | refine jx_block ?_ | refine jx_then_ret ?_ | refine jx_block_ret ?_ | refine jx_then_exit ?_ | refine jx_block_here ?_ | refine jx_block_past ?_ | refine jx_is ?_))
      refine jx_round ⟨k + 1, a4, c4, H4⟩ ⟨h, by rw [map_take_succ _ h]; exact hS4⟩ (by show o.length - (k + 1) < o.length - k; omega) ⟨by dsimp only; rw [map_take_succ _ h]; rfl, rfl, rfl, rfl, trivial⟩ (fun w => St.sel (by repeat (first | exact .nil | apply Sel.cons (by repeat (first | exact .here | exact .e rfl | apply Rm.there)))))
    case refine_2.refine_2 g1 g2 g3 g4 =>
      have hp : str (partT o[k]) = ⟨#[112]⟩ ++ str (dotsT o[k].signs) := by unfold partT; rw [if_neg g2, if_neg g3]; exact (str_append [112] _).symm
      refine j_append0 (α := ByteArray) hS3 (Elems.single (show rep [Value.string (⟨#[112]⟩ ++ str (dotsT o[k].signs))] (str (partT o[k])) [] from ⟨by rw [hp], rfl⟩)) (news_src (src_box (by repeat (first | exact .here | apply InL.there))) rfl) (by simp; omega) (fun a4 c4 H4 hS4 => ?_)
      repeat' (first | refine j_nil ?_ | (show J _ _ _ _ _ (_ :: _) _ _; first | refine j_skip ?_ | refine j_skipU ?_ | refine j_alloc (fun _ => ?_) | refine j_box (fun _ => ?_) | refine j_store ?_ | refine j_build ?_ | refine j_buildSlice (fun _ => ?_) | refine j_makeFunc ?_ | refine j_skip0 ?_ | refine j_op ?_ | ((fail_if_success refine j_look ?_); first | refine j_guard_dec (fun _ => ?_) (fun _ => ?_) | refine j_guard_eq (fun _ => ?_) (fun _ => ?_) | refine j_guard_ne (fun _ => ?_) (fun _ => ?_) | refine j_guard_not (fun _ => ?_) (fun _ => ?_) | refine j_guard (fun _ => ?_) (fun _ => ?_))) | (show JC _ _ _ _ _ _ _; first | refine jc_seq ?_ | refine jc_region ?_ | refine jc_lex ?_ | refine jc_skip ?_ | refine jc_block ?_ | refine jc_ret ?_ | refine jc_exit ?_ | refine jc_true ?_ | refine jc_false ?_ | refine jc_dec (fun _ => ?_) (fun _ => ?_) | refine jc_eq (fun _ => ?_) (fun _ => ?_) | refine jc_ne (fun _ => ?_) (fun _ => ?_) | refine jc_not (fun _ => ?_) (fun _ => ?_) | refine jc_cond (fun _ => ?_) (fun _ => ?_)) | (show JP _ _ _ _ _ _ _ _ (_ :: _) _ _; first | refine jp_do ?_ | refine jp_skip ?_ | refine jp_skipU ?_ | refine jp_build ?_ | refine jp_op ?_) | refine jp_nil ?_ | (show JX _ _ _ _ _ _; first | refine jx_qp ?_ | refine jx_then ?_ | refine jx_block ?_ | refine jx_then_ret ?_ | refine jx_block_ret ?_ | refine jx_then_exit ?_ | refine jx_block_here ?_ | refine jx_block_past ?_ | refine jx_is ?_))
      refine jx_round ⟨k + 1, a4, c4, H4⟩ ⟨h, by rw [map_take_succ _ h]; exact hS4⟩ (by show o.length - (k + 1) < o.length - k; omega) ⟨by dsimp only; rw [map_take_succ _ h]; rfl, rfl, rfl, rfl, trivial⟩ (fun w => St.sel (by repeat (first | exact .nil | apply Sel.cons (by repeat (first | exact .here | exact .e rfl | apply Rm.there)))))
  · rw [List.take_of_length_le (by omega)] at hS3 ⊢
    have he := map_str_data partT o
    have hjl := join_len [32] 1400000 (o.map partT) (fun x hx => by obtain ⟨p, hp, rfl⟩ := List.mem_map.1 hx; exact partT_len (hmem p hp))
    rw [List.length_map] at hjl
    have hml : (o.map fun p => str (partT p)).length = o.length := List.length_map ..
    repeat' (first | (show J _ _ _ _ _ (_ :: _) _ _; refine j_call (fun _ hw => join_c (sep := str [32]) _ (.own hS3 (by repeat (first | exact .here | apply InL.there)) hw) (by omega) (by rw [he]; simp only [str, List.length_cons, List.length_nil] at hjl ⊢; omega)) ?_; rintro _ _ ⟨rfl, rfl⟩) | (show JP _ _ _ _ _ _ _ _ (_ :: _) _ _; refine jp_call (fun _ hw => join_c (sep := str [32]) _ (.own hS3 (by repeat (first | exact .here | apply InL.there)) hw) (by omega) (by rw [he]; simp only [str, List.length_cons, List.length_nil] at hjl ⊢; omega)) ?_) | refine j_nil ?_ | (show J _ _ _ _ _ (_ :: _) _ _; first | refine j_skip ?_ | refine j_skipU ?_ | refine j_alloc (fun _ => ?_) | refine j_box (fun _ => ?_) | refine j_store ?_ | refine j_build ?_ | refine j_buildSlice (fun _ => ?_) | refine j_makeFunc ?_ | refine j_skip0 ?_ | refine j_op ?_ | ((fail_if_success refine j_look ?_); first | refine j_guard_dec (fun _ => ?_) (fun _ => ?_) | refine j_guard_eq (fun _ => ?_) (fun _ => ?_) | refine j_guard_ne (fun _ => ?_) (fun _ => ?_) | refine j_guard_not (fun _ => ?_) (fun _ => ?_) | refine j_guard (fun _ => ?_) (fun _ => ?_))) | (show JC _ _ _ _ _ _ _; first | refine jc_seq ?_ | refine jc_region ?_ | refine jc_lex ?_ | refine jc_skip ?_ | refine jc_block ?_ | refine jc_ret ?_ | refine jc_exit ?_ | refine jc_true ?_ | refine jc_false ?_ | refine jc_dec (fun _ => ?_) (fun _ => ?_) | refine jc_eq (fun _ => ?_) (fun _ => ?_) | refine jc_ne (fun _ => ?_) (fun _ => ?_) | refine jc_not (fun _ => ?_) (fun _ => ?_) | refine jc_cond (fun _ => ?_) (fun _ => ?_)) | (show JP _ _ _ _ _ _ _ _ (_ :: _) _ _; first | refine jp_do ?_ | refine jp_skip ?_ | refine jp_skipU ?_ | refine jp_build ?_ | refine jp_op ?_) | refine jp_nil ?_ | (show JX _ _ _ _ _ _; first | refine jx_qp ?_ | refine jx_then ?_ | refine jx_block ?_ | refine jx_then_ret ?_ | refine jx_block_ret ?_ | refine jx_then_exit ?_ | refine jx_block_here ?_ | refine jx_block_past ?_ | refine jx_is ?_))
    · rw [if_pos (by omega)]; rfl
    · rw [if_neg (by omega), he]; rfl
theorem partT_ne (p : DPart) : partT p ≠ [] := by unfold partT; split <;> (try split) <;> simp
theorem joinP_ne {l : List DPart} (h : l ≠ []) : Lib.join (l.map partT) [32] ≠ [] := by
  cases l with
  | nil => exact absurd rfl h
  | cons p r => rw [List.map_cons, Lib.join_cons]; simp [partT_ne p]
def jt (o : List DPart) (k : Nat) : List UInt8 := Lib.join ((o.take k).map partT) [32]
theorem jt_zero (o : List DPart) : jt o 0 = [] := rfl
theorem jt_ne {o : List DPart} {k : Nat} (h0 : 0 < k) (h : k ≤ o.length) : str (jt o k) ≠ ⟨#[]⟩ := fun he => by
  have h1 : jt o k = [] := str_inj (m := []) he
  refine joinP_ne (l := o.take k) ?_ h1
  intro h2
  have := congrArg List.length h2
  rw [List.length_take_of_le h, List.length_nil] at this
  omega
theorem jt_succ {o : List DPart} {k : Nat} (h0 : 0 < k) (h : k < o.length) : jt o (k + 1) = jt o k ++ [32] ++ partT o[k] := by
  unfold jt
  rw [map_take_succ _ h, join_snoc]
  intro h1
  have := congrArg List.length h1
  rw [List.length_map, List.length_take_of_le (by omega), List.length_nil] at this
  omega
theorem jt_one {o : List DPart} (h : 0 < o.length) : jt o (0 + 1) = partT o[0] := by
  unfold jt
  rw [map_take_succ _ h]
  simp [join_one]
theorem jt_len {o : List DPart} (hm : ∀ p ∈ o, NPart p) {k : Nat} (hk : k ≤ o.length) : (jt o k).length ≤ k * 1400001 := by
  have := join_len [32] 1400000 ((o.take k).map partT) (fun x hx => by obtain ⟨p, hp, rfl⟩ := List.mem_map.1 hx; exact partT_len (hm p (List.mem_of_mem_take hp)))
  rw [List.length_map, List.length_take_of_le hk] at this
  exact this
theorem signT_eq {l : List Int} (h : l.all signOk = true ∧ 0 < l.length) : signT l = dotsT l := by
  unfold signT; rw [h.1, if_pos rfl, if_neg (by omega)]
theorem sOpT_c (W : World) {a : Option Addr} {cap : Nat} {l : List DPart} (hl : RdS W a cap l) : CR Tryz.prog 79 [.slice a l.length cap] W (Is (.string (str (opT l)))) := by
  refine calls_j Tryz.func79 rfl rfl rfl ?_
  repeat' (first | (show J _ _ _ _ _ (_ :: _) _ _; refine j_call (fun _ hw => sOpOk_c _ (hl.st hw)) ?_; rintro _ _ ⟨rfl, rfl⟩) | (show JP _ _ _ _ _ _ _ _ (_ :: _) _ _; refine jp_call (fun _ hw => sOpOk_c _ (hl.st hw)) ?_) | refine j_nil ?_ | (show J _ _ _ _ _ (_ :: _) _ _; first | refine j_skip ?_ | refine j_skipU ?_ | refine j_alloc (fun _ => ?_) | refine j_box (fun _ => ?_) | refine j_store ?_ | refine j_build ?_ | refine j_buildSlice (fun _ => ?_) | refine j_makeFunc ?_ | refine j_skip0 ?_ | refine j_op ?_ | ((fail_if_success refine j_look ?_); first | refine j_guard_dec (fun _ => ?_) (fun _ => ?_) | refine j_guard_eq (fun _ => ?_) (fun _ => ?_) | refine j_guard_ne (fun _ => ?_) (fun _ => ?_) | refine j_guard_not (fun _ => ?_) (fun _ => ?_) | refine j_guard (fun _ => ?_) (fun _ => ?_))) | (show JC _ _ _ _ _ _ _; first | refine jc_seq ?_ | refine jc_region ?_ | refine jc_lex ?_ | refine jc_skip ?_ | refine jc_block ?_ | refine jc_ret ?_ | refine jc_exit ?_ | refine jc_true ?_ | refine jc_false ?_ | refine jc_dec (fun _ => ?_) (fun _ => ?_) | refine jc_eq (fun _ => ?_) (fun _ => ?_) | refine jc_ne (fun _ => ?_) (fun _ => ?_) | refine jc_not (fun _ => ?_) (fun _ => ?_) | refine jc_cond (fun _ => ?_) (fun _ => ?_)) | (show JP _ _ _ _ _ _ _ _ (_ :: _) _ _; first | refine jp_do ?_ | refine jp_skip ?_ | refine jp_skipU ?_ | refine jp_build ?_ | refine jp_op ?_) | refine jp_nil ?_ | (show JX _ _ _ _ _ _; first | refine jx_qp ?_ | refine jx_then ?_ | refine jx_block ?_ | refine jx_then_ret ?_ | refine jx_block_ret ?_ | refine jx_then_exit ?_ | refine jx_block_here ?_ | refine jx_block_past ?_ | refine jx_is ?_))
  · simp [opT, *]; rfl
  rename_i hok
  refine j_call (fun w hw => sOpNorm_c _ (hl.st hw)) (fun v M hR => ?_)
  obtain ⟨a2, c2, H2, rfl, hS, rfl⟩ := hR
  have hopT : opT l = if (opNorm l).length = 0 then [45] else Lib.join ((opNorm l).map partT) [32] := by unfold opT; rw [hok]; rfl
  have hmem := opNorm_mem l
  have hnl := opNorm_len l
  rw [hopT]
  generalize opNorm l = o at *
  have hadr2 := hS.adr
  repeat' (first | refine j_nil ?_ | (show J _ _ _ _ _ (_ :: _) _ _; first | refine j_skip ?_ | refine j_skipU ?_ | refine j_alloc (fun _ => ?_) | refine j_box (fun _ => ?_) | refine j_store ?_ | refine j_build ?_ | refine j_buildSlice (fun _ => ?_) | refine j_makeFunc ?_ | refine j_skip0 ?_ | refine j_op ?_ | ((fail_if_success refine j_look ?_); first | refine j_guard_dec (fun _ => ?_) (fun _ => ?_) | refine j_guard_eq (fun _ => ?_) (fun _ => ?_) | refine j_guard_ne (fun _ => ?_) (fun _ => ?_) | refine j_guard_not (fun _ => ?_) (fun _ => ?_) | refine j_guard (fun _ => ?_) (fun _ => ?_))) | (show JC _ _ _ _ _ _ _; first | refine jc_seq ?_ | refine jc_region ?_ | refine jc_lex ?_ | refine jc_skip ?_ | refine jc_block ?_ | refine jc_ret ?_ | refine jc_exit ?_ | refine jc_true ?_ | refine jc_false ?_ | refine jc_dec (fun _ => ?_) (fun _ => ?_) | refine jc_eq (fun _ => ?_) (fun _ => ?_) | refine jc_ne (fun _ => ?_) (fun _ => ?_) | refine jc_not (fun _ => ?_) (fun _ => ?_) | refine jc_cond (fun _ => ?_) (fun _ => ?_)) | (show JP _ _ _ _ _ _ _ _ (_ :: _) _ _; first | refine jp_do ?_ | refine jp_skip ?_ | refine jp_skipU ?_ | refine jp_build ?_ | refine jp_op ?_) | refine jp_nil ?_ | (show JX _ _ _ _ _ _; first | refine jx_qp ?_ | refine jx_then ?_ | refine jx_block ?_ | refine jx_then_ret ?_ | refine jx_block_ret ?_ | refine jx_then_exit ?_ | refine jx_block_here ?_ | refine jx_block_past ?_ | refine jx_is ?_))
  refine jc_loop (fun k : Nat => [(3, .string (str (jt o k))), (10, .slice a2 o.length c2), (11, .int .i64 o.length), (12, .int .i64 k)]) (fun _ => [H2])
    (fun k => k ≤ o.length) (fun k => o.length - k) 0 (by omega) ⟨rfl, rfl, rfl, rfl, trivial⟩ (fun w => St.sel (by repeat (first | exact .nil | apply Sel.cons (by repeat (first | exact .here | exact .e rfl | apply Rm.there))))) ?_
  intro k hk
  have hjl := jt_len hmem hk
  by_cases h : k < o.length
  · obtain ⟨a1, c1, H1, hsub, i1, i2, hs, hsub2⟩ := hS.elP h
    obtain ⟨n1, n2, n3, n4⟩ := hmem o[k] (List.getElem_mem h)
    have hn10 := numT_len o[k].n
    have hsl := signT_len o[k].signs
    repeat' (first | (show J _ _ _ _ _ (_ :: _) _ _; refine j_call (fun _ hw => sNum_c _ _) ?_; rintro _ _ ⟨rfl, rfl⟩) | (show JP _ _ _ _ _ _ _ _ (_ :: _) _ _; refine jp_call (fun _ hw => sNum_c _ _) ?_) | (show J _ _ _ _ _ (_ :: _) _ _; refine j_call (fun _ hw => sSignT_c _ (.part hs hsub2 (by repeat (first | exact .here | apply InL.there)) hw) (by omega)) ?_; rintro _ _ ⟨rfl, rfl⟩) | (show JP _ _ _ _ _ _ _ _ (_ :: _) _ _; refine jp_call (fun _ hw => sSignT_c _ (.part hs hsub2 (by repeat (first | exact .here | apply InL.there)) hw) (by omega)) ?_) | refine j_nil ?_ | (show J _ _ _ _ _ (_ :: _) _ _; first | refine j_skip ?_ | refine j_skipU ?_ | refine j_alloc (fun _ => ?_) | refine j_box (fun _ => ?_) | refine j_store ?_ | refine j_build ?_ | refine j_buildSlice (fun _ => ?_) | refine j_makeFunc ?_ | refine j_skip0 ?_ | refine j_op ?_ | ((fail_if_success refine j_look ?_); first | refine j_guard_dec (fun _ => ?_) (fun _ => ?_) | refine j_guard_eq (fun _ => ?_) (fun _ => ?_) | refine j_guard_ne (fun _ => ?_) (fun _ => ?_) | refine j_guard_not (fun _ => ?_) (fun _ => ?_) | refine j_guard (fun _ => ?_) (fun _ => ?_))) | (show JC _ _ _ _ _ _ _; first | refine jc_seq ?_ | refine jc_region ?_ | refine jc_lex ?_ | refine jc_skip ?_ | refine jc_block ?_ | refine jc_ret ?_ | refine jc_exit ?_ | refine jc_true ?_ | refine jc_false ?_ | refine jc_dec (fun _ => ?_) (fun _ => ?_) | refine jc_eq (fun _ => ?_) (fun _ => ?_) | refine jc_ne (fun _ => ?_) (fun _ => ?_) | refine jc_not (fun _ => ?_) (fun _ => ?_) | refine jc_cond (fun _ => ?_) (fun _ => ?_)) | (show JP _ _ _ _ _ _ _ _ (_ :: _) _ _; first | refine jp_do ?_ | refine jp_skip ?_ | refine jp_skipU ?_ | refine jp_build ?_ | refine jp_op ?_) | refine jp_nil ?_ | (show JX _ _ _ _ _ _; first | refine jx_qp ?_ | refine jx_then ?_ | refine jx_block ?_ | refine jx_then_ret ?_ | refine jx_block_ret ?_ | refine jx_then_exit ?_ | refine jx_block_here ?_ | refine jx_block_past ?_ | refine jx_is ?_))
    all_goals refine jx_round (k + 1) (by omega) (by omega) ⟨?_, rfl, rfl, rfl, trivial⟩ (fun w => St.sel (by repeat (first | exact .nil | apply Sel.cons (by repeat (first | exact .here | exact .e rfl | apply Rm.there)))))
    case refine_1.refine_1 g0 g1 g2 =>
      have hk0 : 0 < k := by
        rcases Nat.eq_zero_or_pos k with h' | h'
        · subst h'; exact absurd g1 (by simp [jt_zero, str])
        · exact h'
      show some (Value.string (((str (jt o k) ++ str [32]) ++ str [107]) ++ str (numT o[k].n))) = _
      rw [str_append, str_append, str_append, jt_succ hk0 h]
      unfold partT; rw [if_pos g2]
      exact congrArg (fun l => some (Value.string (str l))) (by simp)
    case refine_1.refine_2.refine_1 g0 g1 g2 g3 =>
      have hk0 : 0 < k := by
        rcases Nat.eq_zero_or_pos k with h' | h'
        · subst h'; exact absurd g1 (by simp [jt_zero, str])
        · exact h'
      show some (Value.string (((str (jt o k) ++ str [32]) ++ str [112]) ++ str (signT o[k].signs))) = _
      rw [signT_eq (n4 g3)]
      rw [str_append, str_append, str_append, jt_succ hk0 h]
      unfold partT; rw [if_neg g2, if_neg (by omega)]
      exact congrArg (fun l => some (Value.string (str l))) (by simp)
    case refine_1.refine_2.refine_2 g0 g1 g2 g3 =>
      have hk0 : 0 < k := by
        rcases Nat.eq_zero_or_pos k with h' | h'
        · subst h'; exact absurd g1 (by simp [jt_zero, str])
        · exact h'
      show some (Value.string (((str (jt o k) ++ str [32]) ++ str [100]) ++ str (numT o[k].n))) = _
      rw [str_append, str_append, str_append, jt_succ hk0 h]
      unfold partT; rw [if_neg g2, if_pos (by omega)]
      exact congrArg (fun l => some (Value.string (str l))) (by simp)
    case refine_2.refine_1 g0 g1 g2 =>
      obtain rfl : k = 0 := by
        rcases Nat.eq_zero_or_pos k with h' | h'
        · exact h'
        · exact absurd (of_decide_eq_true g1) (jt_ne h' hk)
      show some (Value.string ((str (jt o 0) ++ str [107]) ++ str (numT o[0].n))) = _
      rw [str_append, str_append, jt_zero, jt_one h]
      unfold partT; rw [if_pos g2]
      exact congrArg (fun l => some (Value.string (str l))) (by simp)
    case refine_2.refine_2.refine_1 g0 g1 g2 g3 =>
      obtain rfl : k = 0 := by
        rcases Nat.eq_zero_or_pos k with h' | h'
        · exact h'
        · exact absurd (of_decide_eq_true g1) (jt_ne h' hk)
      show some (Value.string ((str (jt o 0) ++ str [112]) ++ str (signT o[0].signs))) = _
      rw [signT_eq (n4 g3)]
      rw [str_append, str_append, jt_zero, jt_one h]
      unfold partT; rw [if_neg g2, if_neg (by omega)]
      exact congrArg (fun l => some (Value.string (str l))) (by simp)
    case refine_2.refine_2.refine_2 g0 g1 g2 g3 =>
      obtain rfl : k = 0 := by
        rcases Nat.eq_zero_or_pos k with h' | h'
        · exact h'
        · exact absurd (of_decide_eq_true g1) (jt_ne h' hk)
      show some (Value.string ((str (jt o 0) ++ str [100]) ++ str (numT o[0].n))) = _
      rw [str_append, str_append, jt_zero, jt_one h]
      unfold partT; rw [if_neg g2, if_pos (by omega)]
      exact congrArg (fun l => some (Value.string (str l))) (by simp)
  · obtain rfl : k = o.length := by omega
    repeat' (first | refine j_nil ?_ | (show J _ _ _ _ _ (_ :: _) _ _; first | refine j_skip ?_ | refine j_skipU ?_ | refine j_alloc (fun _ => ?_) | refine j_box (fun _ => ?_) | refine j_store ?_ | refine j_build ?_ | refine j_buildSlice (fun _ => ?_) | refine j_makeFunc ?_ | refine j_skip0 ?_ | refine j_op ?_ | ((fail_if_success refine j_look ?_); first | refine j_guard_dec (fun _ => ?_) (fun _ => ?_) | refine j_guard_eq (fun _ => ?_) (fun _ => ?_) | refine j_guard_ne (fun _ => ?_) (fun _ => ?_) | refine j_guard_not (fun _ => ?_) (fun _ => ?_) | refine j_guard (fun _ => ?_) (fun _ => ?_))) | (show JC _ _ _ _ _ _ _; first | refine jc_seq ?_ | refine jc_region ?_ | refine jc_lex ?_ | refine jc_skip ?_ | refine jc_block ?_ | refine jc_ret ?_ | refine jc_exit ?_ | refine jc_true ?_ | refine jc_false ?_ | refine jc_dec (fun _ => ?_) (fun _ => ?_) | refine jc_eq (fun _ => ?_) (fun _ => ?_) | refine jc_ne (fun _ => ?_) (fun _ => ?_) | refine jc_not (fun _ => ?_) (fun _ => ?_) | refine jc_cond (fun _ => ?_) (fun _ => ?_)) | (show JP _ _ _ _ _ _ _ _ (_ :: _) _ _; first | refine jp_do ?_ | refine jp_skip ?_ | refine jp_skipU ?_ | refine jp_build ?_ | refine jp_op ?_) | refine jp_nil ?_ | (show JX _ _ _ _ _ _; first | refine jx_qp ?_ | refine jx_then ?_ | refine jx_block ?_ | refine jx_then_ret ?_ | refine jx_block_ret ?_ | refine jx_then_exit ?_ | refine jx_block_here ?_ | refine jx_block_past ?_ | refine jx_is ?_))
    · rename_i g1
      have h0 : o.length = 0 := by
        rcases Nat.eq_zero_or_pos o.length with h' | h'
        · exact h'
        · exact absurd g1 (jt_ne h' hk)
      rw [if_pos h0]; rfl
    · rename_i g1
      have h0 : ¬ o.length = 0 := fun h' => by
        rw [h'] at g1
        exact g1 rfl
      rw [if_neg h0]
      unfold jt
      rw [List.take_length]
      rfl
end Go.Proofs.YtiobmbicldjikaaGreatDoor
