/- The text of an answer. No condition. -/
import Derived.Test.YtcmhkkhiipdbbaaDoorTexts
set_option linter.unusedVariables false
namespace Go.Proofs.YtcmhkkhiipdbbaaDoor

def listT (l : List DEntry) (k : Nat) : List UInt8 := ((l.take k).map fun x => 32 :: entryT x).flatten
def answerT (x : DAnswer) : ByteArray := if x.code = 0 then str ([111, 107, 32] ++ numT x.rev ++ [32] ++ signT x.text ++ listT x.list x.list.length) else otName x.code
theorem listT_succ {l : List DEntry} {k : Nat} (h : k < l.length) : listT l (k + 1) = listT l k ++ (32 :: entryT l[k]) := by
  unfold listT; rw [map_take_succ _ h]; simp
theorem entryT_len (x : DEntry) : (entryT x).length ≤ 2800002022 := by
  have n1 := numT_len x.client
  have n2 := numT_len x.seq
  have n3 := opW_len x.o
  unfold entryT
  simp only [List.length_append, List.length_cons, List.length_nil]
  omega
theorem listT_len (l : List DEntry) : ∀ k, k ≤ l.length → (listT l k).length ≤ k * 2800002023
  | 0, _ => by simp [listT]
  | k + 1, hk => by
    have ih := listT_len l k (by omega)
    have he := entryT_len l[k]
    rw [listT_succ (by omega)]
    simp only [List.length_append, List.length_cons]
    omega
theorem otName_zero : otName 0 = ⟨#[111, 107]⟩ := by decide
theorem otName_ok {z : Int} : otName z = ⟨#[111, 107]⟩ ↔ z = 0 := by
  constructor
  · intro h
    by_cases hr : inR z 0 12 = true
    · have hr' := hr
      simp only [inR, Bool.and_eq_true, decide_eq_true_eq] at hr'
      have : z = 0 ∨ z = 1 ∨ z = 2 ∨ z = 3 ∨ z = 4 ∨ z = 5 ∨ z = 6 ∨ z = 7 ∨ z = 8 ∨ z = 9 ∨ z = 10 ∨ z = 11 ∨ z = 12 := by omega
      rcases this with rfl | rfl | rfl | rfl | rfl | rfl | rfl | rfl | rfl | rfl | rfl | rfl | rfl <;> first | rfl | exact absurd h (by decide)
    · rw [otName_no (Bool.eq_false_iff.2 hr)] at h
      exact absurd h (by decide)
  · rintro rfl; exact otName_zero
def ansHead (x : DAnswer) : List UInt8 := [111, 107, 32] ++ numT x.rev ++ [32] ++ signT x.text
theorem iAnswerT_c (W : World) (hL : LibOk W) {c : List Value} {x : DAnswer} (h : Rd W c x) (hN : x.text.length ≤ 1048576) (hM : x.list.length ≤ 1048576) : CR Tryd.prog 19 [.agg c.toArray] W (Is (.string (answerT x))) := by
  obtain ⟨a, cap, a2, cap2, rfl, i1, i2, hs, hl⟩ := DAnswer.rd h
  have n1 := numT_len x.rev
  have n2 := signT_len x.text
  have n4 := otName_size x.code
  have hlt := hl.lt
  have hadr := hl.adr
  refine calls_j Tryd.func19 rfl rfl rfl ?_
  repeat' (first | (show J _ _ _ _ _ (_ :: _) _ _; refine j_call (fun _ hw => iOtName_c _ _) ?_; rintro _ _ ⟨rfl, rfl⟩) | (show JP _ _ _ _ _ _ _ (_ :: _) _ _; refine jp_call (fun _ hw => iOtName_c _ _) ?_) | (show J _ _ _ _ _ (_ :: _) _ _; refine j_call (fun _ hw => iNum_c _ (hL.st hw) _) ?_; rintro _ _ ⟨rfl, rfl⟩) | (show JP _ _ _ _ _ _ _ (_ :: _) _ _; refine jp_call (fun _ hw => iNum_c _ (hL.st hw) _) ?_) | (show J _ _ _ _ _ (_ :: _) _ _; refine j_call (fun _ hw => iSignT_c _ (hL.st hw) (hs.st hw) hN) ?_; rintro _ _ ⟨rfl, rfl⟩) | (show JP _ _ _ _ _ _ _ (_ :: _) _ _; refine jp_call (fun _ hw => iSignT_c _ (hL.st hw) (hs.st hw) hN) ?_) | refine j_nil ?_ | (show J _ _ _ _ _ (_ :: _) _ _; first | refine j_skip ?_ | refine j_skipU ?_ | refine j_alloc (fun _ => ?_) | refine j_box (fun _ => ?_) | refine j_store ?_ | refine j_build ?_ | refine j_buildSlice (fun _ => ?_) | refine j_makeFunc ?_ | refine j_skip0 ?_ | refine j_op ?_ | ((fail_if_success refine j_look ?_); first | refine j_guard_dec (fun _ => ?_) (fun _ => ?_) | refine j_guard_eq (fun _ => ?_) (fun _ => ?_) | refine j_guard_ne (fun _ => ?_) (fun _ => ?_) | refine j_guard_not (fun _ => ?_) (fun _ => ?_) | refine j_guard (fun _ => ?_) (fun _ => ?_))) | (show JC _ _ _ _ _ _ _; first | refine jc_seq ?_ | refine jc_region ?_ | refine jc_lex ?_ | refine jc_skip ?_ | refine jc_block ?_ | refine jc_ret ?_ | refine jc_exit ?_ | refine jc_true ?_ | refine jc_false ?_ | refine jc_dec (fun _ => ?_) (fun _ => ?_) | refine jc_eq (fun _ => ?_) (fun _ => ?_) | refine jc_ne (fun _ => ?_) (fun _ => ?_) | refine jc_not (fun _ => ?_) (fun _ => ?_) | refine jc_cond (fun _ => ?_) (fun _ => ?_)) | (show JP _ _ _ _ _ _ _ (_ :: _) _ _; first | refine jp_do ?_ | refine jp_skip ?_ | refine jp_skipU ?_ | refine jp_build ?_ | refine jp_op ?_) | refine jp_nil ?_ | (show JX _ _ _ _ _ _; first | refine jx_qp ?_ | refine jx_then ?_ | refine jx_block ?_ | refine jx_then_ret ?_ | refine jx_block_ret ?_ | refine jx_then_exit ?_ | refine jx_block_here ?_ | refine jx_block_past ?_ | refine jx_is ?_))
  case refine_1 b h0 => rw [answerT, if_neg h0]; rfl
  case refine_2 b h0 =>
    refine jc_loop (fun k : Nat => [(3, .string (str (ansHead x ++ listT x.list k))), (25, .slice a2 x.list.length cap2), (26, .int .i64 x.list.length), (27, .int .i64 k)]) (fun _ => []) (fun k => k ≤ x.list.length) (fun k => x.list.length - k) 0 (by omega) ⟨?_, rfl, rfl, rfl, trivial⟩ (fun w => St.sel .nil) ?_
    · have hz : x.code = 0 := h0
      show some (Value.string (otName x.code ++ (((str [32] ++ str (numT x.rev)) ++ str [32]) ++ str (signT x.text)))) = _
      rw [hz, otName_zero, show (⟨#[111, 107]⟩ : ByteArray) = str [111, 107] from rfl]
      simp only [str_append]
      simp [ansHead, listT]
    · intro k hk
      have hll := listT_len x.list k hk
      have hah : (ansHead x).length ≤ 20 + x.text.length * 11 := by unfold ansHead; simp only [List.length_append, List.length_cons, List.length_nil]; omega
      have hal : (ansHead x ++ listT x.list k).length ≤ 20 + x.text.length * 11 + k * 2800002023 := by rw [List.length_append]; omega
      by_cases h : k < x.list.length
      · obtain ⟨a3, c3, hc, j1, j2, hs3⟩ := hl.DEntry h
        have he := entryT_len x.list[k]
        repeat' (first | (show J _ _ _ _ _ (_ :: _) _ _; refine j_call (fun _ hw => iEntryT_c _ (hL.st hw) (DEntry.mk_rd j1 j2 (hs3.st hw))) ?_; rintro _ _ ⟨rfl, rfl⟩) | (show JP _ _ _ _ _ _ _ (_ :: _) _ _; refine jp_call (fun _ hw => iEntryT_c _ (hL.st hw) (DEntry.mk_rd j1 j2 (hs3.st hw))) ?_) | refine j_nil ?_ | (show J _ _ _ _ _ (_ :: _) _ _; first | refine j_skip ?_ | refine j_skipU ?_ | refine j_alloc (fun _ => ?_) | refine j_box (fun _ => ?_) | refine j_store ?_ | refine j_build ?_ | refine j_buildSlice (fun _ => ?_) | refine j_makeFunc ?_ | refine j_skip0 ?_ | refine j_op ?_ | ((fail_if_success refine j_look ?_); first | refine j_guard_dec (fun _ => ?_) (fun _ => ?_) | refine j_guard_eq (fun _ => ?_) (fun _ => ?_) | refine j_guard_ne (fun _ => ?_) (fun _ => ?_) | refine j_guard_not (fun _ => ?_) (fun _ => ?_) | refine j_guard (fun _ => ?_) (fun _ => ?_))) | (show JC _ _ _ _ _ _ _; first | refine jc_seq ?_ | refine jc_region ?_ | refine jc_lex ?_ | refine jc_skip ?_ | refine jc_block ?_ | refine jc_ret ?_ | refine jc_exit ?_ | refine jc_true ?_ | refine jc_false ?_ | refine jc_dec (fun _ => ?_) (fun _ => ?_) | refine jc_eq (fun _ => ?_) (fun _ => ?_) | refine jc_ne (fun _ => ?_) (fun _ => ?_) | refine jc_not (fun _ => ?_) (fun _ => ?_) | refine jc_cond (fun _ => ?_) (fun _ => ?_)) | (show JP _ _ _ _ _ _ _ (_ :: _) _ _; first | refine jp_do ?_ | refine jp_skip ?_ | refine jp_skipU ?_ | refine jp_build ?_ | refine jp_op ?_) | refine jp_nil ?_ | (show JX _ _ _ _ _ _; first | refine jx_qp ?_ | refine jx_then ?_ | refine jx_block ?_ | refine jx_then_ret ?_ | refine jx_block_ret ?_ | refine jx_then_exit ?_ | refine jx_block_here ?_ | refine jx_block_past ?_ | refine jx_is ?_))
        refine jx_round (k + 1) (by omega) (by omega) ⟨?_, rfl, rfl, rfl, trivial⟩ (fun w => St.sel .nil)
        show some (Value.string (str (ansHead x ++ listT x.list k) ++ (str [32] ++ str (entryT x.list[k])))) = _
        simp only [str_append, listT_succ h]
        simp
      · obtain rfl : k = x.list.length := by omega
        repeat' (first | refine j_nil ?_ | (show J _ _ _ _ _ (_ :: _) _ _; first | refine j_skip ?_ | refine j_skipU ?_ | refine j_alloc (fun _ => ?_) | refine j_box (fun _ => ?_) | refine j_store ?_ | refine j_build ?_ | refine j_buildSlice (fun _ => ?_) | refine j_makeFunc ?_ | refine j_skip0 ?_ | refine j_op ?_ | ((fail_if_success refine j_look ?_); first | refine j_guard_dec (fun _ => ?_) (fun _ => ?_) | refine j_guard_eq (fun _ => ?_) (fun _ => ?_) | refine j_guard_ne (fun _ => ?_) (fun _ => ?_) | refine j_guard_not (fun _ => ?_) (fun _ => ?_) | refine j_guard (fun _ => ?_) (fun _ => ?_))) | (show JC _ _ _ _ _ _ _; first | refine jc_seq ?_ | refine jc_region ?_ | refine jc_lex ?_ | refine jc_skip ?_ | refine jc_block ?_ | refine jc_ret ?_ | refine jc_exit ?_ | refine jc_true ?_ | refine jc_false ?_ | refine jc_dec (fun _ => ?_) (fun _ => ?_) | refine jc_eq (fun _ => ?_) (fun _ => ?_) | refine jc_ne (fun _ => ?_) (fun _ => ?_) | refine jc_not (fun _ => ?_) (fun _ => ?_) | refine jc_cond (fun _ => ?_) (fun _ => ?_)) | (show JP _ _ _ _ _ _ _ (_ :: _) _ _; first | refine jp_do ?_ | refine jp_skip ?_ | refine jp_skipU ?_ | refine jp_build ?_ | refine jp_op ?_) | refine jp_nil ?_ | (show JX _ _ _ _ _ _; first | refine jx_qp ?_ | refine jx_then ?_ | refine jx_block ?_ | refine jx_then_ret ?_ | refine jx_block_ret ?_ | refine jx_then_exit ?_ | refine jx_block_here ?_ | refine jx_block_past ?_ | refine jx_is ?_))
        rw [answerT, if_pos h0]; rfl
theorem sAnswerT_c (W : World) {c : List Value} {x : DAnswer} (h : Rd W c x) (hN : x.text.length ≤ 1048576) (hM : x.list.length ≤ 1048576) : CR Tryd.prog 17 [.agg c.toArray] W (Is (.string (answerT x))) := by
  obtain ⟨a, cap, a2, cap2, rfl, i1, i2, hs, hl⟩ := DAnswer.rd h
  have n1 := numT_len x.rev
  have n2 := signT_len x.text
  have n4 := otName_size x.code
  have hlt := hl.lt
  have hadr := hl.adr
  refine calls_j Tryd.func17 rfl rfl rfl ?_
  repeat' (first | (show J _ _ _ _ _ (_ :: _) _ _; refine j_call (fun _ hw => sOtName_c _ _) ?_; rintro _ _ ⟨rfl, rfl⟩) | (show JP _ _ _ _ _ _ _ (_ :: _) _ _; refine jp_call (fun _ hw => sOtName_c _ _) ?_) | (show J _ _ _ _ _ (_ :: _) _ _; refine j_call (fun _ hw => sNum_c _ _) ?_; rintro _ _ ⟨rfl, rfl⟩) | (show JP _ _ _ _ _ _ _ (_ :: _) _ _; refine jp_call (fun _ hw => sNum_c _ _) ?_) | (show J _ _ _ _ _ (_ :: _) _ _; refine j_call (fun _ hw => sSignT_c _ (hs.st hw) hN) ?_; rintro _ _ ⟨rfl, rfl⟩) | (show JP _ _ _ _ _ _ _ (_ :: _) _ _; refine jp_call (fun _ hw => sSignT_c _ (hs.st hw) hN) ?_) | refine j_nil ?_ | (show J _ _ _ _ _ (_ :: _) _ _; first | refine j_skip ?_ | refine j_skipU ?_ | refine j_alloc (fun _ => ?_) | refine j_box (fun _ => ?_) | refine j_store ?_ | refine j_build ?_ | refine j_buildSlice (fun _ => ?_) | refine j_makeFunc ?_ | refine j_skip0 ?_ | refine j_op ?_ | ((fail_if_success refine j_look ?_); first | refine j_guard_dec (fun _ => ?_) (fun _ => ?_) | refine j_guard_eq (fun _ => ?_) (fun _ => ?_) | refine j_guard_ne (fun _ => ?_) (fun _ => ?_) | refine j_guard_not (fun _ => ?_) (fun _ => ?_) | refine j_guard (fun _ => ?_) (fun _ => ?_))) | (show JC _ _ _ _ _ _ _; first | refine jc_seq ?_ | refine jc_region ?_ | refine jc_lex ?_ | refine jc_skip ?_ | refine jc_block ?_ | refine jc_ret ?_ | refine jc_exit ?_ | refine jc_true ?_ | refine jc_false ?_ | refine jc_dec (fun _ => ?_) (fun _ => ?_) | refine jc_eq (fun _ => ?_) (fun _ => ?_) | refine jc_ne (fun _ => ?_) (fun _ => ?_) | refine jc_not (fun _ => ?_) (fun _ => ?_) | refine jc_cond (fun _ => ?_) (fun _ => ?_)) | (show JP _ _ _ _ _ _ _ (_ :: _) _ _; first | refine jp_do ?_ | refine jp_skip ?_ | refine jp_skipU ?_ | refine jp_build ?_ | refine jp_op ?_) | refine jp_nil ?_ | (show JX _ _ _ _ _ _; first | refine jx_qp ?_ | refine jx_then ?_ | refine jx_block ?_ | refine jx_then_ret ?_ | refine jx_block_ret ?_ | refine jx_then_exit ?_ | refine jx_block_here ?_ | refine jx_block_past ?_ | refine jx_is ?_))
  case refine_1 b h0 => rw [answerT, if_neg (fun h' => absurd (otName_ok.2 h') (of_decide_eq_false h0))]; rfl
  case refine_2 b h0 =>
    refine jc_loop (fun k : Nat => [(3, .string (str (ansHead x ++ listT x.list k))), (24, .slice a2 x.list.length cap2), (25, .int .i64 x.list.length), (26, .int .i64 k)]) (fun _ => []) (fun k => k ≤ x.list.length) (fun k => x.list.length - k) 0 (by omega) ⟨?_, rfl, rfl, rfl, trivial⟩ (fun w => St.sel .nil) ?_
    · have hz : x.code = 0 := otName_ok.1 (of_decide_eq_true h0)
      show some (Value.string ((((otName x.code ++ str [32]) ++ str (numT x.rev)) ++ str [32]) ++ str (signT x.text))) = _
      rw [hz, otName_zero, show (⟨#[111, 107]⟩ : ByteArray) = str [111, 107] from rfl]
      simp only [str_append]
      simp [ansHead, listT]
    · intro k hk
      have hll := listT_len x.list k hk
      have hah : (ansHead x).length ≤ 20 + x.text.length * 11 := by unfold ansHead; simp only [List.length_append, List.length_cons, List.length_nil]; omega
      have hal : (ansHead x ++ listT x.list k).length ≤ 20 + x.text.length * 11 + k * 2800002023 := by rw [List.length_append]; omega
      by_cases h : k < x.list.length
      · obtain ⟨a3, c3, hc, j1, j2, hs3⟩ := hl.DEntry h
        have he := entryT_len x.list[k]
        repeat' (first | (show J _ _ _ _ _ (_ :: _) _ _; refine j_call (fun _ hw => sEntryT_c _ (DEntry.mk_rd j1 j2 (hs3.st hw))) ?_; rintro _ _ ⟨rfl, rfl⟩) | (show JP _ _ _ _ _ _ _ (_ :: _) _ _; refine jp_call (fun _ hw => sEntryT_c _ (DEntry.mk_rd j1 j2 (hs3.st hw))) ?_) | refine j_nil ?_ | (show J _ _ _ _ _ (_ :: _) _ _; first | refine j_skip ?_ | refine j_skipU ?_ | refine j_alloc (fun _ => ?_) | refine j_box (fun _ => ?_) | refine j_store ?_ | refine j_build ?_ | refine j_buildSlice (fun _ => ?_) | refine j_makeFunc ?_ | refine j_skip0 ?_ | refine j_op ?_ | ((fail_if_success refine j_look ?_); first | refine j_guard_dec (fun _ => ?_) (fun _ => ?_) | refine j_guard_eq (fun _ => ?_) (fun _ => ?_) | refine j_guard_ne (fun _ => ?_) (fun _ => ?_) | refine j_guard_not (fun _ => ?_) (fun _ => ?_) | refine j_guard (fun _ => ?_) (fun _ => ?_))) | (show JC _ _ _ _ _ _ _; first | refine jc_seq ?_ | refine jc_region ?_ | refine jc_lex ?_ | refine jc_skip ?_ | refine jc_block ?_ | refine jc_ret ?_ | refine jc_exit ?_ | refine jc_true ?_ | refine jc_false ?_ | refine jc_dec (fun _ => ?_) (fun _ => ?_) | refine jc_eq (fun _ => ?_) (fun _ => ?_) | refine jc_ne (fun _ => ?_) (fun _ => ?_) | refine jc_not (fun _ => ?_) (fun _ => ?_) | refine jc_cond (fun _ => ?_) (fun _ => ?_)) | (show JP _ _ _ _ _ _ _ (_ :: _) _ _; first | refine jp_do ?_ | refine jp_skip ?_ | refine jp_skipU ?_ | refine jp_build ?_ | refine jp_op ?_) | refine jp_nil ?_ | (show JX _ _ _ _ _ _; first | refine jx_qp ?_ | refine jx_then ?_ | refine jx_block ?_ | refine jx_then_ret ?_ | refine jx_block_ret ?_ | refine jx_then_exit ?_ | refine jx_block_here ?_ | refine jx_block_past ?_ | refine jx_is ?_))
        refine jx_round (k + 1) (by omega) (by omega) ⟨?_, rfl, rfl, rfl, trivial⟩ (fun w => St.sel .nil)
        show some (Value.string ((str (ansHead x ++ listT x.list k) ++ str [32]) ++ str (entryT x.list[k]))) = _
        simp only [str_append, listT_succ h]
        simp
      · obtain rfl : k = x.list.length := by omega
        repeat' (first | refine j_nil ?_ | (show J _ _ _ _ _ (_ :: _) _ _; first | refine j_skip ?_ | refine j_skipU ?_ | refine j_alloc (fun _ => ?_) | refine j_box (fun _ => ?_) | refine j_store ?_ | refine j_build ?_ | refine j_buildSlice (fun _ => ?_) | refine j_makeFunc ?_ | refine j_skip0 ?_ | refine j_op ?_ | ((fail_if_success refine j_look ?_); first | refine j_guard_dec (fun _ => ?_) (fun _ => ?_) | refine j_guard_eq (fun _ => ?_) (fun _ => ?_) | refine j_guard_ne (fun _ => ?_) (fun _ => ?_) | refine j_guard_not (fun _ => ?_) (fun _ => ?_) | refine j_guard (fun _ => ?_) (fun _ => ?_))) | (show JC _ _ _ _ _ _ _; first | refine jc_seq ?_ | refine jc_region ?_ | refine jc_lex ?_ | refine jc_skip ?_ | refine jc_block ?_ | refine jc_ret ?_ | refine jc_exit ?_ | refine jc_true ?_ | refine jc_false ?_ | refine jc_dec (fun _ => ?_) (fun _ => ?_) | refine jc_eq (fun _ => ?_) (fun _ => ?_) | refine jc_ne (fun _ => ?_) (fun _ => ?_) | refine jc_not (fun _ => ?_) (fun _ => ?_) | refine jc_cond (fun _ => ?_) (fun _ => ?_)) | (show JP _ _ _ _ _ _ _ (_ :: _) _ _; first | refine jp_do ?_ | refine jp_skip ?_ | refine jp_skipU ?_ | refine jp_build ?_ | refine jp_op ?_) | refine jp_nil ?_ | (show JX _ _ _ _ _ _; first | refine jx_qp ?_ | refine jx_then ?_ | refine jx_block ?_ | refine jx_then_ret ?_ | refine jx_block_ret ?_ | refine jx_then_exit ?_ | refine jx_block_here ?_ | refine jx_block_past ?_ | refine jx_is ?_))
        rw [answerT, if_pos (otName_ok.1 (of_decide_eq_true h0))]; rfl
end Go.Proofs.YtcmhkkhiipdbbaaDoor
