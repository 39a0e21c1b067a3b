/- The texts of entries, events and answers. No condition. -/
import Derived.Test.YtiobmbicldjikaaGreatDoorWords

set_option linter.unusedVariables false

namespace Go.Proofs.YtiobmbicldjikaaGreatDoor

theorem opW_len (l : List DPart) : (opW l).length ≤ 2800002000 := by unfold opW; rw [List.length_map]; exact opT_len l
def entryT (x : DEntry) : List UInt8 := numT x.client ++ [58] ++ numT x.seq ++ [58] ++ opW x.o
/-! Events -/

def EvBad (x : DEvent) : Prop := evName x.kind = ⟨#[]⟩ ∨ inR x.who 0 1000000000 = false ∨ inR x.n 0 1000000000 = false ∨ opOk x.o = false ∨ (x.kind ≠ 5 ∧ x.n ≠ 0) ∨ (x.kind ≠ 1 ∧ (0 : Int) < x.o.length)
instance (x : DEvent) : Decidable (EvBad x) := by unfold EvBad; infer_instance
def eventT (x : DEvent) : ByteArray :=
  if EvBad x then ⟨#[]⟩ else
  if x.kind = 5 then evName x.kind ++ (⟨#[32]⟩ ++ str (numT x.who)) ++ (⟨#[32]⟩ ++ str (numT x.n)) else if x.kind = 1 then evName x.kind ++ (⟨#[32]⟩ ++ str (numT x.who)) ++ (⟨#[32]⟩ ++ str (opW x.o)) else evName x.kind ++ (⟨#[32]⟩ ++ str (numT x.who))
theorem evName_z {z : Int} : (evName z = ⟨#[]⟩) ↔ inR z 1 6 = false := by
  constructor
  · intro h
    cases hb : inR z 1 6 with
    | false => rfl
    | true => exact absurd h (evName_ne hb)
  · exact evName_no
theorem iEventT_c (W : World) (hL : LibOk W) {c : List Value} {x : DEvent} (h : Rd W c x) : CR Tryz.prog 25 [.agg c.toArray] W (Is (.string (eventT x))) := by
  obtain ⟨a, cap, rfl, i1, i2, i3, hs⟩ := DEvent.rd h
  have n1 := numT_len x.who
  have n2 := numT_len x.n
  have n3 := opW_len x.o
  have n4 := evName_size x.kind
  refine calls_j Tryz.func25 rfl rfl rfl ?_
  repeat' (first | (show J _ _ _ _ _ (_ :: _) _ _; refine j_call (fun _ hw => iEvName_c _ _) ?_; rintro _ _ ⟨rfl, rfl⟩) | (show JP _ _ _ _ _ _ _ _ (_ :: _) _ _; refine jp_call (fun _ hw => iEvName_c _ _) ?_) | (show J _ _ _ _ _ (_ :: _) _ _; refine j_call (fun _ hw => within_c _ _ _ _) ?_; rintro _ _ ⟨rfl, rfl⟩) | (show JP _ _ _ _ _ _ _ _ (_ :: _) _ _; refine jp_call (fun _ hw => within_c _ _ _ _) ?_) | (show J _ _ _ _ _ (_ :: _) _ _; refine j_call (fun _ hw => iOpOk_c _ (hs.st hw)) ?_; rintro _ _ ⟨rfl, rfl⟩) | (show JP _ _ _ _ _ _ _ _ (_ :: _) _ _; refine jp_call (fun _ hw => iOpOk_c _ (hs.st hw)) ?_) | (show J _ _ _ _ _ (_ :: _) _ _; refine j_call (fun _ hw => iNum_c _ (hL.st hw) _) ?_; rintro _ _ ⟨rfl, rfl⟩) | (show JP _ _ _ _ _ _ _ _ (_ :: _) _ _; refine jp_call (fun _ hw => iNum_c _ (hL.st hw) _) ?_) | (show J _ _ _ _ _ (_ :: _) _ _; refine j_call (fun _ hw => iOpW_c _ (hL.st hw) (hs.st hw)) ?_; rintro _ _ ⟨rfl, rfl⟩) | (show JP _ _ _ _ _ _ _ _ (_ :: _) _ _; refine jp_call (fun _ hw => iOpW_c _ (hL.st hw) (hs.st hw)) ?_) | refine j_nil ?_ | (show J _ _ _ _ _ (_ :: _) _ _; first | refine j_skip ?_ | refine j_skipU ?_ | refine j_alloc (fun _ => ?_) | refine j_box (fun _ => ?_) | refine j_store ?_ | refine j_build ?_ | refine j_buildSlice (fun _ => ?_) | refine j_makeFunc ?_ | refine j_skip0 ?_ | refine j_op ?_ | ((fail_if_success refine j_look ?_); first | refine j_guard_dec (fun _ => ?_) (fun _ => ?_) | refine j_guard_eq (fun _ => ?_) (fun _ => ?_) | refine j_guard_ne (fun _ => ?_) (fun _ => ?_) | refine j_guard_not (fun _ => ?_) (fun _ => ?_) | refine j_guard (fun _ => ?_) (fun _ => ?_))) | (show JC _ _ _ _ _ _ _; first | refine jc_seq ?_ | refine jc_region ?_ | refine jc_lex ?_ | refine jc_skip ?_ | refine jc_block ?_ | refine jc_ret ?_ | refine jc_exit ?_ | refine jc_true ?_ | refine jc_false ?_ | refine jc_dec (fun _ => ?_) (fun _ => ?_) | refine jc_eq (fun _ => ?_) (fun _ => ?_) | refine jc_ne (fun _ => ?_) (fun _ => ?_) | refine jc_not (fun _ => ?_) (fun _ => ?_) | refine jc_cond (fun _ => ?_) (fun _ => ?_)) | (show JP _ _ _ _ _ _ _ _ (_ :: _) _ _; first | refine jp_do ?_ | refine jp_skip ?_ | refine jp_skipU ?_ | refine jp_build ?_ | refine jp_op ?_) | refine jp_nil ?_ | (show JX _ _ _ _ _ _; first | refine jx_qp ?_ | refine jx_then ?_ | refine jx_block ?_ | refine jx_then_ret ?_ | refine jx_block_ret ?_ | refine jx_then_exit ?_ | refine jx_block_here ?_ | refine jx_block_past ?_ | refine jx_is ?_))
  all_goals first
    | (exfalso; omega)
    | (rw [eventT, if_pos (by first | exact .inl ‹_› | exact .inr (.inl ‹_›) | exact .inr (.inr (.inl ‹_›)) | exact .inr (.inr (.inr (.inl ‹_›))) | exact .inr (.inr (.inr (.inr (.inl ⟨‹_›, ‹_›⟩)))) | exact .inr (.inr (.inr (.inr (.inr ⟨‹_›, ‹_›⟩)))))]; rfl)
    | (rw [eventT, if_neg (by rintro (h | h | h | h | ⟨h1, h2⟩ | ⟨h1, h2⟩) <;> first | contradiction | omega | (have h' := h.symm.trans (show _ = true by assumption); cases h'))]; first | (rw [if_pos (by omega)]; rfl) | (rw [if_neg (by omega), if_pos (by omega)]; rfl) | (rw [if_neg (by omega), if_neg (by omega)]; rfl))
theorem sEventT_c (W : World) {c : List Value} {x : DEvent} (h : Rd W c x) : CR Tryz.prog 57 [.agg c.toArray] W (Is (.string (eventT x))) := by
  obtain ⟨a, cap, rfl, i1, i2, i3, hs⟩ := DEvent.rd h
  have n1 := numT_len x.who
  have n2 := numT_len x.n
  have n3 := opW_len x.o
  have n4 := evName_size x.kind
  refine calls_j Tryz.func57 rfl rfl rfl ?_
  repeat' (first | (show J _ _ _ _ _ (_ :: _) _ _; refine j_call (fun _ hw => sEvName_c _ _) ?_; rintro _ _ ⟨rfl, rfl⟩) | (show JP _ _ _ _ _ _ _ _ (_ :: _) _ _; refine jp_call (fun _ hw => sEvName_c _ _) ?_) | (show J _ _ _ _ _ (_ :: _) _ _; refine j_call (fun _ hw => l01In_c _ _ _ _) ?_; rintro _ _ ⟨rfl, rfl⟩) | (show JP _ _ _ _ _ _ _ _ (_ :: _) _ _; refine jp_call (fun _ hw => l01In_c _ _ _ _) ?_) | (show J _ _ _ _ _ (_ :: _) _ _; refine j_call (fun _ hw => sOpOk_c _ (hs.st hw)) ?_; rintro _ _ ⟨rfl, rfl⟩) | (show JP _ _ _ _ _ _ _ _ (_ :: _) _ _; refine jp_call (fun _ hw => sOpOk_c _ (hs.st hw)) ?_) | (show J _ _ _ _ _ (_ :: _) _ _; refine j_call (fun _ hw => sNum_c _ _) ?_; rintro _ _ ⟨rfl, rfl⟩) | (show JP _ _ _ _ _ _ _ _ (_ :: _) _ _; refine jp_call (fun _ hw => sNum_c _ _) ?_) | (show J _ _ _ _ _ (_ :: _) _ _; refine j_call (fun _ hw => sOpW_c _ (hs.st hw)) ?_; rintro _ _ ⟨rfl, rfl⟩) | (show JP _ _ _ _ _ _ _ _ (_ :: _) _ _; refine jp_call (fun _ hw => sOpW_c _ (hs.st hw)) ?_) | refine j_nil ?_ | (show J _ _ _ _ _ (_ :: _) _ _; first | refine j_skip ?_ | refine j_skipU ?_ | refine j_alloc (fun _ => ?_) | refine j_box (fun _ => ?_) | refine j_store ?_ | refine j_build ?_ | refine j_buildSlice (fun _ => ?_) | refine j_makeFunc ?_ | refine j_skip0 ?_ | refine j_op ?_ | ((fail_if_success refine j_look ?_); first | refine j_guard_dec (fun _ => ?_) (fun _ => ?_) | refine j_guard_eq (fun _ => ?_) (fun _ => ?_) | refine j_guard_ne (fun _ => ?_) (fun _ => ?_) | refine j_guard_not (fun _ => ?_) (fun _ => ?_) | refine j_guard (fun _ => ?_) (fun _ => ?_))) | (show JC _ _ _ _ _ _ _; first | refine jc_seq ?_ | refine jc_region ?_ | refine jc_lex ?_ | refine jc_skip ?_ | refine jc_block ?_ | refine jc_ret ?_ | refine jc_exit ?_ | refine jc_true ?_ | refine jc_false ?_ | refine jc_dec (fun _ => ?_) (fun _ => ?_) | refine jc_eq (fun _ => ?_) (fun _ => ?_) | refine jc_ne (fun _ => ?_) (fun _ => ?_) | refine jc_not (fun _ => ?_) (fun _ => ?_) | refine jc_cond (fun _ => ?_) (fun _ => ?_)) | (show JP _ _ _ _ _ _ _ _ (_ :: _) _ _; first | refine jp_do ?_ | refine jp_skip ?_ | refine jp_skipU ?_ | refine jp_build ?_ | refine jp_op ?_) | refine jp_nil ?_ | (show JX _ _ _ _ _ _; first | refine jx_qp ?_ | refine jx_then ?_ | refine jx_block ?_ | refine jx_then_ret ?_ | refine jx_block_ret ?_ | refine jx_then_exit ?_ | refine jx_block_here ?_ | refine jx_block_past ?_ | refine jx_is ?_))
  all_goals first
    | (exfalso; omega)
    | (rw [eventT, if_pos (by first | exact .inl ‹_› | exact .inr (.inl ‹_›) | exact .inr (.inr (.inl ‹_›)) | exact .inr (.inr (.inr (.inl ‹_›))) | exact .inr (.inr (.inr (.inr (.inl ⟨‹_›, ‹_›⟩)))) | exact .inr (.inr (.inr (.inr (.inr ⟨‹_›, ‹_›⟩)))))]; rfl)
    | (rw [eventT, if_neg (by rintro (h | h | h | h | ⟨h1, h2⟩ | ⟨h1, h2⟩) <;> first | contradiction | omega | (have h' := h.symm.trans (show _ = true by assumption); cases h'))]; first | (rw [if_pos (by omega)]; simp only [resV, ByteArray.append_assoc]) | (rw [if_neg (by omega), if_pos (by omega)]; simp only [resV, ByteArray.append_assoc]) | (rw [if_neg (by omega), if_neg (by omega)]; simp only [resV, ByteArray.append_assoc]))
end Go.Proofs.YtiobmbicldjikaaGreatDoor
