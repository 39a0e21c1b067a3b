/- The program's AnswerText answers as the reference's does, and leaves its argument as it was. No condition. -/
import Derived.Test.YtcmhkkhiipdbbaaDoorCards
import Derived.Test.YtcmhkkhiipdbbaaDoorTie
import Derived.Test.YtcmhkkhiipdbbaaDoorShut
import Derived.Test.YtcmhkkhiipdbbaaDoorLaws
import Derived.Test.YtcmhkkhiipdbbaaDoorAnswer
set_option linter.unusedVariables false
namespace Go.Proofs.YtcmhkkhiipdbbaaDoor
open Go.RowKit Go.WideShapes Go.ChangeShapes Go.ChangeAt

theorem fnExactAnswerText_c (W : World) (hL : LibOk W) {c : List Value} {x : DAnswer} (h : Rd W c x) : CR Tryd.prog 5 [.agg c.toArray] W (Is (.bool true)) := by
  obtain ⟨a0, c0, a1, c1, rfl, j0, j1, j2, j3⟩ := DAnswer.rd h
  have k0 := cw (W := W) fun w hw => szAnswer_c w (h.st hw) 1048576 ⟨by omega, by omega⟩
  refine calls_j Tryd.func5 rfl rfl rfl (r1 ?_)
  intro b0 hge
  have hw := szF_yes hge
  have k1 := cw (W := W) fun w hw' => toAnswer_c w (h.st hw') hw
  refine r1 ?_
  intro c2 H2 hx2
  refine j_call (fun w hw' => sAnswerT_c w (.own hx2 (by repeat (first | exact .here | apply InL.there)) hw') (by have := wEntryS_pos x.list; have := wAnswer.eq_1 x; unfold wIntS at *; omega) (by have := wL_len wEntry_pos x.list; have := wIntS_pos x.text; have := wAnswer.eq_1 x; unfold wEntryS at *; omega)) ?_
  rintro _ _ ⟨rfl, rfl⟩
  refine r1 ?_
  intro c3 H3 hx3 b3
  obtain ⟨a0, c0, K0, a1, c1, K1, rfl, rfl, j0, j1, j2, j3⟩ := DAnswer.un hx3
  refine r1 ?_
  refine j_call (fun w hw' => iAnswerT_c w (hL.st hw') (.own (DAnswer.re j0 j1 j2 j3) (by repeat (first | exact .here | apply InL.there)) hw') (by have := wEntryS_pos x.list; have := wAnswer.eq_1 x; unfold wIntS at *; omega) (by have := wL_len wEntry_pos x.list; have := wIntS_pos x.text; have := wAnswer.eq_1 x; unfold wEntryS at *; omega)) ?_
  rintro _ _ ⟨rfl, rfl⟩
  refine n2 ?_ ?_
  · intro hne; simp at hne
  intro _
  refine jc_lexK0 2 ?_
  refine r1 ?_
  intro c4 H4 hx4
  refine j_call (fun w hw' => eqAnswer_c w (.own (DAnswer.re j0 j1 j2 j3) (by repeat (first | exact .here | apply InL.there)) hw') (.own hx4 (by repeat (first | exact .here | apply InL.there)) hw')) ?_
  rintro _ _ ⟨rfl, rfl⟩
  refine r1 ?_
  intro hne; simp at hne

set_option maxRecDepth 100000 in
theorem fnExactAnswerText_post (H : Type) (enc : TypeId × Value → H) (W : World) (base : Nat) (args : Array Value) (ds gs : List (DataW H)) (before : List MemPlace)
    (hval : ∀ (j : Nat) t v, Tryd.f5.params[j]? = some t → args[j]? = some v → Value.okWide Tryd.prog W .any base t v)
    (hW : DataW.Whole enc Tryd.prog Tryd.f5.params.toList Rows.fnExactAnswerTextSpec.vars false W args.toList ds gs before) (hL : laidMetH Tryd.prog Rows.fnExactAnswerTextRow.laid W) (hS : W.ShapedOpen Tryd.prog) :
    Calls Tryd.prog 5 args W fun e W' => ∃ v, e = .returned v ∧ Rows.fnExactAnswerTextSpec.post enc Tryd.prog Tryd.f5 false true false false W args v W' := by
  have hlib : LibOk W := libOk_of (l := Rows.fnExactAnswerTextRow.laid) (show ("internal/strconv.uint64pow10", Rows.laid_internal_strconv_uint64pow10) ∈ Rows.fnExactAnswerTextRow.laid by unfold Rows.fnExactAnswerTextRow; repeat (first | exact List.Mem.head _ | apply List.Mem.tail)) (by kernel_rfl) hL hS
  obtain ⟨p, q, hA0, hV, rfl, hfz, hnd⟩ := id hW
  have hA : DataW.TrodAll enc Tryd.prog W 0 (fun _ => true) true Tryd.f5.params.toList args.toList ds p := hA0
  rw [Tryd.params5] at hA hval
  obtain ⟨v0, vs0, d0, ds0, p0, q0, hargs, rfl, rfl, h0, r0⟩ := trodAll_cons hA
  obtain ⟨rfl, rfl, rfl⟩ := trodAll_nil r0
  obtain rfl : args = #[v0] := by cases args; simp_all
  obtain ⟨cs, y, rfl, hy⟩ := struct_arg (α := DAnswer) Tryd.underlying45 (hval 0 45 v0 rfl rfl) h0
  refine (fnExactAnswerText_c W hlib hy).run.mono fun e W' h => ?_
  obtain ⟨v, M, rfl, hs, rfl, rfl⟩ := h
  obtain ⟨rfl, rfl⟩ := trodVars_none hV
  exact ⟨_, rfl, post_true (t := 4) laidOutK mapsRowedK rowsFull (fun t ht => by rw [Tryd.params5] at ht; exact (show t = 45 by simpa using ht) ▸ of_decide_eq_true (by kernel_rfl)) hW rfl hs.below rfl rfl Tryd.underlying4⟩
/-- A world for the witness: the listed tables laid. -/
noncomputable def fnExactAnswerTextWorld (os : Os) : World := World.laidAll Tryd.prog os Rows.fnExactAnswerTextRow.laid
theorem fnExactAnswerText_reads (os : Os) {H : Type} (enc : TypeId × Value → H) : ∃ places, DataW.whole enc Tryd.prog ((fnExactAnswerTextWorld os).forCall (fun _ _ => 0) ⟨#[], #[.agg #[.int .i64 0, .int .i64 0, .slice none 0 0, .slice none 0 0]], []⟩).memory Tryd.f5.params.toList Rows.fnExactAnswerTextSpec.vars false #[.agg #[.int .i64 0, .int .i64 0, .slice none 0 0, .slice none 0 0]].toList 8 = some ([.agg [.lit (.int .i64 0), .lit (.int .i64 0), .nil, .nil]], [], places) :=
  ⟨[], by kernel_rfl⟩
theorem fnExactAnswerText_laid (os : Os) : laidMet Tryd.prog Rows.fnExactAnswerTextRow.laid ((fnExactAnswerTextWorld os).forCall (fun _ _ => 0) ⟨#[], #[.agg #[.int .i64 0, .int .i64 0, .slice none 0 0, .slice none 0 0]], []⟩).memory := laidMet_laidAll _ (by kernel_rfl) (by kernel_rfl)
set_option maxRecDepth 100000 in
theorem fnExactAnswerText_lifted (os : Os) (started : os.Started) (H : Type) (enc : TypeId × Value → H) (F : Stop.Interp) :
    ReturnsInHanded {} Tryd.checked os 5 .any ((OpenSpec.ofChange Rows.fnExactAnswerTextSpec).preRow enc Tryd.prog Tryd.f5 Rows.fnExactAnswerTextRow.domain false Rows.fnExactAnswerTextRow.laid) (((OpenSpec.ofChange Rows.fnExactAnswerTextSpec).at F).post enc Tryd.prog Tryd.f5 false true false false) := by
  obtain ⟨places, hx⟩ := fnExactAnswerText_reads os enc
  refine returnsInHanded_of_row (C := Tryd.checked) (s := OpenSpec.ofChange Rows.fnExactAnswerTextSpec) ownK started (by kernel_rfl) Tryd.func5
    (witness_row_at (enc := enc) (C := Tryd.checked) false (fnExactAnswerTextWorld os) #[.agg #[.int .i64 0, .int .i64 0, .slice none 0 0, .slice none 0 0]] (World.laidAll_os _ _ _) (by kernel_rfl) (by kernel_rfl) (by kernel_rfl)
      (OpenSpec.preRow_of_cond 8 hx (by kernel_rfl) (fun k hk => by cases hk) (by kernel_rfl) (fnExactAnswerText_laid os))) ?_
  intro W base args ds gs before hval hW _ _ _ hL hS _
  exact fnExactAnswerText_post H enc W base args ds gs before hval hW hL hS
theorem fnExactAnswerText_said : Rows.FnExactAnswerTextSaid :=
  OpenClaim.holds_of_cond 5 Tryd.f5 rfl rfl rfl rfl rfl rfl rfl ⟨rfl, rfl, rfl, rfl, rfl⟩ rfl rfl rfl rfl rfl (by kernel_rfl) Tryd.func5 (by kernel_rfl)
    (of_decide_eq_true (by kernel_rfl)) (by unfold Func.isWrapper; first | (rw [if_pos (by decide +kernel)]; kernel_rfl) | (rw [if_neg (by decide +kernel)]; exact ⟨rfl, rfl⟩))
    (fun os started H enc _ F => by rw [OpenClaim.pre_eq_preRow]; exact fnExactAnswerText_lifted os started H enc F)
theorem fnExactAnswerText_plain (f : FuncId) (fn : Func) (hf : Tryd.pinned.checked.prog.funcNamed "loop.example/g00797/laws.FnExactAnswerText" = some f) (hfn : Tryd.pinned.checked.prog.funcs[f]? = some fn) :
    false = Tryd.pinned.checked.prog.looks [] ∧ ∀ (j : Nat) t, fn.params[j]? = some t → Tryd.pinned.checked.prog.wantsStandIn t = false := by
  obtain rfl : f = 5 := Option.some.inj ((show Tryd.prog.funcNamed "loop.example/g00797/laws.FnExactAnswerText" = some 5 by kernel_rfl).symm.trans hf) |>.symm
  obtain rfl : fn = Tryd.f5 := (Option.some.inj (Tryd.func5.symm.trans hfn)).symm
  refine ⟨by kernel_rfl, fun j t ht => ?_⟩
  rw [Tryd.params5] at ht
  obtain rfl : t = 45 := by simpa using Array.mem_of_getElem? ht
  exact (show Tryd.prog.wantsStandIn 45 = false by kernel_rfl)
theorem fnExactAnswerText_card : Rows.FnExactAnswerTextCardSaid :=
  Claim7.holds_tied_plain_at .later [] _ _ _ _ fnExactAnswerText_said (fun _ h => by cases h) (by kernel_rfl) (fun _ h => by cases h) fnExactAnswerText_row_tie rfl ⟨rfl, rfl⟩ (by kernel_rfl) rfl fnExactAnswerText_plain (by kernel_rfl)
end Go.Proofs.YtcmhkkhiipdbbaaDoor
