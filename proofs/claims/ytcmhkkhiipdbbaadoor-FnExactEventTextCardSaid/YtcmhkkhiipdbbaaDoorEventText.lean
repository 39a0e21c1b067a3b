/- The program's EventText answers as the reference's does, and leaves its argument as it was. No condition. -/
import Derived.Test.YtcmhkkhiipdbbaaDoorCards
import Derived.Test.YtcmhkkhiipdbbaaDoorTie
import Derived.Test.YtcmhkkhiipdbbaaDoorShut
import Derived.Test.YtcmhkkhiipdbbaaDoorLaws
import Derived.Test.YtcmhkkhiipdbbaaDoorAnswer
set_option linter.unusedVariables false
namespace Go.Proofs.YtcmhkkhiipdbbaaDoor
open Go.RowKit Go.WideShapes Go.ChangeShapes Go.ChangeAt

theorem fnExactEventText_c (W : World) (hL : LibOk W) {c : List Value} {x : DEvent} (h : Rd W c x) : CR Tryd.prog 4 [.agg c.toArray] W (Is (.bool true)) := by
  obtain ⟨a0, c0, rfl, j0, j1, j2, j3⟩ := DEvent.rd h
  have k0 := cw (W := W) fun w hw => szEvent_c w (h.st hw) 1048576 ⟨by omega, by omega⟩
  refine calls_j Tryd.func4 rfl rfl rfl (r1 ?_)
  intro b0 hge
  have hw := szF_yes hge
  have k1 := cw (W := W) fun w hw' => toEvent_c w (h.st hw') hw
  refine r1 ?_
  intro c2 H2 hx2
  refine j_call (fun w hw' => sEventT_c w (.own hx2 (by repeat (first | exact .here | apply InL.there)) hw')) ?_
  rintro _ _ ⟨rfl, rfl⟩
  refine r1 ?_
  intro c3 H3 hx3 b3
  obtain ⟨a0, c0, K0, rfl, rfl, j0, j1, j2, j3⟩ := DEvent.un hx3
  refine r1 ?_
  refine j_call (fun w hw' => iEventT_c w (hL.st hw') (.own (DEvent.re j0 j1 j2 j3) (by repeat (first | exact .here | apply InL.there)) hw')) ?_
  rintro _ _ ⟨rfl, rfl⟩
  refine n2 ?_ ?_
  · intro hne; simp at hne
  intro _
  refine jc_lexK0 2 ?_
  refine r1 ?_
  intro c4 H4 hx4
  refine j_call (fun w hw' => eqEvent_c w (.own (DEvent.re j0 j1 j2 j3) (by repeat (first | exact .here | apply InL.there)) hw') (.own hx4 (by repeat (first | exact .here | apply InL.there)) hw')) ?_
  rintro _ _ ⟨rfl, rfl⟩
  refine r1 ?_
  intro hne; simp at hne

set_option maxRecDepth 100000 in
theorem fnExactEventText_post (H : Type) (enc : TypeId × Value → H) (W : World) (base : Nat) (args : Array Value) (ds gs : List (DataW H)) (before : List MemPlace)
    (hval : ∀ (j : Nat) t v, Tryd.f4.params[j]? = some t → args[j]? = some v → Value.okWide Tryd.prog W .any base t v)
    (hW : DataW.Whole enc Tryd.prog Tryd.f4.params.toList Rows.fnExactEventTextSpec.vars false W args.toList ds gs before) (hL : laidMetH Tryd.prog Rows.fnExactEventTextRow.laid W) (hS : W.ShapedOpen Tryd.prog) :
    Calls Tryd.prog 4 args W fun e W' => ∃ v, e = .returned v ∧ Rows.fnExactEventTextSpec.post enc Tryd.prog Tryd.f4 false true false false W args v W' := by
  have hlib : LibOk W := libOk_of (l := Rows.fnExactEventTextRow.laid) (show ("internal/strconv.uint64pow10", Rows.laid_internal_strconv_uint64pow10) ∈ Rows.fnExactEventTextRow.laid by unfold Rows.fnExactEventTextRow; repeat (first | exact List.Mem.head _ | apply List.Mem.tail)) (by kernel_rfl) hL hS
  obtain ⟨p, q, hA0, hV, rfl, hfz, hnd⟩ := id hW
  have hA : DataW.TrodAll enc Tryd.prog W 0 (fun _ => true) true Tryd.f4.params.toList args.toList ds p := hA0
  rw [Tryd.params4] at hA hval
  obtain ⟨v0, vs0, d0, ds0, p0, q0, hargs, rfl, rfl, h0, r0⟩ := trodAll_cons hA
  obtain ⟨rfl, rfl, rfl⟩ := trodAll_nil r0
  obtain rfl : args = #[v0] := by cases args; simp_all
  obtain ⟨cs, y, rfl, hy⟩ := struct_arg (α := DEvent) Tryd.underlying34 (hval 0 34 v0 rfl rfl) h0
  refine (fnExactEventText_c W hlib hy).run.mono fun e W' h => ?_
  obtain ⟨v, M, rfl, hs, rfl, rfl⟩ := h
  obtain ⟨rfl, rfl⟩ := trodVars_none hV
  exact ⟨_, rfl, post_true (t := 4) laidOutK mapsRowedK rowsFull (fun t ht => by rw [Tryd.params4] at ht; exact (show t = 34 by simpa using ht) ▸ of_decide_eq_true (by kernel_rfl)) hW rfl hs.below rfl rfl Tryd.underlying4⟩
/-- A world for the witness: the listed tables laid. -/
noncomputable def fnExactEventTextWorld (os : Os) : World := World.laidAll Tryd.prog os Rows.fnExactEventTextRow.laid
theorem fnExactEventText_reads (os : Os) {H : Type} (enc : TypeId × Value → H) : ∃ places, DataW.whole enc Tryd.prog ((fnExactEventTextWorld os).forCall (fun _ _ => 0) ⟨#[], #[.agg #[.int .i64 0, .int .i64 0, .int .i64 0, .slice none 0 0]], []⟩).memory Tryd.f4.params.toList Rows.fnExactEventTextSpec.vars false #[.agg #[.int .i64 0, .int .i64 0, .int .i64 0, .slice none 0 0]].toList 8 = some ([.agg [.lit (.int .i64 0), .lit (.int .i64 0), .lit (.int .i64 0), .nil]], [], places) :=
  ⟨[], by kernel_rfl⟩
theorem fnExactEventText_laid (os : Os) : laidMet Tryd.prog Rows.fnExactEventTextRow.laid ((fnExactEventTextWorld os).forCall (fun _ _ => 0) ⟨#[], #[.agg #[.int .i64 0, .int .i64 0, .int .i64 0, .slice none 0 0]], []⟩).memory := laidMet_laidAll _ (by kernel_rfl) (by kernel_rfl)
set_option maxRecDepth 100000 in
theorem fnExactEventText_lifted (os : Os) (started : os.Started) (H : Type) (enc : TypeId × Value → H) (F : Stop.Interp) :
    ReturnsInHanded {} Tryd.checked os 4 .any ((OpenSpec.ofChange Rows.fnExactEventTextSpec).preRow enc Tryd.prog Tryd.f4 Rows.fnExactEventTextRow.domain false Rows.fnExactEventTextRow.laid) (((OpenSpec.ofChange Rows.fnExactEventTextSpec).at F).post enc Tryd.prog Tryd.f4 false true false false) := by
  obtain ⟨places, hx⟩ := fnExactEventText_reads os enc
  refine returnsInHanded_of_row (C := Tryd.checked) (s := OpenSpec.ofChange Rows.fnExactEventTextSpec) ownK started (by kernel_rfl) Tryd.func4
    (witness_row_at (enc := enc) (C := Tryd.checked) false (fnExactEventTextWorld os) #[.agg #[.int .i64 0, .int .i64 0, .int .i64 0, .slice none 0 0]] (World.laidAll_os _ _ _) (by kernel_rfl) (by kernel_rfl) (by kernel_rfl)
      (OpenSpec.preRow_of_cond 8 hx (by kernel_rfl) (fun k hk => by cases hk) (by kernel_rfl) (fnExactEventText_laid os))) ?_
  intro W base args ds gs before hval hW _ _ _ hL hS _
  exact fnExactEventText_post H enc W base args ds gs before hval hW hL hS
theorem fnExactEventText_said : Rows.FnExactEventTextSaid :=
  OpenClaim.holds_of_cond 4 Tryd.f4 rfl rfl rfl rfl rfl rfl rfl ⟨rfl, rfl, rfl, rfl, rfl⟩ rfl rfl rfl rfl rfl (by kernel_rfl) Tryd.func4 (by kernel_rfl)
    (of_decide_eq_true (by kernel_rfl)) (by unfold Func.isWrapper; first | (rw [if_pos (by decide +kernel)]; kernel_rfl) | (rw [if_neg (by decide +kernel)]; exact ⟨rfl, rfl⟩))
    (fun os started H enc _ F => by rw [OpenClaim.pre_eq_preRow]; exact fnExactEventText_lifted os started H enc F)
theorem fnExactEventText_plain (f : FuncId) (fn : Func) (hf : Tryd.pinned.checked.prog.funcNamed "loop.example/g00797/laws.FnExactEventText" = some f) (hfn : Tryd.pinned.checked.prog.funcs[f]? = some fn) :
    false = Tryd.pinned.checked.prog.looks [] ∧ ∀ (j : Nat) t, fn.params[j]? = some t → Tryd.pinned.checked.prog.wantsStandIn t = false := by
  obtain rfl : f = 4 := Option.some.inj ((show Tryd.prog.funcNamed "loop.example/g00797/laws.FnExactEventText" = some 4 by kernel_rfl).symm.trans hf) |>.symm
  obtain rfl : fn = Tryd.f4 := (Option.some.inj (Tryd.func4.symm.trans hfn)).symm
  refine ⟨by kernel_rfl, fun j t ht => ?_⟩
  rw [Tryd.params4] at ht
  obtain rfl : t = 34 := by simpa using Array.mem_of_getElem? ht
  exact (show Tryd.prog.wantsStandIn 34 = false by kernel_rfl)
theorem fnExactEventText_card : Rows.FnExactEventTextCardSaid :=
  Claim7.holds_tied_plain_at .later [] _ _ _ _ fnExactEventText_said (fun _ h => by cases h) (by kernel_rfl) (fun _ h => by cases h) fnExactEventText_row_tie rfl ⟨rfl, rfl⟩ (by kernel_rfl) rfl fnExactEventText_plain (by kernel_rfl)
end Go.Proofs.YtcmhkkhiipdbbaaDoor
