/- The program's CallText answers as the reference's does, and leaves its argument as it was. No condition. -/
import Derived.Test.YtiobmbicldjikaaGreatDoorCards

import Derived.Test.YtiobmbicldjikaaGreatDoorTie

import Derived.Test.YtiobmbicldjikaaGreatDoorShut

import Derived.Test.YtiobmbicldjikaaGreatDoorLaws

import Derived.Test.YtiobmbicldjikaaGreatDoorCallTextI

import Derived.Test.YtiobmbicldjikaaGreatDoorCallTextS

set_option linter.unusedVariables false

namespace Go.Proofs.YtiobmbicldjikaaGreatDoor

open Go.RowKit Go.WideShapes Go.ChangeShapes Go.ChangeAt

theorem fnExactCallText_c (W : World) (hL : LibOk W) {c : List Value} {x : DCall} (h : Rd W c x) : CR Tryz.prog 3 [.agg c.toArray] W (Is (.bool true)) := by
  obtain ⟨a0, c0, a1, c1, rfl, j0, j1, j2, j3, j4, j5, j6⟩ := DCall.rd h
  have k0 := cw (W := W) fun w hw => szCall_c w (h.st hw) 1048576 ⟨by omega, by omega⟩
  refine calls_j Tryz.func3 rfl rfl rfl (r1 ?_)
  intro b0 hge
  have hw := szF_yes hge
  have k1 := cw (W := W) fun w hw' => toCall_c w (h.st hw') hw
  refine r1 ?_
  intro c2 H2 hx2
  refine j_call (fun w hw' => sCallT_c w (.own hx2 (by repeat (first | exact .here | apply InL.there)) hw')) ?_
  rintro _ _ ⟨rfl, rfl⟩
  refine r1 ?_
  intro c3 H3 hx3 b3
  obtain ⟨a0, c0, K0, a1, c1, K1, rfl, rfl, j0, j1, j2, j3, j4, j5, j6⟩ := DCall.un hx3
  refine r1 ?_
  refine j_call (fun w hw' => iCallT_c w (hL.st hw') (.own (DCall.re j0 j1 j2 j3 j4 j5 j6) (by repeat (first | exact .here | apply InL.there)) hw')) ?_
  rintro _ _ ⟨rfl, rfl⟩
  refine n1 ?_
  intro
  refine jc_lexK0 2 ?_
  refine r1 ?_
  intro c4 H4 hx4
  refine j_call (fun w hw' => eqCall_c w (.own (DCall.re j0 j1 j2 j3 j4 j5 j6) (by repeat (first | exact .here | apply InL.there)) hw') (.own hx4 (by repeat (first | exact .here | apply InL.there)) hw')) ?_
  rintro _ _ ⟨rfl, rfl⟩
  exact r0

set_option maxRecDepth 100000 in
theorem fnExactCallText_post (H : Type) (enc : TypeId × Value → H) (W : World) (base : Nat) (args : Array Value) (ds gs : List (DataW H)) (before : List MemPlace)
    (hval : ∀ (j : Nat) t v, Tryz.f3.params[j]? = some t → args[j]? = some v → Value.okWide Tryz.prog W .any base t v)
    (hW : DataW.Whole enc Tryz.prog Tryz.f3.params.toList Rows.fnExactCallTextSpec.vars false W args.toList ds gs before) (hL : laidMetH Tryz.prog Rows.fnExactCallTextRow.laid W) (hS : W.ShapedOpen Tryz.prog) :
    Calls Tryz.prog 3 args W fun e W' => ∃ v, e = .returned v ∧ Rows.fnExactCallTextSpec.post enc Tryz.prog Tryz.f3 false true false false W args v W' := by
  have hlib : LibOk W := libOk_of (l := Rows.fnExactCallTextRow.laid) (show ("internal/strconv.uint64pow10", Rows.laid_internal_strconv_uint64pow10) ∈ Rows.fnExactCallTextRow.laid by unfold Rows.fnExactCallTextRow; repeat (first | exact List.Mem.head _ | apply List.Mem.tail)) (by kernel_rfl) hL hS
  obtain ⟨p, q, hA0, hV, rfl, hfz, hnd⟩ := id hW
  have hA : DataW.TrodAll enc Tryz.prog W 0 (fun _ => true) true Tryz.f3.params.toList args.toList ds p := hA0
  rw [Tryz.params3] at hA hval
  obtain ⟨v0, vs0, d0, ds0, p0, q0, hargs, rfl, rfl, h0, r0⟩ := trodAll_cons hA
  obtain ⟨rfl, rfl, rfl⟩ := trodAll_nil r0
  obtain rfl : args = #[v0] := by cases args; simp_all
  obtain ⟨cs, y, rfl, hy⟩ := struct_arg (α := DCall) Tryz.underlying25 (hval 0 25 v0 rfl rfl) h0
  refine (fnExactCallText_c W hlib hy).run.mono fun e W' h => ?_
  obtain ⟨v, M, rfl, hs, rfl, rfl⟩ := h
  obtain ⟨rfl, rfl⟩ := trodVars_none hV
  exact ⟨_, rfl, post_true (t := 4) laidOutK mapsRowedK rowsFull (fun t ht => by rw [Tryz.params3] at ht; exact (show t = 25 by simpa using ht) ▸ of_decide_eq_true (by kernel_rfl)) hW rfl hs.below rfl rfl Tryz.underlying4⟩
/-- A world for the witness: the listed tables laid. -/
noncomputable def fnExactCallTextWorld (os : Os) : World := World.laidAll Tryz.prog os Rows.fnExactCallTextRow.laid
theorem fnExactCallText_reads (os : Os) {H : Type} (enc : TypeId × Value → H) : ∃ places, DataW.whole enc Tryz.prog ((fnExactCallTextWorld os).forCall (fun _ _ => 0) ⟨#[], #[.agg #[.int .i64 0, .string ⟨#[]⟩, .int .i64 0, .int .i64 0, .int .i64 0, .slice none 0 0, .slice none 0 0]], []⟩).memory Tryz.f3.params.toList Rows.fnExactCallTextSpec.vars false #[.agg #[.int .i64 0, .string ⟨#[]⟩, .int .i64 0, .int .i64 0, .int .i64 0, .slice none 0 0, .slice none 0 0]].toList 8 = some ([.agg [.lit (.int .i64 0), .lit (.string []), .lit (.int .i64 0), .lit (.int .i64 0), .lit (.int .i64 0), .nil, .nil]], [], places) :=
  ⟨[], by kernel_rfl⟩
theorem fnExactCallText_laid (os : Os) : laidMet Tryz.prog Rows.fnExactCallTextRow.laid ((fnExactCallTextWorld os).forCall (fun _ _ => 0) ⟨#[], #[.agg #[.int .i64 0, .string ⟨#[]⟩, .int .i64 0, .int .i64 0, .int .i64 0, .slice none 0 0, .slice none 0 0]], []⟩).memory := laidMet_laidAll _ (by kernel_rfl) (by kernel_rfl)
set_option maxRecDepth 100000 in
theorem fnExactCallText_lifted (os : Os) (started : os.Started) (H : Type) (enc : TypeId × Value → H) (F : Stop.Interp) :
    ReturnsInHanded {} Tryz.checked os 3 .any ((OpenSpec.ofChange Rows.fnExactCallTextSpec).preRow enc Tryz.prog Tryz.f3 Rows.fnExactCallTextRow.domain false Rows.fnExactCallTextRow.laid) (((OpenSpec.ofChange Rows.fnExactCallTextSpec).at F).post enc Tryz.prog Tryz.f3 false true false false) := by
  obtain ⟨places, hx⟩ := fnExactCallText_reads os enc
  refine returnsInHanded_of_row (C := Tryz.checked) (s := OpenSpec.ofChange Rows.fnExactCallTextSpec) ownK started (by kernel_rfl) Tryz.func3
    (witness_row_at (enc := enc) (C := Tryz.checked) false (fnExactCallTextWorld os) #[.agg #[.int .i64 0, .string ⟨#[]⟩, .int .i64 0, .int .i64 0, .int .i64 0, .slice none 0 0, .slice none 0 0]] (World.laidAll_os _ _ _) (by kernel_rfl) (by kernel_rfl) (by kernel_rfl)
      (OpenSpec.preRow_of_cond 8 hx (by kernel_rfl) (fun k hk => by cases hk) (by kernel_rfl) (fnExactCallText_laid os))) ?_
  intro W base args ds gs before hval hW _ _ _ hL hS _
  exact fnExactCallText_post H enc W base args ds gs before hval hW hL hS
theorem fnExactCallText_said : Rows.FnExactCallTextSaid :=
  OpenClaim.holds_of_cond 3 Tryz.f3 rfl rfl rfl rfl rfl rfl rfl ⟨rfl, rfl, rfl, rfl, rfl⟩ rfl rfl rfl rfl rfl (by kernel_rfl) Tryz.func3 (by kernel_rfl)
    (of_decide_eq_true (by kernel_rfl)) (by unfold Func.isWrapper; first | (rw [if_pos (by decide +kernel)]; kernel_rfl) | (rw [if_neg (by decide +kernel)]; exact ⟨rfl, rfl⟩))
    (fun os started H enc _ F => by rw [OpenClaim.pre_eq_preRow]; exact fnExactCallText_lifted os started H enc F)
theorem fnExactCallText_plain (f : FuncId) (fn : Func) (hf : Tryz.pinned.checked.prog.funcNamed "loop.example/g00797/laws.FnExactCallText" = some f) (hfn : Tryz.pinned.checked.prog.funcs[f]? = some fn) :
    true = Tryz.pinned.checked.prog.looks [] ∧ ∀ (j : Nat) t, fn.params[j]? = some t → Tryz.pinned.checked.prog.wantsStandIn t = false := by
  obtain rfl : f = 3 := Option.some.inj ((show Tryz.prog.funcNamed "loop.example/g00797/laws.FnExactCallText" = some 3 by kernel_rfl).symm.trans hf) |>.symm
  obtain rfl : fn = Tryz.f3 := (Option.some.inj (Tryz.func3.symm.trans hfn)).symm
  refine ⟨by kernel_rfl, fun j t ht => ?_⟩
  rw [Tryz.params3] at ht
  obtain rfl : t = 25 := by simpa using Array.mem_of_getElem? ht
  exact (show Tryz.prog.wantsStandIn 25 = false by kernel_rfl)
theorem fnExactCallText_card : Rows.FnExactCallTextCardSaid :=
  Claim7.holds_tied_plain_at .later [] _ _ _ _ fnExactCallText_said (fun _ h => by cases h) (by kernel_rfl) (fun _ h => by cases h) fnExactCallText_row_tie rfl ⟨rfl, rfl⟩ (by kernel_rfl) rfl fnExactCallText_plain (by kernel_rfl)
end Go.Proofs.YtiobmbicldjikaaGreatDoor
