/- What the statement asks behind a call that left the old memory as it was; the listed tables. No condition. -/
import Derived.Test.YtiobmbicldjikaaGreatDoorRows

import Derived.Test.YtiobmbicldjikaaGreatDoorReads

import Derived.Test.YtiobmbicldjikaaGreatDoorConv

import Derived.Below

import Derived.ChangeSame

import Derived.WalkKit

import Derived.ProofKit

import Derived.OpenShut

import Derived.JoinedCond

import Derived.Deep.DeepHandedRow

import Derived.Deep.DeepWitnessRowRef

import Derived.Lib.LaidTab

import Derived.Lay

import Derived.MakeChecks

set_option linter.unusedVariables false

namespace Go.Proofs.YtiobmbicldjikaaGreatDoor

open Go.RowKit Go.WideShapes Go.ChangeShapes Go.ChangeAt

section

variable {H : Type} {enc : TypeId × Value → H} {P : Program}

theorem all_carry {W W' : World} {base : Nat} {sp : Nat → Bool} {held : Bool} (hb : Below W.heap.size W W') : ∀ {ts : List TypeId} {vs : List Value} {ds : List (DataW H)} {ps : List MemPlace},
    DataW.TrodAll enc P W base sp held ts vs ds ps → DataW.TrodAll enc P W' base sp held ts vs ds ps
  | [], [], [], _, h => h
  | _ :: _, _ :: _, _ :: _, _, ⟨p, q, ⟨n, h1⟩, h2, e⟩ => ⟨p, q, ⟨n, DataW.trod_carry n _ _ _ h1 fun x hx => hb.same (DataW.trod_lt n _ _ _ h1 x hx)⟩, all_carry hb h2, e⟩
theorem post_true {f : Func} {s : ChangeSpec} {apart fresh handsOn again : Bool} {W W' : World} {args : Array Value} {ds gs : List (DataW H)} {before : List MemPlace} {t : TypeId}
    (hl : laidOutB P = true) (hm : mapsRowed P = true) (hz : ∀ t e, t < P.types.size → P.underlying t = some (.slice e) → 0 < P.cellsOf e) (hts : ∀ t ∈ f.params.toList, t < P.types.size)
    (hW : DataW.Whole enc P f.params.toList s.vars apart W args.toList ds gs before) (hv : s.vars = []) (hb : Below W.heap.size W W')
    (hs : s.fn H (ds ++ gs) = { results := [.lit (.bool true)], args := ds }) (hr : f.resultTypes = #[t]) (ht : P.underlying t = some .bool) :
    s.post enc P f apart fresh handsOn again W args (.bool true) W' := by
  obtain ⟨p, q, hA, hV, rfl, hfz, hnd⟩ := id hW
  rw [hv] at hV
  obtain ⟨rfl, rfl⟩ := trodVars_none hV
  have hlt : ∀ x ∈ p, x.block < W.heap.size := fun x hx => hA.lt x hx
  have hargs : ∀ sp : Nat → Bool, (∀ x ∈ p, sp x.block = true) → DataW.TrodAll enc P W' 0 sp true f.params.toList args.toList ds p := fun sp hsp =>
    all_carry hb (hA.respare (kids_rows hl hm) hz hts hsp)
  have hres : ∀ (b : Nat) (sp : Nat → Bool) (hd : Bool), DataW.TrodAll enc P W' b sp hd f.resultTypes.toList ((Value.bool true).resultList f.resultTypes.size) [.lit (.bool true)] [] := fun b sp hd => by
    rw [hr]; exact trodAll_cons_mk (shut_bool ht _) trodAll_mk0
  have hin : ∀ x ∈ p ++ [], (fun b => decide (b < W.heap.size)) x.block = true := fun x hx => by simpa using hlt x (by simpa using hx)
  refine ⟨ds, [], p ++ [], [], p, [], hW, by rw [hs]; exact hres _ _ _, by rw [hs]; exact hargs _ (fun x hx => hin x (by simpa using hx)), by rw [hs, hv]; exact rfl, World.keptBut_mono (fun x hx => ⟨hx, ?_⟩) (hb.frame (· ∈ p ++ [])), fun _ => ?_⟩
  · exact Or.inr (by simpa using hx)
  · refine ⟨ok_one hr rfl (okWide_bool_mk ht _), _, _, ([] ++ p) ++ [], ⟨[] ++ p, [], trodAll_append (hargs _ (fun _ _ => rfl)) (hres _ _ _), by rw [hv]; exact (show DataW.TrodVars enc P W' (fun _ => true) [] [] [] from rfl), rfl, ?_, ?_⟩, ?_⟩
    · intro b off hx
      have hx' : MemPlace.cell b off ∈ p := by simpa using hx
      rw [hb.frozen (hlt _ hx')]
      exact hfz b off (by simpa using hx')
    · intro ha
      simpa using hnd ha
    · intro x hx _
      simpa using hx
theorem struct_arg {t : TypeId} {fs : Array Field} {α : Type} [Rep α] [h : RdT P t α] {W : World} {base : Nat} {v : Value} {d : DataW H} {p : List MemPlace} (hu : P.underlying t = some (.struct fs)) (hval : Value.okWide P W .any base t v)
    (hd : DataW.Trod enc P W 0 (fun _ => true) true t v d p) : ∃ (cs : List Value) (y : α), v = .agg cs.toArray ∧ Rd W cs y := by
  obtain ⟨cs, rfl, _⟩ := okWide_struct hu hval
  obtain ⟨n, hn⟩ := hd
  obtain ⟨y, hy⟩ := h.rd hn
  exact ⟨cs.toList, y, by simp, hy⟩
theorem laid_tail {W : World} {x : String × DataW Unit} {r : List (String × DataW Unit)} (h : laidMet P (x :: r) W) : laidMet P r W := by
  obtain ⟨n, d⟩ := x
  obtain ⟨ps, ⟨g, t, cs, fuel, p, q, _, _, _, _, hr, rfl⟩, hn, hm⟩ := h
  exact ⟨q, hr, (List.nodup_append.1 hn).2.1, fun b off hp => hm b off (List.mem_append_right _ hp)⟩
theorem laid_at {W : World} {x : String × DataW Unit} : ∀ {l : List (String × DataW Unit)}, x ∈ l → laidMet P l W → ∃ r, laidMet P (x :: r) W
  | y :: r, hm, h => by
    rcases List.mem_cons.1 hm with rfl | hm
    · exact ⟨r, h⟩
    · exact laid_at hm (laid_tail h)
theorem tab_grow {W w : World} {name : String} {k : IntKind} {zs : List Int} (h : Lib.TabIs P W name k zs) (hb : Below W.heap.size W w) {g : Nat} (hg : P.globalNamed name = some g) (hlt : g < W.heap.size) : Lib.TabIs P w name k zs := by
  unfold Lib.TabIs World.var? at *
  rw [hg] at h ⊢
  simp only [Option.bind_some] at h ⊢
  rw [hb.block g hlt]
  exact h
end

theorem ownK : ownKnob Tryz.prog.godebug = none := by kernel_rfl
set_option maxRecDepth 100000 in
theorem libOk_of {l : List (String × DataW Unit)} (hm : ("internal/strconv.uint64pow10", Lib.tabData .u64 Lib.pow10Tab) ∈ l) {W : World} (hp : (l.all fun x => x.2.handleName?.isNone) = true) (h : laidMetH Tryz.prog l W) (hS : W.ShapedOpen Tryz.prog) : LibOk W := by
  rw [MakeChecks.laidMetH_plain _ _ _ hp] at h
  obtain ⟨r, hr⟩ := laid_at hm h
  have hg : Tryz.prog.globalNamed "internal/strconv.uint64pow10" = some 0 := by kernel_rfl
  have ht := Lib.tabIs_of_head (t := 263) (n := 20) hg (by kernel_rfl) Tryz.underlying263 Tryz.underlying231 (by kernel_rfl) (by kernel_rfl) hr
  have c0 := ht.cell hg 0 (by decide)
  have hlt : 0 < W.heap.size := lt_of_cell c0
  obtain ⟨cs, hh, hs, hr⟩ := hS.1 1 #[.int .i64 0] 3 (of_decide_eq_true (by kernel_rfl)) (by kernel_rfl)
  obtain ⟨ts, hts, _, hall⟩ := hr (by kernel_rfl)
  have hc : Tryz.prog.cellTypes Tryz.prog.depth 3 = some [3] := by kernel_rfl
  rw [hc] at hts
  cases hts
  have h1 : 0 < cs.size := by rw [hs]; decide
  obtain ⟨u, hu, hok⟩ := hall 0 cs[0] (by simp [h1])
  obtain rfl : u = 3 := by simpa using hu.symm
  have hcell : ∃ m, W.cell? ⟨1, 0, none⟩ = some (.int .i64 m) := by
    have e : W.cell? ⟨1, 0, none⟩ = some cs[0] := by simp [World.cell?, hh, h1]
    rw [e]
    generalize cs[0] = v at hok
    unfold Cell.ok at hok
    rw [Tryz.underlying3] at hok
    cases v <;> simp at hok
    obtain ⟨rfl, _⟩ := hok
    exact ⟨_, rfl⟩
  intro w hb
  refine ⟨tab_grow ht hb hg hlt, ?_⟩
  obtain ⟨m, hm⟩ := hcell
  exact ⟨m, (hb.cell (p := ⟨1, 0, none⟩) (lt_of_cell hm)).trans hm⟩
theorem rowsFull : ∀ t e, t < Tryz.prog.types.size → Tryz.prog.underlying t = some (.slice e) → 0 < Tryz.prog.cellsOf e := slices_full_of Tryz.prog (by kernel_rfl)
theorem laidOutK : laidOutB Tryz.prog = true := by kernel_rfl
theorem mapsRowedK : mapsRowed Tryz.prog = true := by kernel_rfl
end Go.Proofs.YtiobmbicldjikaaGreatDoor
