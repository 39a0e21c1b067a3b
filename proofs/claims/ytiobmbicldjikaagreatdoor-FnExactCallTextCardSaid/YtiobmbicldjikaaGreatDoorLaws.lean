/- The statements' own helpers: how great their arguments are, their copies, whether two are the same. Printed by program. No condition. -/
import Derived.Test.YtiobmbicldjikaaGreatDoorMake

set_option linter.unusedVariables false

namespace Go.Proofs.YtiobmbicldjikaaGreatDoor

def szF (w left : Int) : Int := if w ≤ left then left - w else -1
theorem szF_in {w left : Int} (h : w ≤ left) : szF w left = left - w := if_pos h
theorem szF_out {w left : Int} (h : ¬ w ≤ left) : szF w left = -1 := if_neg h
theorem szF_no {w left : Int} (h : szF w left < 0) (hl : 0 ≤ left) : left < w := by unfold szF at h; split at h <;> omega
theorem szF_yes {w left : Int} (h : ¬ szF w left < 0) : w ≤ left := by unfold szF at h; split at h <;> omega
def wIntS (l : List Int) : Int := l.length
theorem wIntS_pos (l : List Int) : 0 ≤ wIntS l := by unfold wIntS; omega
def wL {α : Type} (f : α → Int) (l : List α) : Int := l.length + (l.map f).sum
theorem sum_pos {α : Type} {f : α → Int} (hf : ∀ x, 0 ≤ f x) (l : List α) : 0 ≤ (l.map f).sum := by
  induction l with
  | nil => simp
  | cons x l ih => have := hf x; simp; omega
theorem wL_pos {α : Type} {f : α → Int} (hf : ∀ x, 0 ≤ f x) (l : List α) : 0 ≤ wL f l := by have := sum_pos hf l; unfold wL; omega
theorem wL_len {α : Type} {f : α → Int} (hf : ∀ x, 0 ≤ f x) (l : List α) : (l.length : Int) ≤ wL f l := by have := sum_pos hf l; unfold wL; omega
theorem wL_el {α : Type} {f : α → Int} (hf : ∀ x, 0 ≤ f x) : ∀ (l : List α) {i : Nat} (hi : i < l.length), f l[i] ≤ wL f l
  | [], i, hi => by simp at hi
  | x :: l, 0, _ => by have := sum_pos hf l; simp [wL]; omega
  | x :: l, i + 1, hi => by
    have h1 := wL_el hf l (i := i) (by simpa using hi)
    have := hf x
    simp [wL] at h1 ⊢
    omega
def wT {α : Type} (f : α → Int) (l : List α) (k : Nat) : Int := ((l.take k).map f).sum
theorem wT_zero {α : Type} (f : α → Int) (l : List α) : wT f l 0 = 0 := rfl
theorem wT_succ {α : Type} (f : α → Int) {l : List α} {k : Nat} (h : k < l.length) : wT f l (k + 1) = wT f l k + f l[k] := by
  unfold wT; rw [List.take_succ_eq_append_getElem h, List.map_append, List.sum_append]; simp
theorem wT_le {α : Type} {f : α → Int} (hf : ∀ x, 0 ≤ f x) (l : List α) (k : Nat) : (l.length : Int) + wT f l k ≤ wL f l := by
  have h : (l.map f).sum = ((l.take k).map f).sum + ((l.drop k).map f).sum := by rw [← List.sum_append, ← List.map_append, List.take_append_drop]
  have := sum_pos hf (l.drop k)
  unfold wL wT; omega
theorem wT_all {α : Type} (f : α → Int) {l : List α} {k : Nat} (h : ¬ k < l.length) : (l.length : Int) + wT f l k = wL f l := by
  unfold wL wT; rw [List.take_of_length_le (by omega)]
theorem wT_pos {α : Type} {f : α → Int} (hf : ∀ x, 0 ≤ f x) (l : List α) (k : Nat) : 0 ≤ wT f l k := sum_pos hf _

theorem szIntS_c (W : World) {a : Option Addr} {cap : Nat} {l : List Int} (hl : RdS W a cap l) (left : Int) (h0 : 0 ≤ left ∧ left ≤ 1048576) : CR Tryz.prog 27 [.slice a l.length cap, .int .i64 left] W (Is (.int .i64 (szF (wIntS l) left))) := by
  have hlt := hl.lt
  refine calls_j Tryz.func27 rfl rfl rfl (r2 ?_ ?_)
  · intro h; exact ret_i (by rw [szF_out (by unfold wIntS; omega)])
  · intro h; exact ret_i (by rw [szF_in (by unfold wIntS; omega)]; rfl)

theorem toIntS_c (W : World) {a : Option Addr} {cap : Nat} {l : List Int} (hl : RdS W a cap l) (hw : wIntS l ≤ 1048576) : CR Tryz.prog 40 [.slice a l.length cap] W (OwnS' l) := by
  have hlt := hl.lt
  have hadr := hl.adr
  have hw' : l.length ≤ 1048576 := by unfold wIntS at hw; omega
  refine calls_j Tryz.func40 rfl rfl rfl (r1 ?_)
  refine j_make (α := Int) 0 ?_ ?_ (fun b H hS => ?_)
  · exact ⟨rfl, rfl, by decide⟩
  · omega
  refine r1 ?_
  have hadr2 : Adr (some ⟨b, 0, none⟩) l.length := fun _ => rfl
  refine jc_loop (fun x : TIx => [(0, .slice a l.length cap), (3, .slice (some ⟨b, 0, none⟩) l.length l.length), (4, .int .i64 x.k)]) (fun x => [x.H]) (fun x => x.k ≤ l.length ∧ Slc (some ⟨b, 0, none⟩) l.length (l.take x.k ++ List.replicate (l.length - x.k) 0) x.H) (fun x => l.length - x.k) ⟨0, H⟩ ⟨by simp, by simpa using hS⟩ ⟨rfl, rfl, rfl, trivial⟩ (fun w => St.sel (by repeat (first | exact .nil | apply Sel.cons (by repeat (first | exact .here | exact .e rfl | apply Rm.there))))) ?_
  rintro ⟨k, H⟩ ⟨hk, hS⟩
  dsimp only at hk hS ⊢
  by_cases h : k < l.length
  · obtain ⟨hc, hi⟩ := hl.int h
    refine r1 ?_
    refine j_storeEl (α := Int) hS (by rw [len_tk _ _ hk]; exact h) (c' := [.int .i64 l[k]]) (x' := l[k]) (Hn := []) ⟨rfl, rfl, hi⟩ (fun H' hS' => ?_)
    rw [set_tk l 0 h] at hS'
    refine r1 ?_
    exact jx_round ⟨k + 1, H'⟩ ⟨h, hS'⟩ (by show l.length - (k + 1) < l.length - k; omega) ⟨rfl, rfl, rfl, trivial⟩ (fun w => St.sel (by repeat (first | exact .nil | apply Sel.cons (by repeat (first | exact .here | exact .e rfl | apply Rm.there)))))
  · obtain rfl : k = l.length := by omega
    refine r1 ?_
    rw [List.take_length, Nat.sub_self, List.replicate_zero, List.append_nil] at hS
    exact jx_rm [H] ⟨_, _, _, rfl, hS, rfl⟩

theorem eqIntS_c (W : World) {a b : Option Addr} {cap cap2 : Nat} {l m : List Int} (hl : RdS W a cap l) (hm : RdS W b cap2 m) : CR Tryz.prog 51 [.slice a l.length cap, .slice b m.length cap2] W (Is (.bool (decide (l = m)))) := by
  have hlt := hl.lt
  have hadr := hl.adr
  have hadr2 := hm.adr
  refine calls_j Tryz.func51 rfl rfl rfl (r2 ?_ ?_)
  · intro h; exact ret_b (decide_eq_false fun e => h (by rw [e])).symm
  intro hlen
  have hlen : l.length = m.length := by omega
  refine jc_loop (fun k : Nat => [(0, .slice a l.length cap), (1, .slice b m.length cap2), (5, .int .i64 k)]) (fun _ => []) (fun k => k ≤ l.length ∧ l.take k = m.take k) (fun k => l.length - k) 0 ⟨by omega, rfl⟩ ⟨rfl, rfl, rfl, trivial⟩ (fun w => St.sel .nil) ?_
  rintro k ⟨hk, ht⟩
  by_cases h : k < l.length
  · have h2 : k < m.length := by omega
    obtain ⟨hc, hi⟩ := hl.int h
    obtain ⟨hc2, hi2⟩ := hm.int h2
    refine r2 ?_ ?_
    · intro e; exact ret_b (decide_eq_false (take_ne h h2 e)).symm
    · intro e; exact jx_round (k + 1) ⟨by omega, take_eq_succ h h2 ht e⟩ (by omega) ⟨rfl, rfl, rfl, trivial⟩ (fun w => St.sel .nil)
  · refine r1 ?_
    exact ret_b (decide_eq_true (take_eq_all hlen h ht)).symm

def wPart (x : DPart) : Int := wIntS x.signs
theorem wPart_pos (x : DPart) : 0 ≤ wPart x := by
  have p0 := wIntS_pos x.signs
  unfold wPart; omega
def wPartS (l : List DPart) : Int := wL wPart l
theorem wPartS_pos (l : List DPart) : 0 ≤ wPartS l := wL_pos wPart_pos l

theorem szPart_c (W : World) {c : List Value} {x : DPart} (h : Rd W c x) (left : Int) (h0 : 0 ≤ left ∧ left ≤ 1048576) : CR Tryz.prog 73 [.agg c.toArray, .int .i64 left] W (Is (.int .i64 (szF (wPart x) left))) := by
  obtain ⟨xa0, xc0, rfl, xh0, xh1, xh2⟩ := DPart.rd h
  have p0 := wIntS_pos x.signs
  have t0 := xh2.lt
  have d := wPart.eq_1 x
  refine calls_j Tryz.func73 rfl rfl rfl ?_
  have k0 := cw (W := W) fun w hw => szIntS_c w (xh2.st hw) left ⟨by omega, by omega⟩
  refine r1 ?_
  intros; have z := szF_no ‹(szF (wIntS x.signs) left) < 0› (by omega); exact ret_i (by rw [szF_out (by omega)])

theorem szPartS_c (W : World) {a : Option Addr} {cap : Nat} {l : List DPart} (hl : RdS W a cap l) (left : Int) (h0 : 0 ≤ left ∧ left ≤ 1048576) : CR Tryz.prog 26 [.slice a l.length cap, .int .i64 left] W (Is (.int .i64 (szF (wPartS l) left))) := by
  have hlt := hl.lt
  have hadr := hl.adr
  have hle := wL_len wPart_pos l
  have d := wPartS.eq_1 l
  refine calls_j Tryz.func26 rfl rfl rfl (r2 ?_ ?_)
  · intro h; exact ret_i (by rw [szF_out (by omega)])
  intro h1
  refine jc_loop (fun k : Nat => [(0, .slice a l.length cap), (1, .int .i64 (left - l.length - wT wPart l k)), (5, .int .i64 k)]) (fun _ => []) (fun k => k ≤ l.length ∧ 0 ≤ left - l.length - wT wPart l k) (fun k => l.length - k) 0 ⟨by omega, by rw [wT_zero]; omega⟩ ⟨rfl, by rw [wT_zero, Int.sub_zero]; rfl, rfl, trivial⟩ (fun w => St.sel .nil) ?_
  rintro k ⟨hk, ht⟩
  have hp := wT_pos wPart_pos l k
  by_cases h : k < l.length
  · obtain ⟨ya0, yc0, hc, yh0, yh1, yh2⟩ := hl.DPart h
    have hs := wT_succ wPart h
    have hle2 := wT_le wPart_pos l (k + 1)
    have k0 := cw (W := W) fun w hw => szPart_c w ((DPart.mk_rd yh0 yh1 yh2).st hw) (left - l.length - wT wPart l k) ⟨by omega, by omega⟩
    refine r2 ?_ ?_
    · intro h2; have z := szF_no h2 ht; exact ret_i (by rw [szF_out (by omega)])
    · intro h2; have z := szF_yes h2; rw [szF_in z]
      exact jx_round (k + 1) ⟨by omega, by omega⟩ (by omega) ⟨rfl, congrArg (fun z => some (Value.int .i64 z)) (show left - l.length - wT wPart l k - wPart l[k] = left - l.length - wT wPart l (k + 1) by omega), rfl, trivial⟩ (fun w => St.sel .nil)
  · have ha := wT_all wPart h
    refine r1 ?_
    exact ret_i (by rw [szF_in (by omega)]; omega)

theorem toPart_c (W : World) {c : List Value} {x : DPart} (h : Rd W c x) (hw : wPart x ≤ 1048576) : CR Tryz.prog 81 [.agg c.toArray] W (OwnR x) := by
  obtain ⟨xa0, xc0, rfl, xh0, xh1, xh2⟩ := DPart.rd h
  have p0 := wIntS_pos x.signs
  have d := wPart.eq_1 x
  have k2 := cw (W := W) fun w hw => toIntS_c w (xh2.st hw) (by omega)
  refine calls_j Tryz.func81 rfl rfl rfl (r1 ?_)
  intro b0 b1 b2 a2 c2 H2 s2
  exact jx_rmf [H2] [H2] ⟨_, _, rfl, DPart.re xh0 xh1 s2, rfl⟩

theorem toPartS_c (W : World) {a : Option Addr} {cap : Nat} {l : List DPart} (hl : RdS W a cap l) (hw : wPartS l ≤ 1048576) : CR Tryz.prog 39 [.slice a l.length cap] W (OwnS' l) := by
  have hlt := hl.lt
  have hadr := hl.adr
  have hw' : l.length ≤ 1048576 := by have := wL_len wPart_pos l; unfold wPartS at hw; omega
  refine calls_j Tryz.func39 rfl rfl rfl (r1 ?_)
  refine j_make (α := DPart) ⟨0, 0, []⟩ ?_ ?_ (fun b H hS => ?_)
  · exact DPart.re (x := ⟨0, 0, []⟩) (show I64 0 by decide) (show I64 0 by decide) .nil
  · omega
  refine r1 ?_
  have hadr2 : Adr (some ⟨b, 0, none⟩) l.length := fun _ => rfl
  refine jc_loop (fun x : TIx => [(0, .slice a l.length cap), (3, .slice (some ⟨b, 0, none⟩) l.length l.length), (4, .int .i64 x.k)]) (fun x => [x.H]) (fun x => x.k ≤ l.length ∧ Slc (some ⟨b, 0, none⟩) l.length (l.take x.k ++ List.replicate (l.length - x.k) ⟨0, 0, []⟩) x.H) (fun x => l.length - x.k) ⟨0, H⟩ ⟨by simp, by simpa using hS⟩ ⟨rfl, rfl, rfl, trivial⟩ (fun w => St.sel (by repeat (first | exact .nil | apply Sel.cons (by repeat (first | exact .here | exact .e rfl | apply Rm.there))))) ?_
  rintro ⟨k, H⟩ ⟨hk, hS⟩
  dsimp only at hk hS ⊢
  by_cases h : k < l.length
  · obtain ⟨ya0, yc0, hc, yh0, yh1, yh2⟩ := hl.DPart h
    have he := wL_el wPart_pos l h
    unfold wPartS at hw
    have k0 := cw (W := W) fun w hw => toPart_c w ((DPart.mk_rd yh0 yh1 yh2).st hw) (by omega)
    refine r1 ?_
    intro c2 H2 hx
    refine j_storeEl (α := DPart) hS (by rw [len_tk _ _ hk]; exact h) (c' := c2) (x' := l[k]) (Hn := H2) hx (fun H' hS' => ?_)
    rw [set_tk l _ h] at hS'
    refine r1 ?_
    exact jx_round ⟨k + 1, H'⟩ ⟨h, hS'⟩ (by show l.length - (k + 1) < l.length - k; omega) ⟨rfl, rfl, rfl, trivial⟩ (fun w => St.sel (by repeat (first | exact .nil | apply Sel.cons (by repeat (first | exact .here | exact .e rfl | apply Rm.there)))))
  · obtain rfl : k = l.length := by omega
    refine r1 ?_
    rw [List.take_length, Nat.sub_self, List.replicate_zero, List.append_nil] at hS
    exact jx_rm [H] ⟨_, _, _, rfl, hS, rfl⟩

theorem DPart.eqf (x y : DPart) : decide (x = y) = (decide (x.kind = y.kind) && decide (x.n = y.n) && decide (x.signs = y.signs)) := by
  cases x; cases y; simp [DPart.mk.injEq, Bool.and_assoc]
theorem eqPart_c (W : World) {c c2 : List Value} {x y : DPart} (h : Rd W c x) (h2 : Rd W c2 y) : CR Tryz.prog 93 [.agg c.toArray, .agg c2.toArray] W (Is (.bool (decide (x = y)))) := by
  obtain ⟨xa0, xc0, rfl, xh0, xh1, xh2⟩ := DPart.rd h
  obtain ⟨ya0, yc0, rfl, yh0, yh1, yh2⟩ := DPart.rd h2
  have d := DPart.eqf x y
  have k2 := cw (W := W) fun w hw => eqIntS_c w (xh2.st hw) (yh2.st hw)
  exact calls_j Tryz.func93 rfl rfl rfl r0

theorem eqPartS_c (W : World) {a b : Option Addr} {cap cap2 : Nat} {l m : List DPart} (hl : RdS W a cap l) (hm : RdS W b cap2 m) : CR Tryz.prog 50 [.slice a l.length cap, .slice b m.length cap2] W (Is (.bool (decide (l = m)))) := by
  have hlt := hl.lt
  have hadr := hl.adr
  have hadr2 := hm.adr
  refine calls_j Tryz.func50 rfl rfl rfl (r2 ?_ ?_)
  · intro h; exact ret_b (decide_eq_false fun e => h (by rw [e])).symm
  intro hlen
  have hlen : l.length = m.length := by omega
  refine jc_loop (fun k : Nat => [(0, .slice a l.length cap), (1, .slice b m.length cap2), (5, .int .i64 k)]) (fun _ => []) (fun k => k ≤ l.length ∧ l.take k = m.take k) (fun k => l.length - k) 0 ⟨by omega, rfl⟩ ⟨rfl, rfl, rfl, trivial⟩ (fun w => St.sel .nil) ?_
  rintro k ⟨hk, ht⟩
  by_cases h : k < l.length
  · have h2 : k < m.length := by omega
    obtain ⟨xa0, xc0, hcx, xh0, xh1, xh2⟩ := hl.DPart h
    obtain ⟨ya0, yc0, hcy, yh0, yh1, yh2⟩ := hm.DPart h2
    have k0 := cw (W := W) fun w hw => eqPart_c w ((DPart.mk_rd xh0 xh1 xh2).st hw) ((DPart.mk_rd yh0 yh1 yh2).st hw)
    refine r2 ?_ ?_
    · intro e; exact ret_b (decide_eq_false (take_ne h h2 (of_decide_eq_false e))).symm
    · intro e; exact jx_round (k + 1) ⟨by omega, take_eq_succ h h2 ht (of_decide_eq_true e)⟩ (by omega) ⟨rfl, rfl, rfl, trivial⟩ (fun w => St.sel .nil)
  · refine r1 ?_
    exact ret_b (decide_eq_true (take_eq_all hlen h ht)).symm

def wCall (x : DCall) : Int := (x.doc.size : Int) + wPartS x.o + wIntS x.text
theorem wCall_pos (x : DCall) : 0 ≤ wCall x := by
  have p1 := wPartS_pos x.o
  have p2 := wIntS_pos x.text
  unfold wCall; omega
def wCallS (l : List DCall) : Int := wL wCall l
theorem wCallS_pos (l : List DCall) : 0 ≤ wCallS l := wL_pos wCall_pos l

theorem szCall_c (W : World) {c : List Value} {x : DCall} (h : Rd W c x) (left : Int) (h0 : 0 ≤ left ∧ left ≤ 1048576) : CR Tryz.prog 7 [.agg c.toArray, .int .i64 left] W (Is (.int .i64 (szF (wCall x) left))) := by
  obtain ⟨xa0, xc0, xa1, xc1, rfl, xh0, xh1, xh2, xh3, xh4, xh5, xh6⟩ := DCall.rd h
  have p1 := wPartS_pos x.o
  have t1 := xh5.lt
  have p2 := wIntS_pos x.text
  have t2 := xh6.lt
  have d := wCall.eq_1 x
  refine calls_j Tryz.func7 rfl rfl rfl ?_
  refine r2 ?_ ?_
  · intros; exact ret_i (by rw [szF_out (by omega)])
  intros
  have k1 := cw (W := W) fun w hw => szPartS_c w (xh5.st hw) (left - (x.doc.size : Int)) ⟨by omega, by omega⟩
  refine r2 ?_ ?_
  · intros; have z := szF_no ‹(szF (wPartS x.o) (left - (x.doc.size : Int))) < 0› (by omega); exact ret_i (by rw [szF_out (by omega)])
  intros; have z1 := szF_yes ‹¬ (szF (wPartS x.o) (left - (x.doc.size : Int))) < 0›; rw [szF_in z1]
  have k2 := cw (W := W) fun w hw => szIntS_c w (xh6.st hw) ((left - (x.doc.size : Int)) - wPartS x.o) ⟨by omega, by omega⟩
  refine r2 ?_ ?_
  · intros; have z := szF_no ‹(szF (wIntS x.text) ((left - (x.doc.size : Int)) - wPartS x.o)) < 0› (by omega); exact ret_i (by rw [szF_out (by omega)])
  intros; have z2 := szF_yes ‹¬ (szF (wIntS x.text) ((left - (x.doc.size : Int)) - wPartS x.o)) < 0›; rw [szF_in z2]
  exact ret_i (by rw [szF_in (by omega)]; omega)

theorem toCall_c (W : World) {c : List Value} {x : DCall} (h : Rd W c x) (hw : wCall x ≤ 1048576) : CR Tryz.prog 9 [.agg c.toArray] W (OwnR x) := by
  obtain ⟨xa0, xc0, xa1, xc1, rfl, xh0, xh1, xh2, xh3, xh4, xh5, xh6⟩ := DCall.rd h
  have p1 := wPartS_pos x.o
  have p2 := wIntS_pos x.text
  have d := wCall.eq_1 x
  have k5 := cw (W := W) fun w hw => toPartS_c w (xh5.st hw) (by omega)
  have k6 := cw (W := W) fun w hw => toIntS_c w (xh6.st hw) (by omega)
  refine calls_j Tryz.func9 rfl rfl rfl (r1 ?_)
  intro b0 b1 b2 a5 c5 H5 s5 a6 c6 H6 s6
  exact jx_rmf [H5, H6] [H5 ++ H6] ⟨_, _, rfl, DCall.re xh0 xh1 xh2 xh3 xh4 s5 s6, rfl⟩

theorem DCall.eqf (x y : DCall) : decide (x = y) = (decide (x.kind = y.kind) && decide (x.doc = y.doc) && decide (x.client = y.client) && decide (x.seq = y.seq) && decide (x.n = y.n) && decide (x.o = y.o) && decide (x.text = y.text)) := by
  cases x; cases y; simp [DCall.mk.injEq, Bool.and_assoc]
theorem eqCall_c (W : World) {c c2 : List Value} {x y : DCall} (h : Rd W c x) (h2 : Rd W c2 y) : CR Tryz.prog 11 [.agg c.toArray, .agg c2.toArray] W (Is (.bool (decide (x = y)))) := by
  obtain ⟨xa0, xc0, xa1, xc1, rfl, xh0, xh1, xh2, xh3, xh4, xh5, xh6⟩ := DCall.rd h
  obtain ⟨ya0, yc0, ya1, yc1, rfl, yh0, yh1, yh2, yh3, yh4, yh5, yh6⟩ := DCall.rd h2
  have d := DCall.eqf x y
  have k5 := cw (W := W) fun w hw => eqPartS_c w (xh5.st hw) (yh5.st hw)
  have k6 := cw (W := W) fun w hw => eqIntS_c w (xh6.st hw) (yh6.st hw)
  exact calls_j Tryz.func11 rfl rfl rfl r0

def wEvent (x : DEvent) : Int := wPartS x.o
theorem wEvent_pos (x : DEvent) : 0 ≤ wEvent x := by
  have p0 := wPartS_pos x.o
  unfold wEvent; omega
def wEventS (l : List DEvent) : Int := wL wEvent l
theorem wEventS_pos (l : List DEvent) : 0 ≤ wEventS l := wL_pos wEvent_pos l

theorem DEvent.eqf (x y : DEvent) : decide (x = y) = (decide (x.kind = y.kind) && decide (x.who = y.who) && decide (x.n = y.n) && decide (x.o = y.o)) := by
  cases x; cases y; simp [DEvent.mk.injEq, Bool.and_assoc]
theorem eqEvent_c (W : World) {c c2 : List Value} {x y : DEvent} (h : Rd W c x) (h2 : Rd W c2 y) : CR Tryz.prog 14 [.agg c.toArray, .agg c2.toArray] W (Is (.bool (decide (x = y)))) := by
  obtain ⟨xa0, xc0, rfl, xh0, xh1, xh2, xh3⟩ := DEvent.rd h
  obtain ⟨ya0, yc0, rfl, yh0, yh1, yh2, yh3⟩ := DEvent.rd h2
  have d := DEvent.eqf x y
  have k3 := cw (W := W) fun w hw => eqPartS_c w (xh3.st hw) (yh3.st hw)
  exact calls_j Tryz.func14 rfl rfl rfl r0

end Go.Proofs.YtiobmbicldjikaaGreatDoor
