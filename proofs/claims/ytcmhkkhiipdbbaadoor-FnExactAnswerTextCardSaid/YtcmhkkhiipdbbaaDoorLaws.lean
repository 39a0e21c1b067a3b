/- The statements' own helpers: how great their arguments are, their copies, whether two are the same. Printed by program. No condition. -/
import Derived.Test.YtcmhkkhiipdbbaaDoorMake
set_option linter.unusedVariables false
namespace Go.Proofs.YtcmhkkhiipdbbaaDoor

def szF (w left : Int) : Int := if w ≤ left then left - w else -1
theorem szF_in {w left : Int} (h : w ≤ left) : szF w left = left - w := if_pos h
theorem szF_out {w left : Int} (h : ¬ w ≤ left) : szF w left = -1 := if_neg h
theorem szF_no {w left : Int} (h : szF w left < 0) (hl : 0 ≤ left) : left < w := by unfold szF at h; split at h <;> omega
theorem szF_yes {w left : Int} (h : ¬ szF w left < 0) : w ≤ left := by unfold szF at h; split at h <;> omega
def wIntS (l : List Int) : Int := l.length
theorem wIntS_pos (l : List Int) : 0 ≤ wIntS l := by unfold wIntS; omega
def wL {α : Type} (f : α → Int) (l : List α) : Int := l.length + (l.map f).sum
theorem sum_pos {α : Type} {f : α → Int} (hf : ∀ x, 0 ≤ f x) (l : List α) : 0 ≤ (l.map f).sum := by
  induction l with
  | nil => simp
  | cons x l ih => have := hf x; simp; omega
theorem wL_pos {α : Type} {f : α → Int} (hf : ∀ x, 0 ≤ f x) (l : List α) : 0 ≤ wL f l := by have := sum_pos hf l; unfold wL; omega
theorem wL_len {α : Type} {f : α → Int} (hf : ∀ x, 0 ≤ f x) (l : List α) : (l.length : Int) ≤ wL f l := by have := sum_pos hf l; unfold wL; omega
theorem wL_el {α : Type} {f : α → Int} (hf : ∀ x, 0 ≤ f x) : ∀ (l : List α) {i : Nat} (hi : i < l.length), f l[i] ≤ wL f l
  | [], i, hi => by simp at hi
  | x :: l, 0, _ => by have := sum_pos hf l; simp [wL]; omega
  | x :: l, i + 1, hi => by
    have h1 := wL_el hf l (i := i) (by simpa using hi)
    have := hf x
    simp [wL] at h1 ⊢
    omega
def wT {α : Type} (f : α → Int) (l : List α) (k : Nat) : Int := ((l.take k).map f).sum
theorem wT_zero {α : Type} (f : α → Int) (l : List α) : wT f l 0 = 0 := rfl
theorem wT_succ {α : Type} (f : α → Int) {l : List α} {k : Nat} (h : k < l.length) : wT f l (k + 1) = wT f l k + f l[k] := by
  unfold wT; rw [List.take_succ_eq_append_getElem h, List.map_append, List.sum_append]; simp
theorem wT_le {α : Type} {f : α → Int} (hf : ∀ x, 0 ≤ f x) (l : List α) (k : Nat) : (l.length : Int) + wT f l k ≤ wL f l := by
  have h : (l.map f).sum = ((l.take k).map f).sum + ((l.drop k).map f).sum := by rw [← List.sum_append, ← List.map_append, List.take_append_drop]
  have := sum_pos hf (l.drop k)
  unfold wL wT; omega
theorem wT_all {α : Type} (f : α → Int) {l : List α} {k : Nat} (h : ¬ k < l.length) : (l.length : Int) + wT f l k = wL f l := by
  unfold wL wT; rw [List.take_of_length_le (by omega)]
theorem wT_pos {α : Type} {f : α → Int} (hf : ∀ x, 0 ≤ f x) (l : List α) (k : Nat) : 0 ≤ wT f l k := sum_pos hf _
theorem ret_i {x y : Int} (h : x = y) : resV [Value.int .i64 x] = Value.int .i64 y := by rw [h]; rfl
theorem ret_b {x y : Bool} (h : x = y) : resV [Value.bool x] = Value.bool y := by rw [h]; rfl
theorem take_ne {α : Type} {a b : List α} {k : Nat} (ha : k < a.length) (hb : k < b.length) (h : a[k] ≠ b[k]) : a ≠ b := fun e => by subst e; exact h rfl
theorem take_eq_succ {α : Type} {a b : List α} {k : Nat} (ha : k < a.length) (hb : k < b.length) (ht : a.take k = b.take k) (h : a[k] = b[k]) : a.take (k + 1) = b.take (k + 1) := by
  rw [List.take_succ_eq_append_getElem ha, List.take_succ_eq_append_getElem hb, ht, h]
theorem take_eq_all {α : Type} {a b : List α} {k : Nat} (hl : a.length = b.length) (ha : ¬ k < a.length) (ht : a.take k = b.take k) : a = b := by
  rwa [List.take_of_length_le (by omega), List.take_of_length_le (by omega)] at ht

theorem szIntS_c (W : World) {a : Option Addr} {cap : Nat} {l : List Int} (hl : RdS W a cap l) (left : Int) (h0 : 0 ≤ left ∧ left ≤ 1048576) : CR Tryd.prog 34 [.slice a l.length cap, .int .i64 left] W (Is (.int .i64 (szF (wIntS l) left))) := by
  have hlt := hl.lt
  refine calls_j Tryd.func34 rfl rfl rfl (r2 ?_ ?_)
  · intro h; exact ret_i (by rw [szF_out (by unfold wIntS; omega)])
  · intro h; exact ret_i (by rw [szF_in (by unfold wIntS; omega)]; rfl)

theorem toIntS_c (W : World) {a : Option Addr} {cap : Nat} {l : List Int} (hl : RdS W a cap l) (hw : wIntS l ≤ 1048576) : CR Tryd.prog 38 [.slice a l.length cap] W (OwnS' l) := by
  have hlt := hl.lt
  have hadr := hl.adr
  have hw' : l.length ≤ 1048576 := by unfold wIntS at hw; omega
  refine calls_j Tryd.func38 rfl rfl rfl (r1 ?_)
  refine j_make (α := Int) 0 ?_ ?_ (fun b H hS => ?_)
  · exact ⟨rfl, rfl, by decide⟩
  · omega
  refine r1 ?_
  have hadr2 : Adr (some ⟨b, 0, none⟩) l.length := fun _ => rfl
  refine jc_loop (fun x : TIx => [(0, .slice a l.length cap), (3, .slice (some ⟨b, 0, none⟩) l.length l.length), (4, .int .i64 x.k)]) (fun x => [x.H]) (fun x => x.k ≤ l.length ∧ Slc (some ⟨b, 0, none⟩) l.length (l.take x.k ++ List.replicate (l.length - x.k) 0) x.H) (fun x => l.length - x.k) ⟨0, H⟩ ⟨by simp, by simpa using hS⟩ ⟨rfl, rfl, rfl, trivial⟩ (fun w => St.sel (by repeat (first | exact .nil | apply Sel.cons (by repeat (first | exact .here | exact .e rfl | apply Rm.there))))) ?_
  rintro ⟨k, H⟩ ⟨hk, hS⟩
  dsimp only at hk hS ⊢
  by_cases h : k < l.length
  · obtain ⟨hc, hi⟩ := hl.int h
    refine r1 ?_
    refine j_storeEl (α := Int) hS (by rw [len_tk _ _ hk]; exact h) (c' := [.int .i64 l[k]]) (x' := l[k]) (Hn := []) ⟨rfl, rfl, hi⟩ (fun H' hS' => ?_)
    rw [set_tk l 0 h] at hS'
    refine r1 ?_
    exact jx_round ⟨k + 1, H'⟩ ⟨h, hS'⟩ (by show l.length - (k + 1) < l.length - k; omega) ⟨rfl, rfl, rfl, trivial⟩ (fun w => St.sel (by repeat (first | exact .nil | apply Sel.cons (by repeat (first | exact .here | exact .e rfl | apply Rm.there)))))
  · obtain rfl : k = l.length := by omega
    refine r1 ?_
    rw [List.take_length, Nat.sub_self, List.replicate_zero, List.append_nil] at hS
    exact jx_rm [H] ⟨_, _, _, rfl, hS, rfl⟩

theorem eqIntS_c (W : World) {a b : Option Addr} {cap cap2 : Nat} {l m : List Int} (hl : RdS W a cap l) (hm : RdS W b cap2 m) : CR Tryd.prog 42 [.slice a l.length cap, .slice b m.length cap2] W (Is (.bool (decide (l = m)))) := by
  have hlt := hl.lt
  have hadr := hl.adr
  have hadr2 := hm.adr
  refine calls_j Tryd.func42 rfl rfl rfl (r2 ?_ ?_)
  · intro h; exact ret_b (decide_eq_false fun e => h (by rw [e])).symm
  intro hlen
  have hlen : l.length = m.length := by omega
  refine jc_loop (fun k : Nat => [(0, .slice a l.length cap), (1, .slice b m.length cap2), (5, .int .i64 k)]) (fun _ => []) (fun k => k ≤ l.length ∧ l.take k = m.take k) (fun k => l.length - k) 0 ⟨by omega, rfl⟩ ⟨rfl, rfl, rfl, trivial⟩ (fun w => St.sel .nil) ?_
  rintro k ⟨hk, ht⟩
  by_cases h : k < l.length
  · have h2 : k < m.length := by omega
    obtain ⟨hc, hi⟩ := hl.int h
    obtain ⟨hc2, hi2⟩ := hm.int h2
    refine r2 ?_ ?_
    · intro e; exact ret_b (decide_eq_false (take_ne h h2 e)).symm
    · intro e; exact jx_round (k + 1) ⟨by omega, take_eq_succ h h2 ht e⟩ (by omega) ⟨rfl, rfl, rfl, trivial⟩ (fun w => St.sel .nil)
  · refine r1 ?_
    exact ret_b (decide_eq_true (take_eq_all hlen h ht)).symm

def wPart (x : DPart) : Int := wIntS x.signs
theorem wPart_pos (x : DPart) : 0 ≤ wPart x := by
  have p0 := wIntS_pos x.signs
  unfold wPart; omega
def wPartS (l : List DPart) : Int := wL wPart l
theorem wPartS_pos (l : List DPart) : 0 ≤ wPartS l := wL_pos wPart_pos l

theorem szPart_c (W : World) {c : List Value} {x : DPart} (h : Rd W c x) (left : Int) (h0 : 0 ≤ left ∧ left ≤ 1048576) : CR Tryd.prog 44 [.agg c.toArray, .int .i64 left] W (Is (.int .i64 (szF (wPart x) left))) := by
  obtain ⟨xa0, xc0, rfl, xh0, xh1, xh2⟩ := DPart.rd h
  have p0 := wIntS_pos x.signs
  have t0 := xh2.lt
  have d := wPart.eq_1 x
  refine calls_j Tryd.func44 rfl rfl rfl ?_
  have k0 := cw (W := W) fun w hw => szIntS_c w (xh2.st hw) left ⟨by omega, by omega⟩
  refine r1 ?_
  intros; have z := szF_no ‹(szF (wIntS x.signs) left) < 0› (by omega); exact ret_i (by rw [szF_out (by omega)])

theorem szPartS_c (W : World) {a : Option Addr} {cap : Nat} {l : List DPart} (hl : RdS W a cap l) (left : Int) (h0 : 0 ≤ left ∧ left ≤ 1048576) : CR Tryd.prog 21 [.slice a l.length cap, .int .i64 left] W (Is (.int .i64 (szF (wPartS l) left))) := by
  have hlt := hl.lt
  have hadr := hl.adr
  have hle := wL_len wPart_pos l
  have d := wPartS.eq_1 l
  refine calls_j Tryd.func21 rfl rfl rfl (r2 ?_ ?_)
  · intro h; exact ret_i (by rw [szF_out (by omega)])
  intro h1
  refine jc_loop (fun k : Nat => [(0, .slice a l.length cap), (1, .int .i64 (left - l.length - wT wPart l k)), (5, .int .i64 k)]) (fun _ => []) (fun k => k ≤ l.length ∧ 0 ≤ left - l.length - wT wPart l k) (fun k => l.length - k) 0 ⟨by omega, by rw [wT_zero]; omega⟩ ⟨rfl, by rw [wT_zero, Int.sub_zero]; rfl, rfl, trivial⟩ (fun w => St.sel .nil) ?_
  rintro k ⟨hk, ht⟩
  have hp := wT_pos wPart_pos l k
  by_cases h : k < l.length
  · obtain ⟨ya0, yc0, hc, yh0, yh1, yh2⟩ := hl.DPart h
    have hs := wT_succ wPart h
    have hle2 := wT_le wPart_pos l (k + 1)
    have k0 := cw (W := W) fun w hw => szPart_c w ((DPart.mk_rd yh0 yh1 yh2).st hw) (left - l.length - wT wPart l k) ⟨by omega, by omega⟩
    refine r2 ?_ ?_
    · intro h2; have z := szF_no h2 ht; exact ret_i (by rw [szF_out (by omega)])
    · intro h2; have z := szF_yes h2; rw [szF_in z]
      exact jx_round (k + 1) ⟨by omega, by omega⟩ (by omega) ⟨rfl, congrArg (fun z => some (Value.int .i64 z)) (show left - l.length - wT wPart l k - wPart l[k] = left - l.length - wT wPart l (k + 1) by omega), rfl, trivial⟩ (fun w => St.sel .nil)
  · have ha := wT_all wPart h
    refine r1 ?_
    exact ret_i (by rw [szF_in (by omega)]; omega)

theorem toPart_c (W : World) {c : List Value} {x : DPart} (h : Rd W c x) (hw : wPart x ≤ 1048576) : CR Tryd.prog 46 [.agg c.toArray] W (OwnR x) := by
  obtain ⟨xa0, xc0, rfl, xh0, xh1, xh2⟩ := DPart.rd h
  have p0 := wIntS_pos x.signs
  have d := wPart.eq_1 x
  have k2 := cw (W := W) fun w hw => toIntS_c w (xh2.st hw) (by omega)
  refine calls_j Tryd.func46 rfl rfl rfl (r1 ?_)
  intro b0 b1 b2 a2 c2 H2 s2
  exact jx_rmf [H2] [H2] ⟨_, _, rfl, DPart.re xh0 xh1 s2, rfl⟩

theorem toPartS_c (W : World) {a : Option Addr} {cap : Nat} {l : List DPart} (hl : RdS W a cap l) (hw : wPartS l ≤ 1048576) : CR Tryd.prog 24 [.slice a l.length cap] W (OwnS' l) := by
  have hlt := hl.lt
  have hadr := hl.adr
  have hw' : l.length ≤ 1048576 := by have := wL_len wPart_pos l; unfold wPartS at hw; omega
  refine calls_j Tryd.func24 rfl rfl rfl (r1 ?_)
  refine j_make (α := DPart) ⟨0, 0, []⟩ ?_ ?_ (fun b H hS => ?_)
  · exact DPart.re (x := ⟨0, 0, []⟩) (show I64 0 by decide) (show I64 0 by decide) .nil
  · omega
  refine r1 ?_
  have hadr2 : Adr (some ⟨b, 0, none⟩) l.length := fun _ => rfl
  refine jc_loop (fun x : TIx => [(0, .slice a l.length cap), (3, .slice (some ⟨b, 0, none⟩) l.length l.length), (4, .int .i64 x.k)]) (fun x => [x.H]) (fun x => x.k ≤ l.length ∧ Slc (some ⟨b, 0, none⟩) l.length (l.take x.k ++ List.replicate (l.length - x.k) ⟨0, 0, []⟩) x.H) (fun x => l.length - x.k) ⟨0, H⟩ ⟨by simp, by simpa using hS⟩ ⟨rfl, rfl, rfl, trivial⟩ (fun w => St.sel (by repeat (first | exact .nil | apply Sel.cons (by repeat (first | exact .here | exact .e rfl | apply Rm.there))))) ?_
  rintro ⟨k, H⟩ ⟨hk, hS⟩
  dsimp only at hk hS ⊢
  by_cases h : k < l.length
  · obtain ⟨ya0, yc0, hc, yh0, yh1, yh2⟩ := hl.DPart h
    have he := wL_el wPart_pos l h
    unfold wPartS at hw
    have k0 := cw (W := W) fun w hw => toPart_c w ((DPart.mk_rd yh0 yh1 yh2).st hw) (by omega)
    refine r1 ?_
    intro c2 H2 hx
    refine j_storeEl (α := DPart) hS (by rw [len_tk _ _ hk]; exact h) (c' := c2) (x' := l[k]) (Hn := H2) hx (fun H' hS' => ?_)
    rw [set_tk l _ h] at hS'
    refine r1 ?_
    exact jx_round ⟨k + 1, H'⟩ ⟨h, hS'⟩ (by show l.length - (k + 1) < l.length - k; omega) ⟨rfl, rfl, rfl, trivial⟩ (fun w => St.sel (by repeat (first | exact .nil | apply Sel.cons (by repeat (first | exact .here | exact .e rfl | apply Rm.there)))))
  · obtain rfl : k = l.length := by omega
    refine r1 ?_
    rw [List.take_length, Nat.sub_self, List.replicate_zero, List.append_nil] at hS
    exact jx_rm [H] ⟨_, _, _, rfl, hS, rfl⟩

theorem DPart.eqf (x y : DPart) : decide (x = y) = (decide (x.kind = y.kind) && decide (x.n = y.n) && decide (x.signs = y.signs)) := by
  cases x; cases y; simp [DPart.mk.injEq, Bool.and_assoc]
theorem eqPart_c (W : World) {c c2 : List Value} {x y : DPart} (h : Rd W c x) (h2 : Rd W c2 y) : CR Tryd.prog 50 [.agg c.toArray, .agg c2.toArray] W (Is (.bool (decide (x = y)))) := by
  obtain ⟨xa0, xc0, rfl, xh0, xh1, xh2⟩ := DPart.rd h
  obtain ⟨ya0, yc0, rfl, yh0, yh1, yh2⟩ := DPart.rd h2
  have d := DPart.eqf x y
  have k2 := cw (W := W) fun w hw => eqIntS_c w (xh2.st hw) (yh2.st hw)
  exact calls_j Tryd.func50 rfl rfl rfl r0

theorem eqPartS_c (W : World) {a b : Option Addr} {cap cap2 : Nat} {l m : List DPart} (hl : RdS W a cap l) (hm : RdS W b cap2 m) : CR Tryd.prog 27 [.slice a l.length cap, .slice b m.length cap2] W (Is (.bool (decide (l = m)))) := by
  have hlt := hl.lt
  have hadr := hl.adr
  have hadr2 := hm.adr
  refine calls_j Tryd.func27 rfl rfl rfl (r2 ?_ ?_)
  · intro h; exact ret_b (decide_eq_false fun e => h (by rw [e])).symm
  intro hlen
  have hlen : l.length = m.length := by omega
  refine jc_loop (fun k : Nat => [(0, .slice a l.length cap), (1, .slice b m.length cap2), (5, .int .i64 k)]) (fun _ => []) (fun k => k ≤ l.length ∧ l.take k = m.take k) (fun k => l.length - k) 0 ⟨by omega, rfl⟩ ⟨rfl, rfl, rfl, trivial⟩ (fun w => St.sel .nil) ?_
  rintro k ⟨hk, ht⟩
  by_cases h : k < l.length
  · have h2 : k < m.length := by omega
    obtain ⟨xa0, xc0, hcx, xh0, xh1, xh2⟩ := hl.DPart h
    obtain ⟨ya0, yc0, hcy, yh0, yh1, yh2⟩ := hm.DPart h2
    have k0 := cw (W := W) fun w hw => eqPart_c w ((DPart.mk_rd xh0 xh1 xh2).st hw) ((DPart.mk_rd yh0 yh1 yh2).st hw)
    refine r2 ?_ ?_
    · intro e; exact ret_b (decide_eq_false (take_ne h h2 (of_decide_eq_false e))).symm
    · intro e; exact jx_round (k + 1) ⟨by omega, take_eq_succ h h2 ht (of_decide_eq_true e)⟩ (by omega) ⟨rfl, rfl, rfl, trivial⟩ (fun w => St.sel .nil)
  · refine r1 ?_
    exact ret_b (decide_eq_true (take_eq_all hlen h ht)).symm

def wEntry (x : DEntry) : Int := wPartS x.o
theorem wEntry_pos (x : DEntry) : 0 ≤ wEntry x := by
  have p0 := wPartS_pos x.o
  unfold wEntry; omega
def wEntryS (l : List DEntry) : Int := wL wEntry l
theorem wEntryS_pos (l : List DEntry) : 0 ≤ wEntryS l := wL_pos wEntry_pos l

theorem szEntry_c (W : World) {c : List Value} {x : DEntry} (h : Rd W c x) (left : Int) (h0 : 0 ≤ left ∧ left ≤ 1048576) : CR Tryd.prog 6 [.agg c.toArray, .int .i64 left] W (Is (.int .i64 (szF (wEntry x) left))) := by
  obtain ⟨xa0, xc0, rfl, xh0, xh1, xh2⟩ := DEntry.rd h
  have p0 := wPartS_pos x.o
  have t0 := xh2.lt
  have d := wEntry.eq_1 x
  refine calls_j Tryd.func6 rfl rfl rfl ?_
  have k0 := cw (W := W) fun w hw => szPartS_c w (xh2.st hw) left ⟨by omega, by omega⟩
  refine r1 ?_
  intros; have z := szF_no ‹(szF (wPartS x.o) left) < 0› (by omega); exact ret_i (by rw [szF_out (by omega)])

theorem szEntryS_c (W : World) {a : Option Addr} {cap : Nat} {l : List DEntry} (hl : RdS W a cap l) (left : Int) (h0 : 0 ≤ left ∧ left ≤ 1048576) : CR Tryd.prog 35 [.slice a l.length cap, .int .i64 left] W (Is (.int .i64 (szF (wEntryS l) left))) := by
  have hlt := hl.lt
  have hadr := hl.adr
  have hle := wL_len wEntry_pos l
  have d := wEntryS.eq_1 l
  refine calls_j Tryd.func35 rfl rfl rfl (r2 ?_ ?_)
  · intro h; exact ret_i (by rw [szF_out (by omega)])
  intro h1
  refine jc_loop (fun k : Nat => [(0, .slice a l.length cap), (1, .int .i64 (left - l.length - wT wEntry l k)), (5, .int .i64 k)]) (fun _ => []) (fun k => k ≤ l.length ∧ 0 ≤ left - l.length - wT wEntry l k) (fun k => l.length - k) 0 ⟨by omega, by rw [wT_zero]; omega⟩ ⟨rfl, by rw [wT_zero, Int.sub_zero]; rfl, rfl, trivial⟩ (fun w => St.sel .nil) ?_
  rintro k ⟨hk, ht⟩
  have hp := wT_pos wEntry_pos l k
  by_cases h : k < l.length
  · obtain ⟨ya0, yc0, hc, yh0, yh1, yh2⟩ := hl.DEntry h
    have hs := wT_succ wEntry h
    have hle2 := wT_le wEntry_pos l (k + 1)
    have k0 := cw (W := W) fun w hw => szEntry_c w ((DEntry.mk_rd yh0 yh1 yh2).st hw) (left - l.length - wT wEntry l k) ⟨by omega, by omega⟩
    refine r2 ?_ ?_
    · intro h2; have z := szF_no h2 ht; exact ret_i (by rw [szF_out (by omega)])
    · intro h2; have z := szF_yes h2; rw [szF_in z]
      exact jx_round (k + 1) ⟨by omega, by omega⟩ (by omega) ⟨rfl, congrArg (fun z => some (Value.int .i64 z)) (show left - l.length - wT wEntry l k - wEntry l[k] = left - l.length - wT wEntry l (k + 1) by omega), rfl, trivial⟩ (fun w => St.sel .nil)
  · have ha := wT_all wEntry h
    refine r1 ?_
    exact ret_i (by rw [szF_in (by omega)]; omega)

theorem toEntry_c (W : World) {c : List Value} {x : DEntry} (h : Rd W c x) (hw : wEntry x ≤ 1048576) : CR Tryd.prog 8 [.agg c.toArray] W (OwnR x) := by
  obtain ⟨xa0, xc0, rfl, xh0, xh1, xh2⟩ := DEntry.rd h
  have p0 := wPartS_pos x.o
  have d := wEntry.eq_1 x
  have k2 := cw (W := W) fun w hw => toPartS_c w (xh2.st hw) (by omega)
  refine calls_j Tryd.func8 rfl rfl rfl (r1 ?_)
  intro b0 b1 b2 a2 c2 H2 s2
  exact jx_rmf [H2] [H2] ⟨_, _, rfl, DEntry.re xh0 xh1 s2, rfl⟩

theorem toEntryS_c (W : World) {a : Option Addr} {cap : Nat} {l : List DEntry} (hl : RdS W a cap l) (hw : wEntryS l ≤ 1048576) : CR Tryd.prog 39 [.slice a l.length cap] W (OwnS' l) := by
  have hlt := hl.lt
  have hadr := hl.adr
  have hw' : l.length ≤ 1048576 := by have := wL_len wEntry_pos l; unfold wEntryS at hw; omega
  refine calls_j Tryd.func39 rfl rfl rfl (r1 ?_)
  refine j_make (α := DEntry) ⟨0, 0, []⟩ ?_ ?_ (fun b H hS => ?_)
  · exact DEntry.re (x := ⟨0, 0, []⟩) (show I64 0 by decide) (show I64 0 by decide) .nil
  · omega
  refine r1 ?_
  have hadr2 : Adr (some ⟨b, 0, none⟩) l.length := fun _ => rfl
  refine jc_loop (fun x : TIx => [(0, .slice a l.length cap), (3, .slice (some ⟨b, 0, none⟩) l.length l.length), (4, .int .i64 x.k)]) (fun x => [x.H]) (fun x => x.k ≤ l.length ∧ Slc (some ⟨b, 0, none⟩) l.length (l.take x.k ++ List.replicate (l.length - x.k) ⟨0, 0, []⟩) x.H) (fun x => l.length - x.k) ⟨0, H⟩ ⟨by simp, by simpa using hS⟩ ⟨rfl, rfl, rfl, trivial⟩ (fun w => St.sel (by repeat (first | exact .nil | apply Sel.cons (by repeat (first | exact .here | exact .e rfl | apply Rm.there))))) ?_
  rintro ⟨k, H⟩ ⟨hk, hS⟩
  dsimp only at hk hS ⊢
  by_cases h : k < l.length
  · obtain ⟨ya0, yc0, hc, yh0, yh1, yh2⟩ := hl.DEntry h
    have he := wL_el wEntry_pos l h
    unfold wEntryS at hw
    have k0 := cw (W := W) fun w hw => toEntry_c w ((DEntry.mk_rd yh0 yh1 yh2).st hw) (by omega)
    refine r1 ?_
    intro c2 H2 hx
    refine j_storeEl (α := DEntry) hS (by rw [len_tk _ _ hk]; exact h) (c' := c2) (x' := l[k]) (Hn := H2) hx (fun H' hS' => ?_)
    rw [set_tk l _ h] at hS'
    refine r1 ?_
    exact jx_round ⟨k + 1, H'⟩ ⟨h, hS'⟩ (by show l.length - (k + 1) < l.length - k; omega) ⟨rfl, rfl, rfl, trivial⟩ (fun w => St.sel (by repeat (first | exact .nil | apply Sel.cons (by repeat (first | exact .here | exact .e rfl | apply Rm.there)))))
  · obtain rfl : k = l.length := by omega
    refine r1 ?_
    rw [List.take_length, Nat.sub_self, List.replicate_zero, List.append_nil] at hS
    exact jx_rm [H] ⟨_, _, _, rfl, hS, rfl⟩

theorem DEntry.eqf (x y : DEntry) : decide (x = y) = (decide (x.client = y.client) && decide (x.seq = y.seq) && decide (x.o = y.o)) := by
  cases x; cases y; simp [DEntry.mk.injEq, Bool.and_assoc]
theorem eqEntry_c (W : World) {c c2 : List Value} {x y : DEntry} (h : Rd W c x) (h2 : Rd W c2 y) : CR Tryd.prog 10 [.agg c.toArray, .agg c2.toArray] W (Is (.bool (decide (x = y)))) := by
  obtain ⟨xa0, xc0, rfl, xh0, xh1, xh2⟩ := DEntry.rd h
  obtain ⟨ya0, yc0, rfl, yh0, yh1, yh2⟩ := DEntry.rd h2
  have d := DEntry.eqf x y
  have k2 := cw (W := W) fun w hw => eqPartS_c w (xh2.st hw) (yh2.st hw)
  exact calls_j Tryd.func10 rfl rfl rfl r0

theorem eqEntryS_c (W : World) {a b : Option Addr} {cap cap2 : Nat} {l m : List DEntry} (hl : RdS W a cap l) (hm : RdS W b cap2 m) : CR Tryd.prog 43 [.slice a l.length cap, .slice b m.length cap2] W (Is (.bool (decide (l = m)))) := by
  have hlt := hl.lt
  have hadr := hl.adr
  have hadr2 := hm.adr
  refine calls_j Tryd.func43 rfl rfl rfl (r2 ?_ ?_)
  · intro h; exact ret_b (decide_eq_false fun e => h (by rw [e])).symm
  intro hlen
  have hlen : l.length = m.length := by omega
  refine jc_loop (fun k : Nat => [(0, .slice a l.length cap), (1, .slice b m.length cap2), (5, .int .i64 k)]) (fun _ => []) (fun k => k ≤ l.length ∧ l.take k = m.take k) (fun k => l.length - k) 0 ⟨by omega, rfl⟩ ⟨rfl, rfl, rfl, trivial⟩ (fun w => St.sel .nil) ?_
  rintro k ⟨hk, ht⟩
  by_cases h : k < l.length
  · have h2 : k < m.length := by omega
    obtain ⟨xa0, xc0, hcx, xh0, xh1, xh2⟩ := hl.DEntry h
    obtain ⟨ya0, yc0, hcy, yh0, yh1, yh2⟩ := hm.DEntry h2
    have k0 := cw (W := W) fun w hw => eqEntry_c w ((DEntry.mk_rd xh0 xh1 xh2).st hw) ((DEntry.mk_rd yh0 yh1 yh2).st hw)
    refine r2 ?_ ?_
    · intro e; exact ret_b (decide_eq_false (take_ne h h2 (of_decide_eq_false e))).symm
    · intro e; exact jx_round (k + 1) ⟨by omega, take_eq_succ h h2 ht (of_decide_eq_true e)⟩ (by omega) ⟨rfl, rfl, rfl, trivial⟩ (fun w => St.sel .nil)
  · refine r1 ?_
    exact ret_b (decide_eq_true (take_eq_all hlen h ht)).symm

def wAnswer (x : DAnswer) : Int := wIntS x.text + wEntryS x.list
theorem wAnswer_pos (x : DAnswer) : 0 ≤ wAnswer x := by
  have p0 := wIntS_pos x.text
  have p1 := wEntryS_pos x.list
  unfold wAnswer; omega
def wAnswerS (l : List DAnswer) : Int := wL wAnswer l
theorem wAnswerS_pos (l : List DAnswer) : 0 ≤ wAnswerS l := wL_pos wAnswer_pos l

theorem szAnswer_c (W : World) {c : List Value} {x : DAnswer} (h : Rd W c x) (left : Int) (h0 : 0 ≤ left ∧ left ≤ 1048576) : CR Tryd.prog 16 [.agg c.toArray, .int .i64 left] W (Is (.int .i64 (szF (wAnswer x) left))) := by
  obtain ⟨xa0, xc0, xa1, xc1, rfl, xh0, xh1, xh2, xh3⟩ := DAnswer.rd h
  have p0 := wIntS_pos x.text
  have t0 := xh2.lt
  have p1 := wEntryS_pos x.list
  have t1 := xh3.lt
  have d := wAnswer.eq_1 x
  refine calls_j Tryd.func16 rfl rfl rfl ?_
  have k0 := cw (W := W) fun w hw => szIntS_c w (xh2.st hw) left ⟨by omega, by omega⟩
  refine r2 ?_ ?_
  · intros; have z := szF_no ‹(szF (wIntS x.text) left) < 0› (by omega); exact ret_i (by rw [szF_out (by omega)])
  intros; have z0 := szF_yes ‹¬ (szF (wIntS x.text) left) < 0›; rw [szF_in z0]
  have k1 := cw (W := W) fun w hw => szEntryS_c w (xh3.st hw) (left - wIntS x.text) ⟨by omega, by omega⟩
  refine r2 ?_ ?_
  · intros; have z := szF_no ‹(szF (wEntryS x.list) (left - wIntS x.text)) < 0› (by omega); exact ret_i (by rw [szF_out (by omega)])
  intros; have z1 := szF_yes ‹¬ (szF (wEntryS x.list) (left - wIntS x.text)) < 0›; rw [szF_in z1]
  exact ret_i (by rw [szF_in (by omega)]; omega)

theorem toAnswer_c (W : World) {c : List Value} {x : DAnswer} (h : Rd W c x) (hw : wAnswer x ≤ 1048576) : CR Tryd.prog 18 [.agg c.toArray] W (OwnR x) := by
  obtain ⟨xa0, xc0, xa1, xc1, rfl, xh0, xh1, xh2, xh3⟩ := DAnswer.rd h
  have p0 := wIntS_pos x.text
  have p1 := wEntryS_pos x.list
  have d := wAnswer.eq_1 x
  have k2 := cw (W := W) fun w hw => toIntS_c w (xh2.st hw) (by omega)
  have k3 := cw (W := W) fun w hw => toEntryS_c w (xh3.st hw) (by omega)
  refine calls_j Tryd.func18 rfl rfl rfl (r1 ?_)
  intro b0 b1 b2 a2 c2 H2 s2 a3 c3 H3 s3
  exact jx_rmf [H2, H3] [H2 ++ H3] ⟨_, _, rfl, DAnswer.re xh0 xh1 s2 s3, rfl⟩

theorem DAnswer.eqf (x y : DAnswer) : decide (x = y) = (decide (x.code = y.code) && decide (x.rev = y.rev) && decide (x.text = y.text) && decide (x.list = y.list)) := by
  cases x; cases y; simp [DAnswer.mk.injEq, Bool.and_assoc]
theorem eqAnswer_c (W : World) {c c2 : List Value} {x y : DAnswer} (h : Rd W c x) (h2 : Rd W c2 y) : CR Tryd.prog 20 [.agg c.toArray, .agg c2.toArray] W (Is (.bool (decide (x = y)))) := by
  obtain ⟨xa0, xc0, xa1, xc1, rfl, xh0, xh1, xh2, xh3⟩ := DAnswer.rd h
  obtain ⟨ya0, yc0, ya1, yc1, rfl, yh0, yh1, yh2, yh3⟩ := DAnswer.rd h2
  have d := DAnswer.eqf x y
  have k2 := cw (W := W) fun w hw => eqIntS_c w (xh2.st hw) (yh2.st hw)
  have k3 := cw (W := W) fun w hw => eqEntryS_c w (xh3.st hw) (yh3.st hw)
  exact calls_j Tryd.func20 rfl rfl rfl r0

def wEvent (x : DEvent) : Int := wPartS x.o
theorem wEvent_pos (x : DEvent) : 0 ≤ wEvent x := by
  have p0 := wPartS_pos x.o
  unfold wEvent; omega
def wEventS (l : List DEvent) : Int := wL wEvent l
theorem wEventS_pos (l : List DEvent) : 0 ≤ wEventS l := wL_pos wEvent_pos l

theorem szEvent_c (W : World) {c : List Value} {x : DEvent} (h : Rd W c x) (left : Int) (h0 : 0 ≤ left ∧ left ≤ 1048576) : CR Tryd.prog 11 [.agg c.toArray, .int .i64 left] W (Is (.int .i64 (szF (wEvent x) left))) := by
  obtain ⟨xa0, xc0, rfl, xh0, xh1, xh2, xh3⟩ := DEvent.rd h
  have p0 := wPartS_pos x.o
  have t0 := xh3.lt
  have d := wEvent.eq_1 x
  refine calls_j Tryd.func11 rfl rfl rfl ?_
  have k0 := cw (W := W) fun w hw => szPartS_c w (xh3.st hw) left ⟨by omega, by omega⟩
  refine r1 ?_
  intros; have z := szF_no ‹(szF (wPartS x.o) left) < 0› (by omega); exact ret_i (by rw [szF_out (by omega)])

theorem toEvent_c (W : World) {c : List Value} {x : DEvent} (h : Rd W c x) (hw : wEvent x ≤ 1048576) : CR Tryd.prog 13 [.agg c.toArray] W (OwnR x) := by
  obtain ⟨xa0, xc0, rfl, xh0, xh1, xh2, xh3⟩ := DEvent.rd h
  have p0 := wPartS_pos x.o
  have d := wEvent.eq_1 x
  have k3 := cw (W := W) fun w hw => toPartS_c w (xh3.st hw) (by omega)
  refine calls_j Tryd.func13 rfl rfl rfl (r1 ?_)
  intro b0 b1 b2 a3 c3 H3 s3
  exact jx_rmf [H3] [H3] ⟨_, _, rfl, DEvent.re xh0 xh1 xh2 s3, rfl⟩

theorem DEvent.eqf (x y : DEvent) : decide (x = y) = (decide (x.kind = y.kind) && decide (x.who = y.who) && decide (x.n = y.n) && decide (x.o = y.o)) := by
  cases x; cases y; simp [DEvent.mk.injEq, Bool.and_assoc]
theorem eqEvent_c (W : World) {c c2 : List Value} {x y : DEvent} (h : Rd W c x) (h2 : Rd W c2 y) : CR Tryd.prog 15 [.agg c.toArray, .agg c2.toArray] W (Is (.bool (decide (x = y)))) := by
  obtain ⟨xa0, xc0, rfl, xh0, xh1, xh2, xh3⟩ := DEvent.rd h
  obtain ⟨ya0, yc0, rfl, yh0, yh1, yh2, yh3⟩ := DEvent.rd h2
  have d := DEvent.eqf x y
  have k3 := cw (W := W) fun w hw => eqPartS_c w (xh3.st hw) (yh3.st hw)
  exact calls_j Tryd.func15 rfl rfl rfl r0

end Go.Proofs.YtcmhkkhiipdbbaaDoor
