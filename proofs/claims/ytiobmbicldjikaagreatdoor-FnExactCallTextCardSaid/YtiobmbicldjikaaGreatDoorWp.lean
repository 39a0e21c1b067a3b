/- Rules that carry a goal over a function's code: what the frame's slots hold is a list ('Env'), what memory holds is a list of pieces. No condition. -/
import Derived.Test.YtiobmbicldjikaaGreatDoorBase
set_option linter.unusedVariables false
namespace Go.Proofs.YtiobmbicldjikaaGreatDoor
open Go.RowKit (Below)

/-! ### What is known of a frame -/
abbrev Env := List (Nat × Value)
def Env.get : Env → Nat → Option Value
  | [], _ => none
  | (d, v) :: e, t => match Nat.beq d t with
    | true => some v
    | false => Env.get e t
def Env.ev (e : Env) : Operand → Option Value
  | .tmp t => e.get t
  | .const v => some v
  | .global g => some (.pointer (some ⟨g, 0, none⟩))
  | .func f => some (.func (.func f) #[] #[])
/-- The slots of 'a' (their number is 'n') hold what 'e' says. -/
structure Agree (n : Nat) (e : Env) (a : Act) : Prop where
  size : a.tmps.size = n
  defers : a.defers = []
  get : ∀ t v, e.get t = some v → a.tmps[t]? = some v
theorem Agree.ev {n : Nat} {e : Env} {a : Act} (h : Agree n e a) {x : Operand} {v : Value} (hx : e.ev x = some v) : a.eval x = v := by
  cases x with
  | tmp t => have := h.get t v hx; simp [Act.eval, this]
  | const u => exact Option.some.inj hx
  | global g => exact Option.some.inj hx
  | func f => exact Option.some.inj hx
theorem Agree.put {n : Nat} {e : Env} {a : Act} (h : Agree n e a) {d : Nat} (hd : d < n) (v : Value) : Agree n ((d, v) :: e) (a.put (some d) v) := by
  refine ⟨by simp [Act.put, h.size], by simp [Act.put, h.defers], fun t u hu => ?_⟩
  simp only [Env.get] at hu
  simp only [Act.put, Array.getElem?_setIfInBounds]
  cases hb : Nat.beq d t with
  | true =>
    rw [hb] at hu
    have := Nat.eq_of_beq_eq_true hb
    subst this
    simp [h.size, hd, Option.some.inj hu]
  | false =>
    rw [hb] at hu
    have := Nat.ne_of_beq_eq_false hb
    rw [if_neg (by simpa using this)]
    exact h.get t u hu
theorem Agree.put0 {n : Nat} {e : Env} {a : Act} (h : Agree n e a) (v : Value) : Agree n e (a.put none v) := h
/-- All that 'e'' says, 'e' says. -/
def Sub : Env → Env → Prop
  | [], _ => True
  | (d, v) :: e', e => e.get d = some v ∧ Sub e' e
theorem Sub.get : ∀ {e' e : Env}, Sub e' e → ∀ t v, e'.get t = some v → e.get t = some v
  | [], _, _, t, v, h => by simp [Env.get] at h
  | (d, u) :: e', e, hs, t, v, h => by
    simp only [Env.get] at h
    cases hb : Nat.beq d t with
    | true => rw [hb] at h; have := Nat.eq_of_beq_eq_true hb; subst this; rw [← h]; exact hs.1
    | false => rw [hb] at h; exact Sub.get hs.2 t v h
theorem Agree.sub {n : Nat} {e e' : Env} {a : Act} (h : Agree n e a) (hs : Sub e' e) : Agree n e' a := ⟨h.size, h.defers, fun t v ht => h.get t v (hs.get t v ht)⟩

/-! ### Finding a piece, cutting it, storing into it -/
inductive InL (c : Hp) : List Hp → Prop
  | here {L} : InL c (c :: L)
  | there {d L} : InL c L → InL c (d :: L)
theorem InL.mem {c : Hp} {L : List Hp} (h : InL c L) : c ∈ L := by
  induction h with
  | here => exact List.mem_cons_self
  | there _ ih => exact List.mem_cons_of_mem _ ih
/-- 'L'' is 'L' with 'c'' in the place of 'c'. -/
inductive Ch (c c' : Hp) : List Hp → List Hp → Prop
  | here {L} : Ch c c' (c :: L) (c' :: L)
  | there {d L L'} : Ch c c' L L' → Ch c c' (d :: L) (d :: L')
theorem Ch.perms {c c' : Hp} {L L' : List Hp} (h : Ch c c' L L') : ∃ R : Hp, L.flatten.Perm (c ++ R) ∧ L'.flatten.Perm (c' ++ R) := by
  induction h with
  | @here L => exact ⟨L.flatten, by simp, by simp⟩
  | @there d L L' _ ih =>
    obtain ⟨R, h1, h2⟩ := ih
    refine ⟨d ++ R, ?_, ?_⟩
    · simp only [List.flatten_cons]
      exact ((List.Perm.refl d).append h1).trans (by rw [← List.append_assoc, ← List.append_assoc]; exact List.perm_append_comm.append_right R)
    · simp only [List.flatten_cons]
      exact ((List.Perm.refl d).append h2).trans (by rw [← List.append_assoc, ← List.append_assoc]; exact List.perm_append_comm.append_right R)
/-- 'L'' is 'L' without one 'c'. -/
inductive Rm (c : Hp) : List Hp → List Hp → Prop
  | here {L} : Rm c (c :: L) L
  | there {d L L'} : Rm c L L' → Rm c (d :: L) (d :: L')
  | e {L} (h : c = []) : Rm c L L
theorem Rm.perm {c : Hp} {L L' : List Hp} (h : Rm c L L') : L.flatten.Perm (c ++ L'.flatten) := by
  induction h with
  | here => simp
  | e h => subst h; simp
  | @there d L L' _ ih =>
    simp only [List.flatten_cons]
    exact ((List.Perm.refl d).append ih).trans (by rw [← List.append_assoc, ← List.append_assoc]; exact List.perm_append_comm.append_right _)
theorem St.rm {W w : World} {c : Hp} {L L' : List Hp} (h : St W w L) (hr : Rm c L L') : St W w (c :: L') := h.perm (by simpa using hr.perm)
theorem St.ch {W w : World} {c c' : Hp} {L L' : List Hp} (h : St W w L) (hr : Ch c c' L L') (hc : ∀ R : Hp, (c ++ R).Perm (c' ++ R)) : St W w L' := by
  obtain ⟨R, h1, h2⟩ := hr.perms
  exact h.perm (h1.trans ((hc R).trans h2.symm))
/-- 'n' values of a list, from place 'k' on. -/
inductive Tk : Nat → Nat → List Value → List Value → Prop
  | skip {k n v vs cs} : Tk k n vs cs → Tk (k + 1) n (v :: vs) cs
  | take {n v vs cs} : Tk 0 n vs cs → Tk 0 (n + 1) (v :: vs) (v :: cs)
  | done {vs} : Tk 0 0 vs []
theorem Tk.spec {k n : Nat} {vs cs : List Value} (h : Tk k n vs cs) : cs.length = n ∧ ∀ i v, cs[i]? = some v → vs[k + i]? = some v := by
  induction h with
  | skip _ ih => exact ⟨ih.1, fun i v hv => by have := ih.2 i v hv; rw [show ∀ k, k + 1 + i = (k + i) + 1 from fun k => by omega]; simpa using this⟩
  | take _ ih =>
    refine ⟨by simp [ih.1], fun i v hv => ?_⟩
    cases i with
    | zero => simpa using hv
    | succ i => have := ih.2 i v (by simpa using hv); simpa using this
  | done => simp
/-- 'ns' written over a list from place 'k' on. -/
inductive Rp : Nat → List Value → List Value → List Value → Prop
  | skip {k ns v vs us} : Rp k ns vs us → Rp (k + 1) ns (v :: vs) (v :: us)
  | put {n ns v vs us} : Rp 0 ns vs us → Rp 0 (n :: ns) (v :: vs) (n :: us)
  | done {vs} : Rp 0 [] vs vs
theorem Rp.spec {k : Nat} {ns vs us : List Value} (h : Rp k ns vs us) : ∃ old pre post, vs = pre ++ old ++ post ∧ us = pre ++ ns ++ post ∧ pre.length = k ∧ old.length = ns.length := by
  induction h with
  | @skip k ns v vs us _ ih => obtain ⟨old, pre, post, h1, h2, h3, h4⟩ := ih; exact ⟨old, v :: pre, post, by simp [h1], by simp [h2], by simp [h3], h4⟩
  | @put n ns v vs us _ ih =>
    obtain ⟨old, pre, post, h1, h2, h3, h4⟩ := ih
    obtain rfl := List.eq_nil_of_length_eq_zero h3
    exact ⟨v :: old, [], post, by simp [h1], by simp [h2], rfl, by simp [h4]⟩
  | @done vs => exact ⟨[], [], vs, by simp, by simp, rfl, rfl⟩

theorem run_storeCells_sat {P : Program} {B b : Nat} {R : Hp} : ∀ (ns old : List Value) (w : World) (o i : Nat) (pre post : List Value), (∀ v ∈ ns, v.oneCell' = true) → old.length = ns.length → pre.length = i →
    Sat B w (cellsAt b o (pre ++ old ++ post) ++ R) →
    ∀ (j : Nat) (a : Addr), a.add j = ⟨b, o + i, none⟩ → (∀ m, a.add (j + m) = ⟨b, o + i + m, none⟩) →
    ∃ w', (storeCells a ns j).run P w = .ok () w' ∧ Sat B w' (cellsAt b o (pre ++ ns ++ post) ++ R) ∧ w'.heap.size = w.heap.size ∧ Below b w w'
  | [], old, w, o, i, pre, post, _, hl, _, hs, j, a, _, _ => by
    obtain rfl := List.eq_nil_of_length_eq_zero (by simpa using hl)
    exact ⟨w, by simp [storeCells], hs, rfl, Below.refl _ _⟩
  | v :: ns, [], w, o, i, pre, post, _, hl, _, hs, j, a, _, _ => by simp at hl
  | v :: ns, u :: old, w, o, i, pre, post, h1, hl, hi, hs, j, a, ha, hm => by
    have hlen : i < (pre ++ (u :: old) ++ post).length := by simp; omega
    have hs' := hs.set hlen v
    have hset : (pre ++ (u :: old) ++ post).set i v = (pre ++ [v]) ++ old ++ post := by
      rw [List.append_assoc, List.set_append_right _ _ (by omega)]
      simp [hi]
    rw [hset] at hs'
    obtain ⟨w', hr, hs2, hz, hb⟩ := run_storeCells_sat ns old (w.setCell ⟨b, o + i, none⟩ v) o (i + 1) (pre ++ [v]) post (fun x hx => h1 x (List.mem_cons_of_mem _ hx)) (by simpa using hl) (by simp [hi]) hs' (j + 1) a
      (by have := hm 1; rw [this]; rfl) (fun m => by have := hm (1 + m); rw [show j + 1 + m = j + (1 + m) from by omega, this]; simp; try omega)
    refine ⟨w', ?_, by simpa using hs2, by simpa using hz, ?_⟩
    · have hv := h1 v List.mem_cons_self
      have hold : ∃ x, w.cell? ⟨b, o + i, none⟩ = some x := ⟨_, hs.holds (b, o + i) ((pre ++ (u :: old) ++ post)[i]) (List.mem_append_left _ (mem_cellsAt.2 ⟨i, by simp only [List.getElem?_eq_getElem hlen], rfl⟩))⟩
      obtain ⟨x, hx⟩ := hold
      have hfz := hs.free (b, o + i) ((pre ++ (u :: old) ++ post)[i]) (List.mem_append_left _ (mem_cellsAt.2 ⟨i, by simp only [List.getElem?_eq_getElem hlen], rfl⟩))
      simp only [storeCells, Sem.run_bind, ha]
      rw [run_store P w _ v .plain hv]
      simp only [hx, hfz]
      simpa using hr
    · refine Below.trans ?_ hb
      exact (Below.refl _ _).setCell (p := ⟨b, o + i, none⟩) (Nat.le_refl _) v

theorem eq_t {i j : Int} (h : i = j) : (i == j) = true := by simpa using h
theorem eq_f {i j : Int} (h : i ≠ j) : (i == j) = false := by simpa using h
theorem ne_t {i j : Int} (h : i ≠ j) : (i != j) = true := by simpa using h
theorem ne_f {i j : Int} (h : i = j) : (i != j) = false := by simpa using h
theorem not_t {b : Bool} (h : b = false) : (!b) = true := by simp [h]
theorem not_f {b : Bool} (h : b = true) : (!b) = false := by simp [h]

/-! ### The goals -/
/-- Whatever frame agrees with 'e' and whatever world holds 'L' beside 'W': the rest of the region does what 'Q' asks. -/
structure J (P : Program) (ops : Array Oper) (Q : Exit → Act → World → Prop) (W : World) (n : Nat) (rest : List Oper) (e : Env) (L : List Hp) : Prop where
  run : ∀ a w, Agree n e a → St W w L → wpList P ops Q rest a w
structure JC (P : Program) (c : Code) (Q : Exit → Act → World → Prop) (W : World) (n : Nat) (e : Env) (L : List Hp) : Prop where
  run : ∀ a w, Agree n e a → St W w L → c.wp P Q a w
structure JX (Q : Exit → Act → World → Prop) (x : Exit) (W : World) (n : Nat) (e : Env) (L : List Hp) : Prop where
  run : ∀ a w, Agree n e a → St W w L → Q x a w

section
variable {P : Program} {ops : Array Oper} {Q : Exit → Act → World → Prop} {W : World} {n : Nat} {rest : List Oper} {e : Env} {L : List Hp}

theorem JC.perm {c : Code} {L' : List Hp} (h : JC P c Q W n e L') (hp : ∀ w, St W w L → St W w L') : JC P c Q W n e L := ⟨fun a w ha hs => h.run a w ha (hp w hs)⟩
theorem JC.sub {c : Code} {e' : Env} (h : JC P c Q W n e' L) (hs : Sub e' e) : JC P c Q W n e L := ⟨fun a w ha hw => h.run a w (ha.sub hs) hw⟩
theorem J.perm {L' : List Hp} (h : J P ops Q W n rest e L') (hp : ∀ w, St W w L → St W w L') : J P ops Q W n rest e L := ⟨fun a w ha hs => h.run a w ha (hp w hs)⟩
theorem J.sub {e' : Env} (h : J P ops Q W n rest e' L) (hs : Sub e' e) : J P ops Q W n rest e L := ⟨fun a w ha hw => h.run a w (ha.sub hs) hw⟩
theorem JX.perm {x : Exit} {L' : List Hp} (h : JX Q x W n e L') (hp : ∀ w, St W w L → St W w L') : JX Q x W n e L := ⟨fun a w ha hs => h.run a w ha (hp w hs)⟩

theorem jc_seq {x y : Code} (h : JC P x (Exit.then (y.wp P Q) Q) W n e L) : JC P (.seq x y) Q W n e L := ⟨fun a w ha hs => wp_seq (h.run a w ha hs)⟩
theorem jc_skip (h : JX Q .normal W n e L) : JC P .skip Q W n e L := ⟨fun a w ha hs => wp_skip (h.run a w ha hs)⟩
theorem jc_ret (h : JX Q .ret W n e L) : JC P .ret Q W n e L := ⟨fun a w ha hs => wp_ret (h.run a w ha hs)⟩
theorem jc_exit {i : Nat} (h : JX Q (.exit i) W n e L) : JC P (.exit i) Q W n e L := ⟨fun a w ha hs => wp_exit (h.run a w ha hs)⟩
theorem jc_block {i : Nat} {c : Code} (h : JC P c (Exit.inBlock i Q) W n e L) : JC P (.block i c) Q W n e L := ⟨fun a w ha hs => wp_block (h.run a w ha hs)⟩
theorem jc_region {i : Nat} {l : List Oper} (h : J P l.toArray Q W n l e L) : JC P (.region i l.toArray false) Q W n e L := ⟨fun a w ha hs => wp_region_lit (h.run a w ha hs)⟩
theorem jc_cond {c : Operand} {x y : Code} {t : Bool} (ht : t = true → JC P x Q W n e L) (hf : t = false → JC P y Q W n e L) (hc : e.ev c = some (.bool t) := by rfl) : JC P (.cond c x y) Q W n e L :=
  ⟨fun a w ha hs => wp_cond_split (ha.ev hc) (fun h => (ht h).run a w ha hs) (fun h => (hf h).run a w ha hs)⟩
theorem jc_true {c : Operand} {x y : Code} {t : Bool} (h : JC P x Q W n e L) (hc : e.ev c = some (.bool t) := by rfl) (ht : t = true := by first | rfl | assumption | exact decide_eq_true (by first | assumption | omega | fail) | exact eq_t (by first | assumption | omega | fail) | exact ne_t (by first | assumption | omega | fail) | exact not_t (by assumption) | fail) : JC P (.cond c x y) Q W n e L :=
  ⟨fun a w ha hs => wp_cond_true (ht ▸ ha.ev hc) (h.run a w ha hs)⟩
theorem jc_false {c : Operand} {x y : Code} {t : Bool} (h : JC P y Q W n e L) (hc : e.ev c = some (.bool t) := by rfl) (hf : t = false := by first | rfl | assumption | exact decide_eq_false (by first | assumption | omega | fail) | exact eq_f (by first | assumption | omega | fail) | exact ne_f (by first | assumption | omega | fail) | exact not_f (by assumption) | fail) : JC P (.cond c x y) Q W n e L :=
  ⟨fun a w ha hs => wp_cond_false (hf ▸ ha.ev hc) (h.run a w ha hs)⟩

theorem jc_dec {c : Operand} {x y : Code} {p : Prop} [Decidable p] (ht : p → JC P x Q W n e L) (hf : ¬ p → JC P y Q W n e L) (hc : e.ev c = some (.bool (decide p)) := by rfl) : JC P (.cond c x y) Q W n e L :=
  jc_cond (fun h => ht (of_decide_eq_true h)) (fun h => hf (of_decide_eq_false h)) hc
theorem jc_eq {c : Operand} {x y : Code} {i j : Int} (ht : i = j → JC P x Q W n e L) (hf : i ≠ j → JC P y Q W n e L) (hc : e.ev c = some (.bool (i == j)) := by rfl) : JC P (.cond c x y) Q W n e L :=
  jc_cond (fun h => ht (by simpa using h)) (fun h => hf (by simpa using h)) hc
theorem jc_ne {c : Operand} {x y : Code} {i j : Int} (ht : i ≠ j → JC P x Q W n e L) (hf : i = j → JC P y Q W n e L) (hc : e.ev c = some (.bool (i != j)) := by rfl) : JC P (.cond c x y) Q W n e L :=
  jc_cond (fun h => ht (by simpa using h)) (fun h => hf (by simpa using h)) hc
theorem jc_not {c : Operand} {x y : Code} {b : Bool} (ht : b = false → JC P x Q W n e L) (hf : b = true → JC P y Q W n e L) (hc : e.ev c = some (.bool (!b)) := by rfl) : JC P (.cond c x y) Q W n e L :=
  jc_cond (fun h => ht (by simpa using h)) (fun h => hf (by simpa using h)) hc

theorem j_nil (h : JX Q .normal W n e L) : J P ops Q W n [] e L := ⟨fun a w ha hs => wpList_nil (h.run a w ha hs)⟩
theorem jx_then {y : Code} {Q' : Exit → Act → World → Prop} (h : JC P y Q W n e L) : JX (Exit.then (y.wp P Q) Q') .normal W n e L := ⟨h.run⟩
theorem jx_then_ret {K : Act → World → Prop} (h : JX Q .ret W n e L) : JX (Exit.then K Q) .ret W n e L := ⟨h.run⟩
theorem jx_then_exit {K : Act → World → Prop} {i : Nat} (h : JX Q (.exit i) W n e L) : JX (Exit.then K Q) (.exit i) W n e L := ⟨h.run⟩
theorem jx_block {i : Nat} (h : JX Q .normal W n e L) : JX (Exit.inBlock i Q) .normal W n e L := ⟨h.run⟩
theorem jx_block_ret {i : Nat} (h : JX Q .ret W n e L) : JX (Exit.inBlock i Q) .ret W n e L := ⟨h.run⟩
theorem jx_block_here {i : Nat} (h : JX Q .normal W n e L) : JX (Exit.inBlock i Q) (.exit i) W n e L := ⟨fun a w ha hs => by
  have := h.run a w ha hs
  simpa [Exit.inBlock] using this⟩
theorem jx_block_past {i j : Nat} (h : JX Q (.exit j) W n e L) (hij : Nat.beq j i = false := by rfl) : JX (Exit.inBlock i Q) (.exit j) W n e L := ⟨fun a w ha hs => by
  have := h.run a w ha hs
  have hne := Nat.ne_of_beq_eq_false hij
  simpa [Exit.inBlock, hne] using this⟩

/-- What a round of a loop hands on. -/
def Round {ι : Type} (n : Nat) (W : World) (E : ι → Env) (M : ι → List Hp) (I : ι → Prop) (μ : ι → Nat) (x : ι) (a' : Act) (w' : World) : Prop := ∃ x', I x' ∧ μ x' < μ x ∧ Agree n (E x') a' ∧ St W w' (M x')
/-- A loop: the rounds' heads are of a family (its index 'x' says how far one is). -/
theorem jc_loop {c : Code} {ι : Type} (E : ι → Env) (M : ι → List Hp) (I : ι → Prop) (μ : ι → Nat) (x₀ : ι) (h₀ : I x₀) (hE : Sub (E x₀) e) (hM : ∀ w, St W w L → St W w (M x₀))
    (round : ∀ x, I x → JC P c (Exit.then (Round n W E M I μ x) Q) W n (E x) (M x)) : JC P (.loop c) Q W n e L := by
  refine ⟨fun a w ha hs => ?_⟩
  refine wp_loop_ghost (fun m a w => ∃ x, I x ∧ μ x = m ∧ Agree n (E x) a ∧ St W w (M x)) (μ x₀) ⟨x₀, h₀, rfl, ha.sub hE, hM w hs⟩ ?_
  rintro m a w ⟨x, hI, rfl, ha, hs⟩
  refine wp_mono ((round x hI).run a w ha hs) ?_
  intro ex a' w' hq
  cases ex with
  | normal => obtain ⟨x', h1, h2, h3, h4⟩ := hq; exact ⟨μ x', h2, x', h1, rfl, h3, h4⟩
  | exit id => exact hq
  | goto l => exact hq
  | ret => exact hq
  | panic ch => exact hq
  | outgrown => exact hq
theorem jx_round {ι : Type} {E : ι → Env} {M : ι → List Hp} {I : ι → Prop} {μ : ι → Nat} {x : ι} (x' : ι) (h1 : I x') (h2 : μ x' < μ x) (hE : Sub (E x') e) (hM : ∀ w, St W w L → St W w (M x')) :
    JX (Exit.then (Round n W E M I μ x) Q) .normal W n e L := ⟨fun a w ha hs => ⟨x', h1, h2, ha.sub hE, hM w hs⟩⟩

/-! ### One operation -/
/-- Its guard, if it has one, holds. -/
inductive Wants (ops : Array Oper) (e : Env) : Option (Nat × Bool) → Prop
  | none : Wants ops e none
  | some {j b oj dj b'} : ops[j]? = some oj → oj.dst = some dj → e.get dj = some (.bool b') → b' = b → Wants ops e (some (j, b))
theorem Wants.ok {o : Oper} (h : Wants ops e o.guard) {a : Act} (ha : Agree n e a) : Region.wanted o (yielded ops a.tmps) = true := by
  generalize hg : o.guard = g at h
  cases h with
  | none => simp [Region.wanted, hg]
  | some hj hdj hb hbb => subst hbb; simp [Region.wanted, hg, yielded, hj, hdj, ha.get _ _ hb]
theorem wpList_wanted {a : Act} {w : World} {o : Oper} (hw : Region.wanted o (yielded ops a.tmps) = true)
    (h : ∀ K : Act → World → Prop, (∀ a w, wpList P ops Q rest a w → K a w) → o.wp P a w K Q) : wpList P ops Q (o :: rest) a w :=
  wpList_step fun K hK => by rw [if_pos hw]; exact h K hK
/-- It yields 'v' and leaves the world as it was. -/
structure QOp (P : Program) (o : Oper) (W : World) (n : Nat) (e : Env) (L : List Hp) (v : Value) : Prop where
  run : ∀ a w, Agree n e a → St W w L → (execOp a.eval o).run P w = .ok (.value v) w
theorem j_q {o : Oper} {v : Value} {d : Nat} (h : J P ops Q W n rest ((d, v) :: e) L) (hq : QOp P o W n e L v) (hd : o.dst = some d := by rfl) (hn : Nat.blt d n = true := by rfl) (hg : Wants ops e o.guard := by first | exact .none | exact .some rfl rfl rfl rfl | exact .some rfl rfl rfl (by assumption) | fail) : J P ops Q W n (o :: rest) e L := by
  refine ⟨fun a w ha hs => wpList_wanted (hg.ok ha) fun K hK => ?_⟩
  unfold Oper.wp
  rw [hq.run a w ha hs, Oper.upon_value, hd]
  exact hK _ _ (h.run _ _ (ha.put (by simpa using hn) v) hs)
theorem j_skip {o oj : Oper} {d j dj : Nat} {b b' : Bool} (h : J P ops Q W n rest ((d, undef) :: e) L) (hd : o.dst = some d := by rfl) (hn : Nat.blt d n = true := by rfl) (hg : o.guard = some (j, b) := by rfl) (hj : ops[j]? = some oj := by rfl) (hdj : oj.dst = some dj := by rfl) (hb : e.get dj = some (.bool b') := by rfl) (hbb : b' = !b := by first | rfl | assumption | fail) : J P ops Q W n (o :: rest) e L := by
  refine ⟨fun a w ha hs => wpList_step fun K hK => ?_⟩
  have hy : yielded ops a.tmps j = some b' := by simp [yielded, hj, hdj, ha.get dj _ hb]
  rw [if_neg (by subst hbb; cases b <;> simp [Region.wanted, hg, hy]), hd]
  exact hK _ _ (h.run _ _ (ha.put (by simpa using hn) undef) hs)
theorem j_skip0 {o oj : Oper} {j dj : Nat} {b b' : Bool} (h : J P ops Q W n rest e L) (hd : o.dst = none := by rfl) (hg : o.guard = some (j, b) := by rfl) (hj : ops[j]? = some oj := by rfl) (hdj : oj.dst = some dj := by rfl) (hb : e.get dj = some (.bool b') := by rfl) (hbb : b' = !b := by first | rfl | assumption | fail) : J P ops Q W n (o :: rest) e L := by
  refine ⟨fun a w ha hs => wpList_step fun K hK => ?_⟩
  have hy : yielded ops a.tmps j = some b' := by simp [yielded, hj, hdj, ha.get dj _ hb]
  rw [if_neg (by subst hbb; cases b <;> simp [Region.wanted, hg, hy]), hd]
  exact hK _ _ (h.run _ _ ha hs)
/-- The guard itself was passed over. -/
theorem j_skipU {o oj : Oper} {d j dj : Nat} {b : Bool} (h : J P ops Q W n rest ((d, undef) :: e) L) (hd : o.dst = some d := by rfl) (hn : Nat.blt d n = true := by rfl) (hg : o.guard = some (j, b) := by rfl) (hj : ops[j]? = some oj := by rfl) (hdj : oj.dst = some dj := by rfl) (hb : e.get dj = some undef := by rfl) : J P ops Q W n (o :: rest) e L := by
  refine ⟨fun a w ha hs => wpList_step fun K hK => ?_⟩
  have hy : yielded ops a.tmps j = none := by simp [yielded, hj, hdj, ha.get dj _ hb, undef]
  rw [if_neg (by cases b <;> simp [Region.wanted, hg, hy]), hd]
  exact hK _ _ (h.run _ _ (ha.put (by simpa using hn) undef) hs)
/-- A guard of which nothing is known yet: both ways; the slot then holds the plain answer. -/
theorem j_guard {o oj : Oper} {j dj : Nat} {b b' : Bool} (ht : b' = true → J P ops Q W n (o :: rest) ((dj, .bool true) :: e) L) (hf : b' = false → J P ops Q W n (o :: rest) ((dj, .bool false) :: e) L)
    (hg : o.guard = some (j, b) := by rfl) (hj : ops[j]? = some oj := by rfl) (hdj : oj.dst = some dj := by rfl) (hb : e.get dj = some (.bool b') := by rfl) : J P ops Q W n (o :: rest) e L := by
  have key : ∀ c, b' = c → J P ops Q W n (o :: rest) ((dj, .bool c) :: e) L → J P ops Q W n (o :: rest) e L := by
    rintro c rfl h
    refine ⟨fun a w ha hs => h.run a w ⟨ha.size, ha.defers, fun t v hv => ?_⟩ hs⟩
    simp only [Env.get] at hv
    cases hbt : Nat.beq dj t with
    | true => rw [hbt] at hv; have := Nat.eq_of_beq_eq_true hbt; subst this; rw [← hv]; exact ha.get _ _ hb
    | false => rw [hbt] at hv; exact ha.get _ _ hv
  cases hc : b'
  · exact key false hc (hf hc)
  · exact key true hc (ht hc)
theorem j_guard_dec {o oj : Oper} {j dj : Nat} {b : Bool} {p : Prop} [Decidable p] (ht : p → J P ops Q W n (o :: rest) ((dj, .bool true) :: e) L) (hf : ¬ p → J P ops Q W n (o :: rest) ((dj, .bool false) :: e) L)
    (hg : o.guard = some (j, b) := by rfl) (hj : ops[j]? = some oj := by rfl) (hdj : oj.dst = some dj := by rfl) (hb : e.get dj = some (.bool (decide p)) := by rfl) : J P ops Q W n (o :: rest) e L :=
  j_guard (fun h => ht (of_decide_eq_true h)) (fun h => hf (of_decide_eq_false h)) hg hj hdj hb
theorem j_guard_eq {o oj : Oper} {j dj : Nat} {b : Bool} {x y : Int} (ht : x = y → J P ops Q W n (o :: rest) ((dj, .bool true) :: e) L) (hf : x ≠ y → J P ops Q W n (o :: rest) ((dj, .bool false) :: e) L)
    (hg : o.guard = some (j, b) := by rfl) (hj : ops[j]? = some oj := by rfl) (hdj : oj.dst = some dj := by rfl) (hb : e.get dj = some (.bool (x == y)) := by rfl) : J P ops Q W n (o :: rest) e L :=
  j_guard (fun h => ht (by simpa using h)) (fun h => hf (by simpa using h)) hg hj hdj hb
theorem j_guard_ne {o oj : Oper} {j dj : Nat} {b : Bool} {x y : Int} (ht : x ≠ y → J P ops Q W n (o :: rest) ((dj, .bool true) :: e) L) (hf : x = y → J P ops Q W n (o :: rest) ((dj, .bool false) :: e) L)
    (hg : o.guard = some (j, b) := by rfl) (hj : ops[j]? = some oj := by rfl) (hdj : oj.dst = some dj := by rfl) (hb : e.get dj = some (.bool (x != y)) := by rfl) : J P ops Q W n (o :: rest) e L :=
  j_guard (fun h => ht (by simpa using h)) (fun h => hf (by simpa using h)) hg hj hdj hb
theorem j_guard_not {o oj : Oper} {j dj : Nat} {b c : Bool} (ht : c = false → J P ops Q W n (o :: rest) ((dj, .bool true) :: e) L) (hf : c = true → J P ops Q W n (o :: rest) ((dj, .bool false) :: e) L)
    (hg : o.guard = some (j, b) := by rfl) (hj : ops[j]? = some oj := by rfl) (hdj : oj.dst = some dj := by rfl) (hb : e.get dj = some (.bool (!c)) := by rfl) : J P ops Q W n (o :: rest) e L :=
  j_guard (fun h => ht (by simpa using h)) (fun h => hf (by simpa using h)) hg hj hdj hb
theorem j_look {o : Oper} (k : J P ops Q W n (o :: rest) e L) (h : Wants ops e o.guard := by first | exact .none | exact .some rfl rfl rfl rfl | exact .some rfl rfl rfl (by assumption) | fail) : J P ops Q W n (o :: rest) e L := k
/-- It yields a value and leaves another world. -/
theorem j_w {o : Oper} {d : Nat} {ι : Type} {val : ι → Value} {M : ι → List Hp} (hd : o.dst = some d) (hn : Nat.blt d n = true) (hg : Wants ops e o.guard)
    (hq : ∀ a w, Agree n e a → St W w L → ∃ x w', (execOp a.eval o).run P w = .ok (.value (val x)) w' ∧ St W w' (M x))
    (h : ∀ x, J P ops Q W n rest ((d, val x) :: e) (M x)) : J P ops Q W n (o :: rest) e L := by
  refine ⟨fun a w ha hs => wpList_wanted (hg.ok ha) fun K hK => ?_⟩
  unfold Oper.wp
  obtain ⟨x, w', hr, hs'⟩ := hq a w ha hs
  rw [hr, Oper.upon_value, hd]
  exact hK _ _ ((h x).run _ _ (ha.put (by simpa using hn) _) hs')
/-- It yields nothing and leaves another world (a store). -/
theorem j_s {o : Oper} {L' : List Hp} (hd : o.dst = none) (hg : Wants ops e o.guard)
    (hq : ∀ a w, Agree n e a → St W w L → ∃ w', (execOp a.eval o).run P w = .ok .skip w' ∧ St W w' L')
    (h : J P ops Q W n rest e L') : J P ops Q W n (o :: rest) e L := by
  refine ⟨fun a w ha hs => wpList_wanted (hg.ok ha) fun K hK => ?_⟩
  unfold Oper.wp
  obtain ⟨w', hr, hs'⟩ := hq a w ha hs
  rw [hr, Oper.upon_skip, hd]
  exact hK _ _ (h.run _ _ ha hs')

/-! ### Calls -/
/-- What a call hands back: a value and new pieces, of which 'R' speaks; all that was there is as it was. -/
def RetR (R : Value → List Hp → Prop) (w : World) (x : Ending) (w' : World) : Prop := ∃ v M, x = .returned v ∧ St w w' M ∧ R v M
/-- The contract of a function at these arguments, in this world. -/
structure CR (P : Program) (f : FuncId) (args : List Value) (w : World) (R : Value → List Hp → Prop) : Prop where
  run : Calls P f args.toArray w (RetR R w)
theorem CR.mono {f : FuncId} {args : List Value} {w : World} {R R' : Value → List Hp → Prop} (h : CR P f args w R) (hr : ∀ v M, R v M → R' v M) : CR P f args w R' :=
  ⟨h.run.mono fun x w' ⟨v, M, h1, h2, h3⟩ => ⟨v, M, h1, h2, hr v M h3⟩⟩
/-- The one value 'v', and no memory. -/
def Is (u : Value) (v : Value) (M : List Hp) : Prop := v = u ∧ M = []
def Env.evs (e : Env) : List Operand → Option (List Value)
  | [] => some []
  | x :: xs => match e.ev x with
    | none => none
    | some v => match Env.evs e xs with
      | none => none
      | some vs => some (v :: vs)
theorem Agree.evs {a : Act} (h : Agree n e a) : ∀ {xs : List Operand} {vs : List Value}, e.evs xs = some vs → xs.map a.eval = vs
  | [], vs, hx => by simp [Env.evs] at hx; simp [hx]
  | x :: xs, vs, hx => by
    simp only [Env.evs] at hx
    cases hv : e.ev x with
    | none => rw [hv] at hx; cases hx
    | some v =>
      rw [hv] at hx
      cases hvs : e.evs xs with
      | none => rw [hvs] at hx; cases hx
      | some us => rw [hvs] at hx; simp only [Option.some.injEq] at hx; subst hx; simp [h.ev hv, Agree.evs h hvs]
class CallT (P : Program) (f : FuncId) : Prop where
  ok : ∀ args w, (callFunc f args).run P w = .ok (.enter f args) w
theorem j_call {o : Oper} {d : Nat} {f : FuncId} {xs : List Operand} {tys : Array TypeId} {vs : List Value} {R : Value → List Hp → Prop} [hf : CallT P f]
    (hc : ∀ w, St W w L → CR P f vs w R) (h : ∀ v M, R v M → J P ops Q W n rest ((d, v) :: e) (M ++ L))
    (hd : o.dst = some d := by rfl) (ho : o.op = .call { callee := .value (.func f), args := xs.toArray, argTypes := tys } := by rfl) (hv : e.evs xs = some vs := by rfl) (hn : Nat.blt d n = true := by rfl)
    (hg : Wants ops e o.guard := by first | exact .none | exact .some rfl rfl rfl rfl | exact .some rfl rfl rfl (by assumption) | fail) : J P ops Q W n (o :: rest) e L := by
  refine ⟨fun a w ha hs => wpList_wanted (hg.ok ha) fun K hK => ?_⟩
  have hrun : (execOp a.eval o).run P w = .ok (.enter f vs.toArray) w := by
    simp [execOp, ho, resolve, invoke, Act.eval, Deferred.ofValue, ← ha.evs hv, hf.ok]
  unfold Oper.wp
  rw [hrun, Oper.upon_enter]
  refine (hc w hs).run.mono ?_
  rintro x w' ⟨v, M, rfl, hs', hR⟩
  rw [hd]
  exact hK _ _ ((h v M hR).run _ _ (ha.put (by simpa using hn) v) (hs.trans hs'))

/-! ### A function's beginning and end -/
def argEnv : Nat → List Value → Env
  | _, [] => []
  | k, v :: vs => (k, v) :: argEnv (k + 1) vs
theorem argEnv_get : ∀ {vs : List Value} {k t : Nat} {v : Value}, (argEnv k vs).get t = some v → k ≤ t ∧ vs[t - k]? = some v
  | [], k, t, v, h => by simp [argEnv, Env.get] at h
  | u :: vs, k, t, v, h => by
    simp only [argEnv, Env.get] at h
    cases hb : Nat.beq k t with
    | true => rw [hb] at h; have := Nat.eq_of_beq_eq_true hb; subst this; simpa using h
    | false =>
      rw [hb] at h
      have hne := Nat.ne_of_beq_eq_false hb
      obtain ⟨h1, h2⟩ := argEnv_get h
      refine ⟨by omega, ?_⟩
      rw [show t - k = (t - (k + 1)) + 1 from by omega]
      simpa using h2
theorem calls_j {f : FuncId} {fn : Func} {c : Code} {args : List Value} {R : Value → List Hp → Prop} (hf : P.funcs[f]? = some fn) (hb : fn.body = some c) (hn : fn.ntmps = n) (hl : Nat.ble args.length n = true)
    (h : JC P c (bodyPost P fn (RetR R W)) W n (argEnv 0 args) []) : CR P f args W R := by
  have hl' : args.length ≤ n := by simpa using hl
  refine ⟨calls_of_wp hf hb (h.run _ _ ⟨by simp [hn]; omega, rfl, fun t v ht => by
    obtain ⟨_, h2⟩ := argEnv_get ht
    simp only [Nat.sub_zero] at h2
    have hlt : t < args.length := (List.getElem?_eq_some_iff.1 h2).1
    rw [Array.getElem?_append_left (by simpa using hlt)]
    simpa using h2⟩ (St.refl W))⟩

end

/-! ### Choosing among pieces -/
/-- The pieces of the first list are among those of the second. -/
inductive Sel : List Hp → List Hp → Prop
  | nil {L : List Hp} : Sel [] L
  | cons {c : Hp} {L L1 L' : List Hp} : Rm c L L1 → Sel L' L1 → Sel (c :: L') L
theorem Sel.perm {L L' : List Hp} (h : Sel L' L) : ∃ R, L.flatten.Perm (L'.flatten ++ R) := by
  induction h with
  | @nil L => exact ⟨L.flatten, by simp⟩
  | @cons c L L1 L' hr _ ih =>
    obtain ⟨R, h2⟩ := ih
    refine ⟨R, hr.perm.trans ?_⟩
    simp only [List.flatten_cons, List.append_assoc]
    exact (List.Perm.refl c).append h2
theorem St.sel {W w : World} {L L' : List Hp} (h : Sel L' L) (hs : St W w L) : St W w L' := by
  obtain ⟨R, hp⟩ := h.perm
  exact ⟨hs.below, (hs.sat.perm hp).left⟩

end Go.Proofs.YtiobmbicldjikaaGreatDoor
