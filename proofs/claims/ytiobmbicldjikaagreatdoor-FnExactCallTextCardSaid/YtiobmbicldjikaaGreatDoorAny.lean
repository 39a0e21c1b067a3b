/- Regions that draw the order of their operations: one order serves all. No condition. -/
import Derived.Test.YtiobmbicldjikaaGreatDoorMem

import Derived.Orders

import Derived.KernelRfl

set_option linter.unusedVariables false

namespace Go.Proofs.YtiobmbicldjikaaGreatDoor

open Go.RowKit (Below)

/-! ### Every order, over a class of worlds that memory may grow in -/

def NoQ (_ : Exit) (_ : Act) (_ : World) : Prop := False
section

variable {z : Bool} {P : Program} {ops : Array Oper}

theorem upon_wk {o : Oper} {a : Act} {K K' : Act → World → Prop} {Q Q' : Exit → Act → World → Prop} {r : Result Next} (hQ : ∀ x a w, Q x a w → x = .normal) (hK : ∀ a w, K a w → K' a w) (h : o.upon P a K Q r) : o.upon P a K' Q' r := by
  cases r with
  | ok n w' =>
    cases n <;> simp only [Oper.upon] at h ⊢ <;> first
      | exact hK _ _ h
      | exact Rows.mono h (fun _ _ he => hK _ _ he)
      | exact Calls.mono h (fun e w'' he => by
          cases e with
          | returned u => exact hK _ _ he
          | panicked c => exact absurd (hQ _ _ _ he) (by simp)
          | outgrown => obtain ⟨a', w3, h3⟩ := he; exact absurd (hQ _ _ _ h3) (by simp))
  | halt x w' => cases x <;> simp only [Oper.upon] at h ⊢; exact absurd (hQ _ _ _ h) (by simp)
def gOp (P : Program) (ops : Array Oper) (i : Nat) (K : Act → World → Prop) (a : Act) (w : World) : Prop :=
  match ops[i]? with
  | none => K a w
  | some o => if Region.wanted o (yielded ops a.tmps) then o.wp P a w K NoQ else K (a.put o.dst undef) w
theorem noQ (x : Exit) (a : Act) (w : World) (h : NoQ x a w) : x = .normal := h.elim
theorem gOp_mono {i : Nat} {a : Act} {w : World} {K K' : Act → World → Prop} (h : ∀ a w, K a w → K' a w) (hh : gOp P ops i K a w) : gOp P ops i K' a w := by
  unfold gOp at *
  split
  · exact h _ _ (by simpa [*] using hh)
  · rename_i o ho
    simp only [ho] at hh
    split
    · rename_i hw; simp only [hw, if_true] at hh; exact upon_wk noQ h hh
    · rename_i hw; simp only [hw] at hh; exact h _ _ hh
theorem wpOp_of_gOp {Q : Exit → Act → World → Prop} {i : Nat} {a : Act} {w : World} {K K' : Act → World → Prop} (h : ∀ a w, K a w → K' a w) (hh : gOp P ops i K a w) : wpOp P ops Q i K' a w := by
  unfold gOp at hh
  unfold wpOp
  split
  · exact h _ _ (by simpa [*] using hh)
  · rename_i o ho
    simp only [ho] at hh
    split
    · rename_i hw; simp only [hw, if_true] at hh; exact .inl (upon_wk noQ h hh)
    · rename_i hw; simp only [hw] at hh; exact h _ _ hh

/-- From 'w' to 'w'' memory may have grown; what is known of 'w' is known of 'w''. -/
def Gw (W w w' : World) : Prop := ∀ L, St W w L → St W w' L
theorem Gw.refl {W w : World} : Gw W w w := fun _ h => h
theorem Gw.trans {W w w' w'' : World} (h : Gw W w w') (h' : Gw W w' w'') : Gw W w w'' := fun L hs => h' L (h L hs)

def lateB (z : Bool) (ops : Array Oper) (i : Nat) : Bool := z && match ops[i]? with | some o => (match o.op with | .store .. => true | _ => false) | none => false
def waitsB (ops : Array Oper) (j i : Nat) : Bool := match ops[j]? with | some oj => oj.after.any (fun e => Region.binds .any e && e.on == i) | none => false
def firstLate (z : Bool) (ops : Array Oper) : Nat := ((List.range ops.size).find? (fun i => lateB z ops i)).getD ops.size
def lateOk (z : Bool) (ops : Array Oper) : Bool :=
  ((List.range ops.size).all fun i => lateB z ops i || (Nat.blt i (firstLate z ops) && (firstLate z ops == ops.size || (List.range (firstLate z ops + 1)).any fun j => Nat.blt i j && waitsB ops j i))) &&
  (List.range ops.size).all fun t => !lateB z ops t || Nat.ble (firstLate z ops) t && (t == firstLate z ops || waitsB ops t (firstLate z ops) || (Nat.blt (firstLate z ops) t && waitsB ops t (t - 1)))
/-- What has come up has all that it waits for. -/
def Closed (ops : Array Oper) (listed : Array Bool) : Prop := ∀ j oj, ops[j]? = some oj → listed.getD j false = true → ∀ e ∈ oj.after, Region.binds .any e = true → listed.getD e.on false = true
theorem getD_ft {listed : Array Bool} {i : Nat} (h : listed.getD i false = true) : listed.getD i true = true := by
  rcases Nat.lt_or_ge i listed.size with h' | h'
  · simp [h'] at h ⊢; exact h
  · simp [Array.getElem?_eq_none h'] at h
theorem Closed.set {listed : Array Bool} {i : Nat} (h : Closed ops listed) (hi : i ∈ Region.ready .any ops listed) : Closed ops (listed.setIfInBounds i true) := by
  obtain ⟨_, oi, hoi, hall⟩ := mem_ready.1 hi
  intro j oj hj hl e he hb
  refine getD_set_true ?_
  by_cases hij : i = j
  · subst hij
    obtain rfl : oj = oi := Option.some.inj (hj.symm.trans hoi)
    exact hall e he hb
  · rw [getD_set_ne false hij] at hl
    exact h j oj hj hl e he hb
theorem Closed.none (n : Nat) : Closed ops (Array.replicate n false) := fun j oj _ hl => by
  rcases Nat.lt_or_ge j n with h | h
  · simp [h] at hl
  · simp [h] at hl
/-- All that 'j' waits for has come up. -/
def Met (ops : Array Oper) (listed : Array Bool) (j : Nat) : Prop := ∀ oj, ops[j]? = some oj → ∀ e ∈ oj.after, Region.binds .any e = true → listed.getD e.on false = true
theorem waitsB_met {listed : Array Bool} {j i : Nat} (h : Met ops listed j) (hw : waitsB ops j i = true) : listed.getD i false = true := by
  unfold waitsB at hw
  split at hw
  · rename_i oj hj
    obtain ⟨e, he, hb⟩ := Array.any_eq_true'.1 hw
    simp only [Bool.and_eq_true, beq_iff_eq] at hb
    rw [← hb.2]
    exact h oj hj e he hb.1
  · cases hw
theorem Closed.met {listed : Array Bool} (h : Closed ops listed) {j : Nat} (hl : listed.getD j false = true) : Met ops listed j := fun oj hj e he hb => h j oj hj hl e he hb
theorem lateOk_spec {listed : Array Bool} (hc : Closed ops listed) (h : lateOk z ops = true) {j i : Nat} (hj : j < ops.size) (hi : i < ops.size) (hlj : lateB z ops j = true) (hli : lateB z ops i = false) (hm : Met ops listed j) : listed.getD i false = true := by
  simp only [lateOk, Bool.and_eq_true, List.all_eq_true, List.mem_range] at h
  obtain ⟨h1, h2⟩ := h
  have g1 : ∀ t, t < ops.size → lateB z ops t = true → Met ops listed t → Met ops listed (firstLate z ops) := by
    intro t
    induction t with
    | zero =>
      intro ht hl hm
      have := h2 0 ht
      simp only [hl, Bool.not_true, Bool.false_or, Bool.and_eq_true, Nat.ble_eq] at this
      have h0 : firstLate z ops = 0 := by omega
      rw [h0]; exact hm
    | succ t ih =>
      intro ht hl hm
      have := h2 (t + 1) ht
      simp only [hl, Bool.not_true, Bool.false_or, Bool.and_eq_true, Nat.ble_eq, Bool.or_eq_true, beq_iff_eq, Nat.blt_eq] at this
      obtain ⟨_, (h3 | h3) | ⟨h3, h4⟩⟩ := this
      · rw [← h3]; exact hm
      · exact hc.met (waitsB_met hm h3)
      · have h5 := waitsB_met hm h4
        simp only [Nat.add_sub_cancel] at h5
        by_cases hlt : lateB z ops t = true
        · exact ih (by omega) hlt (hc.met h5)
        · have := h1 t (by omega)
          simp only [hlt, Bool.false_or, Bool.and_eq_true, Nat.blt_eq] at this
          omega
  have g2 := g1 j hj hlj hm
  have hle : firstLate z ops ≤ j := by
    have := h2 j hj
    simp only [hlj, Bool.not_true, Bool.false_or, Bool.and_eq_true, Nat.ble_eq] at this
    exact this.1
  have g3 : ∀ d i, firstLate z ops - i = d → i < ops.size → lateB z ops i = false → listed.getD i false = true := by
    intro d
    induction d using Nat.strongRecOn with
    | _ d ih =>
      intro i hd hi hl
      have := h1 i hi
      simp only [hl, Bool.false_or, Bool.and_eq_true, Nat.blt_eq, Bool.or_eq_true, beq_iff_eq, List.any_eq_true, List.mem_range] at this
      obtain ⟨h3, h4 | ⟨k, hk, h5, h6⟩⟩ := this
      · omega
      · by_cases hkn : k = firstLate z ops
        · subst hkn; exact waitsB_met g2 h6
        · have hkl : lateB z ops k = false := by
            cases hb : lateB z ops k with
            | false => rfl
            | true =>
              have := h2 k (by omega)
              simp only [hb, Bool.not_true, Bool.false_or, Bool.and_eq_true, Nat.ble_eq] at this
              omega
          exact waitsB_met (hc.met (ih (firstLate z ops - k) (by omega) k rfl (by omega) hkl)) h6
  exact g3 _ i rfl hi hli

def gAny (z : Bool) (P : Program) (ops : Array Oper) (W : World) (L₀ : List Hp) (QN : Act → World → Prop) : Nat → Array Bool → Act → World → Prop
  | 0, listed, a, w => Region.ready .any ops listed = [] ∧ QN a w
  | fuel + 1, listed, a, w =>
    (Region.ready .any ops listed = [] → QN a w) ∧
    ∀ i ∈ Region.ready .any ops listed, gOp P ops i (fun a' w' => (lateB z ops i = false → St W w' L₀) ∧ ∀ w2, Gw W w' w2 → gAny z P ops W L₀ QN fuel (listed.setIfInBounds i true) a' w2) a w
theorem wpAny_of_g {W : World} {L₀ : List Hp} {Q : Exit → Act → World → Prop} : ∀ (fuel : Nat) (listed : Array Bool) (a : Act) (w : World), gAny z P ops W L₀ (Q .normal) fuel listed a w → wpAny P .any ops Q fuel listed a w
  | 0, _, _, _, h => h
  | fuel + 1, _, _, _, h => ⟨h.1, fun i hi => wpOp_of_gOp (fun a' w' h' => wpAny_of_g fuel _ a' w' (h'.2 w' .refl)) (h.2 i hi)⟩

def gUpon (P : Program) (W w : World) (v : Value) : Result Next → Prop
  | .ok (.value u) w' => u = v ∧ Gw W w w'
  | .ok (.enter f args) w' => Gw W w w' ∧ Calls P f args w' (fun e w'' => e = .returned v ∧ Gw W w w'')
  | _ => False
def YldG (P : Program) (ops : Array Oper) (W : World) (L₀ : List Hp) (o : Oper) (v : Value) (a : Act) : Prop :=
  (Region.wanted o (yielded ops a.tmps) = true ∧ ∀ w, St W w L₀ → gUpon P W w v ((execOp a.eval o).run P w)) ∨
  (Region.wanted o (yielded ops a.tmps) = false ∧ v = undef)
variable {W : World} {L₀ : List Hp}

theorem YldG.of_same {o : Oper} {v : Value} {a a' : Act} (hy : YldG P ops W L₀ o v a) (he : execOp a'.eval o = execOp a.eval o)
    (hw : Region.wanted o (yielded ops a'.tmps) = Region.wanted o (yielded ops a.tmps)) : YldG P ops W L₀ o v a' := by
  unfold YldG at *
  rw [he, hw]
  exact hy
theorem YldG.gOp {i : Nat} {o : Oper} {v : Value} {a : Act} (hi : ops[i]? = some o) (hy : YldG P ops W L₀ o v a) {w : World} (hS : St W w L₀) {K : Act → World → Prop} (h : ∀ w', Gw W w w' → K (a.put o.dst v) w') : gOp P ops i K a w := by
  unfold Proofs.YtiobmbicldjikaaGreatDoor.gOp
  simp only [hi]
  rcases hy with ⟨hw, hv⟩ | ⟨hw, rfl⟩
  · simp only [hw, if_true]
    have h1 := hv w hS
    unfold Oper.wp
    generalize (execOp a.eval o).run P w = r at *
    cases r with
    | ok n w' =>
      cases n <;> simp only [gUpon] at h1 <;> simp only [Oper.upon]
      case value u => obtain ⟨rfl, h2⟩ := h1; exact h _ h2
      case enter f args => exact h1.2.mono fun e w'' ⟨he, h2⟩ => by subst he; exact h _ h2
    | halt x w' => simp only [gUpon] at h1
  · simp only [hw, Bool.false_eq_true, if_false]; exact h _ .refl
theorem gOp_put {j : Nat} {oi oj : Oper} {v : Value} (hj : ops[j]? = some oj) (hap : oi.apart ops oj = true)
    (hsi : ∀ cs b, oi.op ≠ .select cs b) (hsj : ∀ cs b, oj.op ≠ .select cs b) {K : Act → World → Prop} {a : Act} {w : World}
    (hy : YldG P ops W L₀ oi v a) (h : gOp P ops j K (a.put oi.dst v) w) :
    gOp P ops j (fun a' w' => YldG P ops W L₀ oi v a' ∧ K (a'.put oi.dst v) w') a w := by
  obtain ⟨h1, h2, h3⟩ := Oper.apart_spec hap
  have keep : ∀ (a : Act), YldG P ops W L₀ oi v a → ∀ u, YldG P ops W L₀ oi v (a.put oj.dst u) := fun a hy u =>
    hy.of_same (execOp_put oi hsi a oj.dst u h3) (wanted_put oi a oj.dst u h3)
  have keepD : ∀ d, YldG P ops W L₀ oi v { a with defers := d :: a.defers } := fun d => hy.of_same rfl rfl
  unfold gOp at *
  simp only [hj] at *
  rw [wanted_put oj a oi.dst v h1] at h
  split
  · rename_i hw
    simp only [hw, if_true] at h
    unfold Oper.wp at *
    rw [execOp_put oj hsj a oi.dst v h1] at h
    generalize (execOp a.eval oj).run P w = r at *
    cases r with
    | ok n w' =>
      cases n <;> simp only [Oper.upon] at h ⊢
      case value u => exact ⟨keep a hy u, by rw [← Act.put_comm a v u h2]; exact h⟩
      case skip => exact ⟨keep a hy _, by rw [← Act.put_comm a v undef h2]; exact h⟩
      case defer d =>
        refine ⟨keep _ (keepD d) _, ?_⟩
        rw [← Act.put_comm _ v undef h2, ← Act.put_defers]
        exact h
      case enter f args =>
        refine Calls.mono h fun e w'' he => ?_
        cases e with
        | returned u => exact ⟨keep a hy u, by rw [← Act.put_comm a v u h2]; exact he⟩
        | panicked c => exact he
        | outgrown => exact he
      case row row args => exact Rows.mono h fun u w'' he => ⟨keep a hy u, by rw [← Act.put_comm a v u h2]; exact he⟩
    | halt x w' =>
      cases x <;> simp only [Oper.upon] at h ⊢
      case panic u => exact h
  · rename_i hw
    simp only [hw] at h
    exact ⟨keep a hy _, by rw [← Act.put_comm a v undef h2]; exact h⟩
/-- It may be taken first. -/
theorem gAny_first {QN : Act → World → Prop} {i : Nat} {oi : Oper} {v : Value} (hi : ops[i]? = some oi) (hsel : ∀ (j : Nat) (o : Oper) cs b, ops[j]? = some o → o.op ≠ .select cs b) (hlt : lateOk z ops = true) (hl : lateB z ops i = false) :
    ∀ (fuel : Nat) (listed : Array Bool) (a : Act) (w : World), Closed ops listed →
      (∀ j oj, ops[j]? = some oj → j ≠ i → listed.getD j true = false → (∀ e ∈ oj.after, Region.binds .any e = true → e.on ≠ i) → oi.apart ops oj = true) →
      i ∈ Region.ready .any ops listed → YldG P ops W L₀ oi v a → St W w L₀ →
      (∀ w1, Gw W w w1 → gAny z P ops W L₀ QN fuel (listed.setIfInBounds i true) (a.put oi.dst v) w1) → gAny z P ops W L₀ QN (fuel + 1) listed a w := by
  intro fuel
  induction fuel with
  | zero =>
    intro listed a w hcl _ hr hy hS H
    refine ⟨fun h => (by rw [h] at hr; cases hr), fun j hj => ?_⟩
    by_cases hji : j = i
    · subst hji; exact hy.gOp hi hS fun w' hg => ⟨fun _ => hg _ hS, fun w2 hg2 => H w2 (hg.trans hg2)⟩
    · have := ready_mono hj hji
      rw [(H w .refl).1] at this
      cases this
  | succ fuel ih =>
    intro listed a w hcl hfree hr hy hS H
    refine ⟨fun h => (by rw [h] at hr; cases hr), fun j hj => ?_⟩
    by_cases hji : j = i
    · subst hji; exact hy.gOp hi hS fun w' hg => ⟨fun _ => hg _ hS, fun w2 hg2 => H w2 (hg.trans hg2)⟩
    · have h1 := (H w .refl).2 j (ready_mono hj hji)
      obtain ⟨hjun, oj, hoj, hall⟩ := mem_ready.1 hj
      have hnot : ∀ e ∈ oj.after, Region.binds .any e = true → e.on ≠ i := fun e he hb heq => by
        have h1 := hall e he hb
        have h0 := (mem_ready.1 hr).1
        rw [heq] at h1
        rcases Nat.lt_or_ge i listed.size with h' | h'
        · simp [h'] at h0 h1; rw [h0] at h1; cases h1
        · simp [Array.getElem?_eq_none h'] at h1
      have hlj : lateB z ops j = false := by
        cases hb : lateB z ops j with
        | false => rfl
        | true =>
          have h5 := lateOk_spec hcl hlt (Array.getElem?_eq_some_iff.1 hoj).1 (Array.getElem?_eq_some_iff.1 hi).1 hb hl (fun o' ho' e he hb => by
            obtain rfl : o' = oj := Option.some.inj (ho'.symm.trans hoj)
            exact hall e he hb)
          have h6 := (mem_ready.1 hr).1
          rw [getD_ft h5] at h6
          cases h6
      have h2 := gOp_put hoj (hfree j oj hoj hji hjun hnot) (fun cs b => hsel i oi cs b hi) (fun cs b => hsel j oj cs b hoj) hy h1
      have hfree' : ∀ k ok, ops[k]? = some ok → k ≠ i → (listed.setIfInBounds j true).getD k true = false →
          (∀ e ∈ ok.after, Region.binds .any e = true → e.on ≠ i) → oi.apart ops ok = true := fun k ok hk hki hun hno => by
        refine hfree k ok hk hki ?_ hno
        by_cases hjk : j = k
        · subst hjk; exact hjun
        · rw [getD_set_ne true hjk] at hun; exact hun
      refine gOp_mono (fun a' w' h3 => ⟨h3.2.1, fun w2 hg2 => ih (listed.setIfInBounds j true) a' w2 (hcl.set hj) hfree' (ready_mono hr (Ne.symm hji)) h3.1 (hg2 _ (h3.2.1 hlj)) fun w3 hg3 => ?_⟩) h2
      rw [Array.setIfInBounds_comm _ _ hji]
      exact h3.2.2 w3 (hg2.trans hg3)
end

/-! ### The walk of one order -/

def okOrd (z : Bool) (ops : Array Oper) : List (Nat × Bool) → Array Bool → Bool
  | [], listed => (Region.ready .any ops listed).isEmpty
  | (i, true) :: r, listed => (Region.ready .any ops listed == [i]) && okOrd z ops r (listed.setIfInBounds i true)
  | (i, false) :: r, listed => !lateB z ops i && Region.free .any ops listed i && (Region.ready .any ops listed).contains i && okOrd z ops r (listed.setIfInBounds i true)
def loudB (o : Oper) : Bool := match o.op with
  | .store .. => true | .alloc .. => true | .box .. => true | .buildSlice .. => true | .call c => (match c.callee with | .builtin .append => true | _ => false) | _ => false
/-- One order: what is quiet and may come up comes first. -/
def ordOf (loud : Oper → Bool) (ops : Array Oper) : Nat → Array Bool → List (Nat × Bool)
  | 0, _ => []
  | fuel + 1, listed =>
    match (Region.ready .any ops listed).find? (fun i => match ops[i]? with | some o => !loud o | none => false) with
    | some i => (i, false) :: ordOf loud ops fuel (listed.setIfInBounds i true)
    | none => match Region.ready .any ops listed with
      | i :: _ => (i, true) :: ordOf loud ops fuel (listed.setIfInBounds i true)
      | [] => []

section

variable {z : Bool} {P : Program} {ops : Array Oper} {Q : Exit → Act → World → Prop} {W : World} {n : Nat} {L₀ : List Hp} {ord : List (Nat × Bool)} {e : Env} {L : List Hp}

structure JD (z : Bool) (P : Program) (ops : Array Oper) (Q : Exit → Act → World → Prop) (W : World) (n : Nat) (L₀ : List Hp) (ord : List (Nat × Bool)) (e : Env) (L : List Hp) : Prop where
  run : ∀ listed a w, Closed ops listed → Region.noSelect ops = true → lateOk z ops = true → okOrd z ops ord listed = true → Agree n e a → St W w L → gAny z P ops W L₀ (Q .normal) ord.length listed a w
structure QD (z : Bool) (P : Program) (ops : Array Oper) (Q : Exit → Act → World → Prop) (W : World) (n : Nat) (L₀ : List Hp) (late : Bool) (ord : List (Nat × Bool)) (x : Exit) (a : Act) (w : World) : Prop where
  norm : x = .normal
  run : ∃ e L, Agree n e a ∧ St W w L ∧ (late = false → St W w L₀) ∧ JD z P ops Q W n L₀ ord e L
theorem jc_draws {i : Nat} {l : List Oper} (L₀ : List Hp) {ord : List (Nat × Bool)} (h : JD z P l.toArray Q W n L₀ ord e L) (hm : P.follows .mixedOrders = true)
    (hk : (ord.length == l.length && Region.noSelect l.toArray && lateOk z l.toArray && okOrd z l.toArray ord (Array.replicate l.length false)) = true) : JC P (.region i l.toArray true) Q W n e L := by
  simp only [Bool.and_eq_true, beq_iff_eq] at hk
  obtain ⟨⟨⟨k1, k2⟩, k3⟩, k4⟩ := hk
  refine ⟨fun a w ha hs => wp_region_any hm (wpAny_of_g (z := z) (W := W) (L₀ := L₀) _ _ _ _ ?_)⟩
  have := h.run (Array.replicate l.length false) a { w with drawn := w.drawn + 1 } (Closed.none _) k2 k3 k4 ha hs.drew
  simpa [k1] using this
theorem jd_nil (h : JX Q .normal W n e L) : JD z P ops Q W n L₀ [] e L := ⟨fun listed a w _ _ _ hk ha hs => ⟨by simpa [okOrd] using hk, h.run a w ha hs⟩⟩
theorem jd_first {i : Nat} {o : Oper} {v : Value} {e' : Env} (h : JD z P ops Q W n L₀ ord e' L) (hi : ops[i]? = some o) (hy : ∀ a, Agree n e a → YldG P ops W L₀ o v a ∧ Agree n e' (a.put o.dst v)) (hL : ∀ w, St W w L → St W w L₀) : JD z P ops Q W n L₀ ((i, false) :: ord) e L := by
  refine ⟨fun listed a w hcl hn hl hk ha hs => ?_⟩
  simp only [okOrd, Bool.and_eq_true, Bool.not_eq_true'] at hk
  obtain ⟨⟨⟨k1, k2⟩, k3⟩, k4⟩ := hk
  exact gAny_first hi (Region.noSelect_spec hn) hl k1 _ _ _ _ hcl (Region.free_spec hi k2) (by simpa using k3) (hy a ha).1 (hL w hs) fun w1 hg => h.run _ _ _ (hcl.set (by simpa using k3)) hn hl k4 (hy a ha).2 (hg _ hs)
theorem jd_q {i : Nat} {o : Oper} {d : Nat} {v : Value} (h : JD z P ops Q W n L₀ ord ((d, v) :: e) L) (hi : ops[i]? = some o) (hq : QOp P o W n e L₀ v) (hL : ∀ w, St W w L → St W w L₀) (hd : o.dst = some d) (hn : Nat.blt d n = true) (hg : Wants ops e o.guard) : JD z P ops Q W n L₀ ((i, false) :: ord) e L :=
  jd_first h hi (fun a ha => ⟨.inl ⟨hg.ok ha, fun w hs => by rw [hq.run a w ha hs]; exact ⟨rfl, .refl⟩⟩, by rw [hd]; exact ha.put (by simpa using hn) v⟩) hL
theorem jd_skip {i : Nat} {o oj : Oper} {d j dj : Nat} {b b' : Bool} (h : JD z P ops Q W n L₀ ord ((d, undef) :: e) L) (hL : ∀ w, St W w L → St W w L₀ := by first | exact fun _ h => h | assumption | fail) (hi : ops[i]? = some o := by rfl) (hd : o.dst = some d := by rfl) (hn : Nat.blt d n = true := by rfl) (hg : o.guard = some (j, b) := by rfl) (hj : ops[j]? = some oj := by rfl) (hdj : oj.dst = some dj := by rfl) (hb : e.get dj = some (.bool b') := by rfl) (hbb : b' = !b := by first | rfl | assumption | fail) : JD z P ops Q W n L₀ ((i, false) :: ord) e L :=
  jd_first h hi (fun a ha => ⟨.inr ⟨by
    have hy : yielded ops a.tmps j = some b' := by simp [yielded, hj, hdj, ha.get dj _ hb]
    unfold Region.wanted; rw [hg]; simp only [hy, hbb]; cases b <;> rfl, rfl⟩, by rw [hd]; exact ha.put (by simpa using hn) undef⟩) hL
theorem jd_skipU {i : Nat} {o oj : Oper} {d j dj : Nat} {b : Bool} (h : JD z P ops Q W n L₀ ord ((d, undef) :: e) L) (hL : ∀ w, St W w L → St W w L₀) (hi : ops[i]? = some o) (hd : o.dst = some d) (hn : Nat.blt d n = true) (hg : o.guard = some (j, b)) (hj : ops[j]? = some oj) (hdj : oj.dst = some dj) (hb : e.get dj = some undef) : JD z P ops Q W n L₀ ((i, false) :: ord) e L :=
  jd_first h hi (fun a ha => ⟨.inr ⟨by
    have hy : yielded ops a.tmps j = none := by simp [yielded, hj, hdj, ha.get dj _ hb, undef]
    unfold Region.wanted; rw [hg]; simp only [hy]; cases b <;> rfl, rfl⟩, by rw [hd]; exact ha.put (by simpa using hn) undef⟩) hL
theorem jd_call {i : Nat} {o : Oper} {d : Nat} {f : FuncId} {xs : List Operand} {tys : Array TypeId} {vs : List Value} {v : Value} [hf : CallT P f]
    (hc : ∀ w, St W w L₀ → CR P f vs w (Is v)) (h : JD z P ops Q W n L₀ ord ((d, v) :: e) L) (hL : ∀ w, St W w L → St W w L₀ := by first | exact fun _ h => h | assumption | fail)
    (hi : ops[i]? = some o := by rfl) (hd : o.dst = some d := by rfl) (ho : o.op = .call { callee := .value (.func f), args := xs.toArray, argTypes := tys } := by rfl) (hv : e.evs xs = some vs := by rfl) (hn : Nat.blt d n = true := by rfl)
    (hg : Wants ops e o.guard := by first | exact .none | exact .some rfl rfl rfl rfl | exact .some rfl rfl rfl (by assumption) | fail) : JD z P ops Q W n L₀ ((i, false) :: ord) e L :=
  jd_first h hi (fun a ha => ⟨.inl ⟨hg.ok ha, fun w hs => by
    have hrun : (execOp a.eval o).run P w = .ok (.enter f vs.toArray) w := by
      simp [execOp, ho, resolve, invoke, Act.eval, Deferred.ofValue, ← ha.evs hv, hf.ok]
    rw [hrun]
    refine ⟨.refl, (hc w hs).run.mono ?_⟩
    rintro x w' ⟨v', M, rfl, hs', rfl, rfl⟩
    exact ⟨rfl, fun L' h' => by simpa using h'.trans hs'⟩⟩, by rw [hd]; exact ha.put (by simpa using hn) v⟩) hL
/-- Where nothing else may come up, any rule of the plain walk serves. -/
theorem jd_do {i : Nat} {o : Oper} (h : J P ops (QD z P ops Q W n L₀ (lateB z ops i) ord) W n [o] e L) (hi : ops[i]? = some o := by rfl) : JD z P ops Q W n L₀ ((i, true) :: ord) e L := by
  refine ⟨fun listed a w hcl hn hl hk ha hs => ?_⟩
  simp only [okOrd, Bool.and_eq_true, beq_iff_eq] at hk
  refine ⟨fun h0 => (by rw [hk.1] at h0; cases h0), fun j hj => ?_⟩
  rw [hk.1] at hj
  obtain rfl : j = i := by simpa using hj
  have h1 := h.run a w ha hs
  have step : ∀ a' w', QD z P ops Q W n L₀ (lateB z ops j) ord .normal a' w' → (lateB z ops j = false → St W w' L₀) ∧ ∀ w2, Gw W w' w2 → gAny z P ops W L₀ (Q .normal) ord.length (listed.setIfInBounds j true) a' w2 := fun a' w' hq => by
    obtain ⟨e', L', g1, g2, g3, g4⟩ := hq.run
    exact ⟨g3, fun w2 hg => g4.run _ _ _ (hcl.set (by rw [hk.1]; simp)) hn hl hk.2 g1 (hg _ g2)⟩
  unfold gOp
  simp only [hi]
  simp only [wpList] at h1
  split
  · rename_i hw
    rw [if_pos hw] at h1
    rcases h1 with h1 | ⟨_, a', w', h1⟩
    · exact upon_wk (fun x a w hq => hq.norm) step h1
    · exact absurd h1.norm (by simp)
  · rename_i hw
    rw [if_neg (by simpa using hw)] at h1
    exact step _ _ h1
theorem jx_qd {late : Bool} (h : JD z P ops Q W n L₀ ord e L) (hL : late = false → ∀ w, St W w L → St W w L₀) : JX (QD z P ops Q W n L₀ late ord) .normal W n e L :=
  ⟨fun a w ha hs => ⟨rfl, e, L, ha, hs, fun hl => hL hl w hs, h⟩⟩
end

section

variable {z : Bool} {P : Program} {ops : Array Oper} {Q : Exit → Act → World → Prop} {W : World} {n : Nat} {ld : Nat → Oper → Bool} {L₀ : List Hp} {rest : List (Nat × Oper)} {e : Env} {L : List Hp}

def lexP : Nat → List Oper → List (Nat × Oper)
  | _, [] => []
  | k, o :: r => (k, o) :: lexP (k + 1) r
def pickP (l : List Oper) : List Nat → List (Nat × Oper)
  | [] => []
  | i :: r => (i, match l[i]? with | some o => o | none => default) :: pickP l r
def flagsP (ld : Nat → Oper → Bool) : List (Nat × Oper) → List (Nat × Bool)
  | [] => []
  | p :: r => (p.1, ld p.1 p.2) :: flagsP ld r
/-- Which operations are taken where nothing else may come up: those that make memory; from place 'k' on all. -/
def ldB (_ : Nat) (o : Oper) : Bool := loudB o
def ldK (k : Nat) (i : Nat) (o : Oper) : Bool := loudB o || Nat.ble k i
structure JP (z : Bool) (P : Program) (ops : Array Oper) (Q : Exit → Act → World → Prop) (W : World) (n : Nat) (ld : Nat → Oper → Bool) (L₀ : List Hp) (rest : List (Nat × Oper)) (e : Env) (L : List Hp) : Prop where
  run : JD z P ops Q W n L₀ (flagsP ld rest) e L
def noGrow (l : List Oper) : Bool := l.all fun o => !loudB o || (match o.op with | .store .. => true | _ => false)
theorem jc_lexA {i : Nat} {l : List Oper} (L₀ : List Hp) (h : JP true P l.toArray Q W n ldB L₀ (lexP 0 l) e L) (hm : P.follows .mixedOrders = true := by rfl)
    (hk : ((flagsP ldB (lexP 0 l)).length == l.length && Region.noSelect l.toArray && lateOk true l.toArray && okOrd true l.toArray (flagsP ldB (lexP 0 l)) (Array.replicate l.length false)) = true := by kernel_rfl) : JC P (.region i l.toArray true) Q W n e L := jc_draws L₀ h.run hm hk
theorem jc_lex {i : Nat} {l : List Oper} (h : JP true P l.toArray Q W n ldB L (lexP 0 l) e L) (hg : noGrow l = true := by rfl) (hm : P.follows .mixedOrders = true := by rfl)
    (hk : ((flagsP ldB (lexP 0 l)).length == l.length && Region.noSelect l.toArray && lateOk true l.toArray && okOrd true l.toArray (flagsP ldB (lexP 0 l)) (Array.replicate l.length false)) = true := by kernel_rfl) : JC P (.region i l.toArray true) Q W n e L := jc_draws L h.run hm hk
theorem jc_ord {i : Nat} {l : List Oper} (L₀ : List Hp) (is : List Nat) (h : JP true P l.toArray Q W n ldB L₀ (pickP l is) e L) (hm : P.follows .mixedOrders = true := by rfl)
    (hk : ((flagsP ldB (pickP l is)).length == l.length && Region.noSelect l.toArray && lateOk true l.toArray && okOrd true l.toArray (flagsP ldB (pickP l is)) (Array.replicate l.length false)) = true := by kernel_rfl) : JC P (.region i l.toArray true) Q W n e L := jc_draws L₀ h.run hm hk
theorem jc_lexK {i : Nat} {l : List Oper} (k : Nat) (L₀ : List Hp) (h : JP true P l.toArray Q W n (ldK k) L₀ (lexP 0 l) e L) (hm : P.follows .mixedOrders = true := by rfl)
    (hk : ((flagsP (ldK k) (lexP 0 l)).length == l.length && Region.noSelect l.toArray && lateOk true l.toArray && okOrd true l.toArray (flagsP (ldK k) (lexP 0 l)) (Array.replicate l.length false)) = true := by kernel_rfl) : JC P (.region i l.toArray true) Q W n e L := jc_draws L₀ h.run hm hk
theorem jc_lexK0 {i : Nat} {l : List Oper} (k : Nat) (h : JP true P l.toArray Q W n (ldK k) L (lexP 0 l) e L) (hm : P.follows .mixedOrders = true := by rfl)
    (hk : ((flagsP (ldK k) (lexP 0 l)).length == l.length && Region.noSelect l.toArray && lateOk true l.toArray && okOrd true l.toArray (flagsP (ldK k) (lexP 0 l)) (Array.replicate l.length false)) = true := by kernel_rfl) : JC P (.region i l.toArray true) Q W n e L := jc_draws L h.run hm hk
theorem jp_nil (h : JX Q .normal W n e L) : JP z P ops Q W n ld L₀ [] e L := ⟨jd_nil h⟩
theorem jp_op {i : Nat} {o : Oper} {v : Value} {d : Nat} (h : JP z P ops Q W n ld L₀ rest ((d, v) :: e) L) (hl : ld i o = false := by rfl) (hi : ops[i]? = some o := by rfl) (hd : o.dst = some d := by rfl) (hn : Nat.blt d n = true := by rfl) (hg : Wants ops e o.guard := by first | exact .none | exact .some rfl rfl rfl rfl | exact .some rfl rfl rfl (by assumption) | fail)
    (hL : ∀ w, St W w L → St W w L₀ := by first | exact fun _ h => h | exact fun _ h => St.sel (by repeat (first | exact .nil | apply Sel.cons (by repeat (first | exact .here | exact .e rfl | apply Rm.there)))) h | fail)
    (hq : QOp P o W n e L₀ v := by first | (show QOp _ ⟨_, .move _, _, _, _, _⟩ _ _ _ _ _; first | exact q_move rfl rfl | fail) | (show QOp _ ⟨_, .assign _, _, _, _, _⟩ _ _ _ _ _; first | exact q_assign rfl rfl | fail) | (show QOp _ ⟨_, .load _ _, _, _, _, _⟩ _ _ _ _ _; first | exact q_load rfl rfl (by first | exact src_box (by repeat (first | exact .here | apply InL.there)) | exact src_old (by assumption) | exact src_sub (by assumption) (by repeat (first | exact .here | apply InL.there)) | fail) (by repeat constructor) (by constructor) | fail) | (show QOp _ ⟨_, .fieldAddr _ _ _, _, _, _, _⟩ _ _ _ _ _; first | exact q_fieldAddr rfl rfl | fail) | (show QOp _ ⟨_, .indexAddr _ _ _, _, _, _, _⟩ _ _ _ _ _; first | exact q_indexAddr rfl rfl rfl (by first | assumption | omega | fail) (by first | assumption | exact fun _ => rfl | fail) | exact q_indexAddrI rfl rfl rfl (by omega) (by omega) (by first | assumption | exact fun _ => rfl | fail) | fail) | (show QOp _ ⟨_, .binOp .eql _ _ _ _, _, _, _, _⟩ _ _ _ _ _; first | exact q_eql rfl rfl rfl | exact q_seq rfl rfl rfl | exact q_beq rfl rfl rfl | fail) | (show QOp _ ⟨_, .binOp .neq _ _ _ _, _, _, _, _⟩ _ _ _ _ _; first | exact q_neq rfl rfl rfl | exact q_sne rfl rfl rfl | exact q_bne rfl rfl rfl | fail) | (show QOp _ ⟨_, .binOp .lss _ _ _ _, _, _, _, _⟩ _ _ _ _ _; first | exact q_lss rfl rfl rfl | exact q_slt rfl rfl rfl | fail) | (show QOp _ ⟨_, .binOp .leq _ _ _ _, _, _, _, _⟩ _ _ _ _ _; first | exact q_leq rfl rfl rfl | fail) | (show QOp _ ⟨_, .binOp .gtr _ _ _ _, _, _, _, _⟩ _ _ _ _ _; first | exact q_gtr rfl rfl rfl | fail) | (show QOp _ ⟨_, .binOp .geq _ _ _ _, _, _, _, _⟩ _ _ _ _ _; first | exact q_geq rfl rfl rfl | exact q_sge rfl rfl rfl | fail) | (show QOp _ ⟨_, .binOp .add _ _ _ _, _, _, _, _⟩ _ _ _ _ _; first | exact q_add rfl rfl rfl (by omega) | exact q_cat rfl rfl rfl (by first | assumption | omega | (simp only [ByteArray.size_append, str_size, oneB_size, sz_lit, List.size_toArray, List.length_cons, List.length_nil]; omega) | fail) | fail) | (show QOp _ ⟨_, .binOp .sub _ _ _ _, _, _, _, _⟩ _ _ _ _ _; first | exact q_sub rfl rfl rfl (by omega) | fail) | (show QOp _ ⟨_, .binOp .rem _ _ _ _, _, _, _, _⟩ _ _ _ _ _; first | exact q_rem rfl rfl rfl (by first | decide | omega | fail) | fail) | (show QOp _ ⟨_, .binOp .quo _ _ _ _, _, _, _, _⟩ _ _ _ _ _; first | exact q_quow rfl rfl rfl (by first | decide | omega | fail) | fail) | (show QOp _ ⟨_, .binOp .mul _ _ _ _, _, _, _, _⟩ _ _ _ _ _; first | exact q_mul rfl rfl rfl (by omega) | exact q_mulw rfl rfl rfl | fail) | (show QOp _ ⟨_, .pick _ _ _, _, _, _, _⟩ _ _ _ _ _; first | exact q_pick_t rfl rfl rfl (by first | rfl | assumption | exact decide_eq_true (by first | assumption | omega | fail) | exact eq_t (by first | assumption | omega | fail) | exact ne_t (by first | assumption | omega | fail) | exact not_t (by assumption) | fail) | exact q_pick_f rfl rfl rfl (by first | rfl | assumption | exact decide_eq_false (by first | assumption | omega | fail) | exact eq_f (by first | assumption | omega | fail) | exact ne_f (by first | assumption | omega | fail) | exact not_f (by assumption) | fail) | fail) | (show QOp _ ⟨_, .unOp .not _ _, _, _, _, _⟩ _ _ _ _ _; first | exact q_not rfl rfl | fail) | (show QOp _ ⟨_, .unOp .neg _ _, _, _, _, _⟩ _ _ _ _ _; first | exact q_neg rfl rfl (by omega) | fail) | (show QOp _ ⟨_, .call _, _, _, _, _⟩ _ _ _ _ _; first | exact q_len rfl rfl | exact q_lenS rfl rfl | fail) | (show QOp _ ⟨_, .extract _ _, _, _, _, _⟩ _ _ _ _ _; first | exact q_extract rfl rfl rfl | fail) | (show QOp _ ⟨_, .index _ _ _, _, _, _, _⟩ _ _ _ _ _; first | exact q_index rfl rfl rfl rfl (by first | assumption | omega | fail) | fail) | (show QOp _ ⟨_, .field _ _ _, _, _, _, _⟩ _ _ _ _ _; first | exact q_field rfl rfl (by repeat constructor) (by constructor) | fail) | (show QOp _ ⟨_, .nilCheck _, _, _, _, _⟩ _ _ _ _ _; first | exact q_nilCheck rfl rfl | fail) | (show QOp _ ⟨_, .convert _ _ _, _, _, _, _⟩ _ _ _ _ _; first | exact q_convI rfl rfl | exact q_conv1 rfl rfl (by first | exact src_box (by repeat (first | exact .here | apply InL.there)) | fail) | fail) | fail) : JP z P ops Q W n ld L₀ ((i, o) :: rest) e L := ⟨by simp only [flagsP, hl]; exact jd_q h.run hi hq hL hd hn hg⟩
theorem jp_build {i : Nat} {o : Oper} {v : Value} {d : Nat} (h : JP z P ops Q W n ld L₀ rest ((d, v) :: e) L) (hl : ld i o = false := by rfl) (hi : ops[i]? = some o := by rfl) (hd : o.dst = some d := by rfl) (hn : Nat.blt d n = true := by rfl) (hg : Wants ops e o.guard := by first | exact .none | exact .some rfl rfl rfl rfl | exact .some rfl rfl rfl (by assumption) | fail)
    (hL : ∀ w, St W w L → St W w L₀ := by first | exact fun _ h => h | exact fun _ h => St.sel (by repeat (first | exact .nil | apply Sel.cons (by repeat (first | exact .here | exact .e rfl | apply Rm.there)))) h | fail)
    (hq : QOp P o W n e L₀ v := by first | (show QOp _ ⟨_, .build _ _, _, _, _, _⟩ _ _ _ _ _; exact q_build rfl (by repeat (first | exact .nil | apply Bld.cons rfl rfl rfl rfl (by repeat constructor) | fail))) | fail) : JP z P ops Q W n ld L₀ ((i, o) :: rest) e L := ⟨by simp only [flagsP, hl]; exact jd_q h.run hi hq hL hd hn hg⟩
theorem jp_skip {i : Nat} {o oj : Oper} {d j dj : Nat} {b b' : Bool} (h : JP z P ops Q W n ld L₀ rest ((d, undef) :: e) L) (hl : ld i o = false := by rfl) (hi : ops[i]? = some o := by rfl) (hd : o.dst = some d := by rfl) (hn : Nat.blt d n = true := by rfl) (hg : o.guard = some (j, b) := by rfl) (hj : ops[j]? = some oj := by rfl) (hdj : oj.dst = some dj := by rfl) (hb : e.get dj = some (.bool b') := by rfl) (hbb : b' = !b := by first | rfl | assumption | fail)
    (hL : ∀ w, St W w L → St W w L₀ := by first | exact fun _ h => h | exact fun _ h => St.sel (by repeat (first | exact .nil | apply Sel.cons (by repeat (first | exact .here | exact .e rfl | apply Rm.there)))) h | fail) : JP z P ops Q W n ld L₀ ((i, o) :: rest) e L :=
  ⟨by simp only [flagsP, hl]; exact jd_skip h.run hL hi hd hn hg hj hdj hb hbb⟩
theorem jp_skipU {i : Nat} {o oj : Oper} {d j dj : Nat} {b : Bool} (h : JP z P ops Q W n ld L₀ rest ((d, undef) :: e) L) (hl : ld i o = false := by rfl) (hi : ops[i]? = some o := by rfl) (hd : o.dst = some d := by rfl) (hn : Nat.blt d n = true := by rfl) (hg : o.guard = some (j, b) := by rfl) (hj : ops[j]? = some oj := by rfl) (hdj : oj.dst = some dj := by rfl) (hb : e.get dj = some undef := by rfl)
    (hL : ∀ w, St W w L → St W w L₀ := by first | exact fun _ h => h | exact fun _ h => St.sel (by repeat (first | exact .nil | apply Sel.cons (by repeat (first | exact .here | exact .e rfl | apply Rm.there)))) h | fail) : JP z P ops Q W n ld L₀ ((i, o) :: rest) e L :=
  ⟨by simp only [flagsP, hl]; exact jd_skipU h.run hL hi hd hn hg hj hdj hb⟩
theorem jp_call {i : Nat} {o : Oper} {d : Nat} {f : FuncId} {xs : List Operand} {tys : Array TypeId} {vs : List Value} {v : Value} [hf : CallT P f]
    (hc : ∀ w, St W w L₀ → CR P f vs w (Is v)) (h : JP z P ops Q W n ld L₀ rest ((d, v) :: e) L)
    (hi : ops[i]? = some o := by rfl) (hd : o.dst = some d := by rfl) (ho : o.op = .call { callee := .value (.func f), args := xs.toArray, argTypes := tys } := by rfl) (hv : e.evs xs = some vs := by rfl) (hn : Nat.blt d n = true := by rfl)
    (hg : Wants ops e o.guard := by first | exact .none | exact .some rfl rfl rfl rfl | exact .some rfl rfl rfl (by assumption) | fail)
    (hL : ∀ w, St W w L → St W w L₀ := by first | exact fun _ h => h | exact fun _ h => St.sel (by repeat (first | exact .nil | apply Sel.cons (by repeat (first | exact .here | exact .e rfl | apply Rm.there)))) h | fail) (hl : ld i o = false := by rfl) : JP z P ops Q W n ld L₀ ((i, o) :: rest) e L :=
  ⟨by simp only [flagsP, hl]; exact jd_call hc h.run hL hi hd ho hv hn hg⟩
theorem jp_do {i : Nat} {o : Oper} (h : J P ops (QD z P ops Q W n L₀ (lateB z ops i) (flagsP ld rest)) W n [o] e L) (hl : ld i o = true := by rfl) (hi : ops[i]? = some o := by rfl) : JP z P ops Q W n ld L₀ ((i, o) :: rest) e L :=
  ⟨by simp only [flagsP, hl]; exact jd_do h hi⟩
theorem jx_qp {late : Bool} (h : JP z P ops Q W n ld L₀ rest e L) (hL : late = false → ∀ w, St W w L → St W w L₀ := by first | exact fun h => Bool.noConfusion h | exact fun _ _ h => h | exact fun _ _ h => St.sel (by repeat (first | exact .nil | apply Sel.cons (by repeat (first | exact .here | exact .e rfl | apply Rm.there)))) h | fail) : JX (QD z P ops Q W n L₀ late (flagsP ld rest)) .normal W n e L :=
  jx_qd h.run hL
end

end Go.Proofs.YtiobmbicldjikaaGreatDoor
