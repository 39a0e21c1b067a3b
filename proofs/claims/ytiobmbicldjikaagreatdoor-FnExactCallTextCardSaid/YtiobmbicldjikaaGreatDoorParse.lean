/- Numbers, signs and operations read from their texts: plain laws. No condition. -/
import Derived.Test.YtiobmbicldjikaaGreatDoorWords

import Derived.Lib.AtoiTie

set_option linter.unusedVariables false

namespace Go.Proofs.YtiobmbicldjikaaGreatDoor

/-! ### Numbers -/

def numR (s : List UInt8) : Option Int := (Lib.decNat s).bind fun n => if numT n = s then some (n : Int) else none
theorem decFrom_snoc (b : UInt8) : ∀ (l : List UInt8) (acc : Nat), Lib.decFrom acc (l ++ [b]) = (Lib.decFrom acc l).bind fun n => (Lib.digitVal b).map fun d => n * 10 + d
  | [], acc => by simp only [List.nil_append, Lib.decFrom]; cases Lib.digitVal b <;> rfl
  | c :: l, acc => by
    simp only [List.cons_append, Lib.decFrom]
    cases Lib.digitVal c with
    | none => rfl
    | some d => exact decFrom_snoc b l _
theorem digitVal_dig {d : Nat} (h : d < 10) : Lib.digitVal (UInt8.ofNat (48 + d)) = some d := by
  have e : (UInt8.ofNat (48 + d)).toNat = 48 + d := by rw [UInt8.toNat_ofNat']; omega
  unfold Lib.digitVal
  rw [e, if_pos ⟨by omega, by omega⟩]
  congr 1; omega
theorem decFrom_digits : ∀ (k u : Nat), u < k → Lib.decFrom 0 (Lib.decDigits u) = some u
  | 0, u, h => by omega
  | k + 1, u, h => by
    rw [Lib.decDigits]
    by_cases h10 : u < 10
    · rw [dif_pos h10]
      have := digitVal_dig h10
      simp only [Lib.decFrom, this]
      congr 1; omega
    · rw [dif_neg h10, decFrom_snoc, decFrom_digits k (u / 10) (by omega), Option.bind_some, digitVal_dig (Nat.mod_lt _ (by decide)), Option.map_some]
      congr 1; omega
theorem decDigits_ne (u : Nat) : Lib.decDigits u ≠ [] := by rw [Lib.decDigits]; split <;> simp
theorem decNat_digits (u : Nat) : Lib.decNat (Lib.decDigits u) = some u := by
  unfold Lib.decNat
  rw [if_neg (by simpa using decDigits_ne u), decFrom_digits (u + 1) u (by omega)]
theorem numR_numT {z : Int} (h : inR z 0 1000000000 = true) : numR (numT z) = some z := by
  have hr := h
  simp only [inR, Bool.and_eq_true, decide_eq_true_eq] at hr
  have e : ((z.toNat : Nat) : Int) = z := by omega
  unfold numR
  rw [numT_in h, decNat_digits, Option.bind_some, e, numT_in h, if_pos rfl]
theorem numT_ne {z : Int} (h : inR z 0 1000000000 = true) : numT z ≠ [] := by rw [numT_in h]; exact decDigits_ne _
theorem numR_some {s : List UInt8} {z : Int} (h : numR s = some z) : inR z 0 1000000000 = true ∧ numT z = s := by
  unfold numR at h
  cases hd : Lib.decNat s with
  | none => rw [hd] at h; cases h
  | some n =>
    rw [hd, Option.bind_some] at h
    split at h
    · rename_i he
      obtain rfl := Option.some.inj h
      refine ⟨?_, he⟩
      cases hb : inR (n : Int) 0 1000000000 with
      | true => rfl
      | false =>
        exfalso
        have : s = [] := by rw [← he, numT, hb]; rfl
        subst this
        simp [Lib.decNat] at hd
    · cases h
theorem numR_nil : numR [] = none := by simp [numR, Lib.decNat]
/-- The digits of a number are digits. -/
theorem decDigits_dig : ∀ (k u : Nat), u < k → ∀ c ∈ Lib.decDigits u, 48 ≤ c.toNat ∧ c.toNat ≤ 57
  | 0, u, h => by omega
  | k + 1, u, h => by
    have e : ∀ d, d < 10 → 48 ≤ (UInt8.ofNat (48 + d)).toNat ∧ (UInt8.ofNat (48 + d)).toNat ≤ 57 := fun d hd => by
      rw [UInt8.toNat_ofNat']; omega
    rw [Lib.decDigits]
    by_cases h10 : u < 10
    · rw [dif_pos h10]
      intro c hc
      obtain rfl := List.mem_singleton.1 hc
      exact e _ h10
    · rw [dif_neg h10]
      intro c hc
      rcases List.mem_append.1 hc with hc | hc
      · exact decDigits_dig k (u / 10) (by omega) c hc
      · obtain rfl := List.mem_singleton.1 hc
        exact e _ (Nat.mod_lt _ (by decide))
theorem numT_dig (z : Int) : ∀ c ∈ numT z, 48 ≤ c.toNat ∧ c.toNat ≤ 57 := by
  cases hb : inR z 0 1000000000 with
  | true => rw [numT_in hb]; exact decDigits_dig _ _ (Nat.lt_succ_self _)
  | false => rw [numT, hb]; simp
/-! What strconv.Atoi says of it. -/

theorem atoi_num {s : List UInt8} {z : Int} (h : numR s = some z) : Lib.atoiAll s = .ok z := by
  obtain ⟨h1, h2⟩ := numR_some h
  have hl := numT_len z
  have hd := numT_dig z
  have hr := h1
  simp only [inR, Bool.and_eq_true, decide_eq_true_eq] at hr
  rw [h2] at hl hd
  rw [Lib.atoiAll_short s (by omega)]
  have hn : Lib.decNat s = some z.toNat := by rw [← h2, numT_in h1]; exact decNat_digits _
  cases s with
  | nil => simp [Lib.decNat] at hn
  | cons c r =>
    have hc := hd c List.mem_cons_self
    have h45 : ¬ (c == 45) = true := by intro e; rw [beq_iff_eq] at e; subst e; simp at hc
    have h43 : ¬ (c == 43) = true := by intro e; rw [beq_iff_eq] at e; subst e; simp at hc
    unfold Lib.atoi
    dsimp only
    rw [if_neg h45, if_neg h43, hn, Option.map_some]
    have : ((z.toNat : Nat) : Int) = z := by omega
    rw [this]; rfl
theorem num_atoi {s : List UInt8} {z : Int} (h : Lib.atoiAll s = .ok z) (h2 : numT z = s) : numR s = some z := by
  cases hb : inR z 0 1000000000 with
  | true => rw [← h2]; exact numR_numT hb
  | false =>
    exfalso
    have : s = [] := by rw [← h2, numT, hb]; rfl
    subst this
    simp [Lib.atoiAll] at h

/-! ### Cutting -/

def splitW (b : UInt8) : List UInt8 → List (List UInt8)
  | [] => [[]]
  | c :: r => if c = b then [] :: splitW b r else match splitW b r with
    | [] => [[c]]
    | h :: t => (c :: h) :: t
theorem splitW_ne (b : UInt8) : ∀ s, splitW b s ≠ []
  | [] => by simp [splitW]
  | c :: r => by
    unfold splitW; split
    · simp
    · split <;> simp
theorem splitW_no {b : UInt8} : ∀ {s : List UInt8}, b ∉ s → splitW b s = [s]
  | [], _ => rfl
  | c :: r, h => by
    have h1 : ¬ c = b := fun e => h (by rw [e]; exact List.mem_cons_self)
    unfold splitW
    rw [if_neg h1, splitW_no (fun e => h (List.mem_cons_of_mem _ e))]
theorem splitW_app {b : UInt8} : ∀ {x : List UInt8} (r : List UInt8), b ∉ x → splitW b (x ++ b :: r) = x :: splitW b r
  | [], r, _ => by simp [splitW]
  | c :: x, r, h => by
    have h1 : ¬ c = b := fun e => h (by rw [e]; exact List.mem_cons_self)
    rw [List.cons_append, splitW, if_neg h1, splitW_app r (fun e => h (List.mem_cons_of_mem _ e))]
theorem splitW_join {b : UInt8} : ∀ {ws : List (List UInt8)}, (∀ w ∈ ws, b ∉ w) → ws ≠ [] → splitW b (Lib.join ws [b]) = ws
  | [], _, h => absurd rfl h
  | [x], h, _ => by rw [join_one]; exact splitW_no (h x (by simp))
  | x :: y :: r, h, _ => by
    rw [join_two, List.append_assoc, List.singleton_append, splitW_app _ (h x (by simp)), splitW_join (fun w hw => h w (List.mem_cons_of_mem _ hw)) (by simp)]
theorem join_cons_cons (c : UInt8) (h : List UInt8) (t : List (List UInt8)) (sep : List UInt8) : Lib.join ((c :: h) :: t) sep = c :: Lib.join (h :: t) sep := by
  rw [Lib.join_cons, Lib.join_cons]; rfl
theorem join_splitW (b : UInt8) : ∀ s, Lib.join (splitW b s) [b] = s
  | [] => by simp [splitW, join_one]
  | c :: r => by
    have ih := join_splitW b r
    have hne := splitW_ne b r
    unfold splitW
    split
    · rename_i h
      subst h
      cases hs : splitW c r with
      | nil => exact absurd hs hne
      | cons x t => rw [hs] at ih; rw [join_two, ih]; rfl
    · cases hs : splitW b r with
      | nil => exact absurd hs hne
      | cons x t => rw [hs] at ih; dsimp only; rw [join_cons_cons, ih]
theorem split_eq (b : UInt8) : ∀ s : List UInt8, Lib.splitK [b] 0 (Lib.count s [b]) s = splitW b s
  | [] => by
    have : Lib.index [] [b] = -1 := rfl
    rw [Lib.count_miss this]; rfl
  | c :: r => by
    have ih := split_eq b r
    by_cases hb : c = b
    · subst hb
      rw [Lib.count_hit (by simp) (index_cons_eq c r), Nat.add_comm]
      simp only [List.length_singleton, Nat.zero_add, List.drop_succ_cons, List.drop_zero]
      unfold Lib.splitK splitW
      rw [index_cons_eq, if_neg (by decide), if_pos rfl]
      simpa using ih
    · have hi := index_cons_ne hb r
      unfold splitW
      rw [if_neg hb]
      rcases Lib.index_spec r [b] with ⟨h1, _⟩ | ⟨i, h1, _⟩
      · rw [h1] at hi
        have hi' : Lib.index (c :: r) [b] = -1 := by simpa using hi
        rw [Lib.count_miss h1] at ih
        rw [Lib.count_miss hi', ← ih]; rfl
      · have hne : ¬ ((i : Int) == -1) = true := by simp
        rw [h1, if_neg hne] at hi
        have hi' : Lib.index (c :: r) [b] = ((i + 1 : Nat) : Int) := by rw [hi]; omega
        rw [Lib.count_hit (by simp) h1, Nat.add_comm] at ih
        unfold Lib.splitK at ih
        rw [h1, if_neg hne] at ih
        rw [Lib.count_hit (by simp) hi', Nat.add_comm]
        unfold Lib.splitK
        have hne2 : ¬ (((i + 1 : Nat) : Int) == -1) = true := by simp; omega
        rw [hi', if_neg hne2, ← ih]
        simp only [List.length_singleton, Int.toNat_natCast, Nat.add_zero, List.take_succ_cons, List.drop_succ_cons]
theorem splitW_len (b : UInt8) (s : List UInt8) : (splitW b s).length ≤ s.length + 1 := by
  induction s with
  | nil => simp [splitW]
  | cons c r ih =>
    unfold splitW; split
    · simp; omega
    · split
      · simp
      · rename_i h; rw [h] at ih; simpa using Nat.le_succ_of_le ih

/-! ### Signs -/

theorem mapM_map_some {α β : Type} {f : β → Option α} {g : α → β} : ∀ {l : List α}, (∀ x ∈ l, f (g x) = some x) → (l.map g).mapM f = some l
  | [], _ => rfl
  | x :: l, h => by
    rw [List.map_cons, List.mapM_cons, h x List.mem_cons_self, mapM_map_some (fun y hy => h y (List.mem_cons_of_mem _ hy))]; rfl
theorem mapM_back {α β : Type} {f : β → Option α} {g : α → β} (hg : ∀ y x, f y = some x → g x = y) : ∀ {l : List β} {r : List α}, l.mapM f = some r → r.map g = l
  | [], r, h => by
    rw [List.mapM_nil] at h
    obtain rfl : [] = r := Option.some.inj h
    rfl
  | y :: l, r, h => by
    rw [List.mapM_cons] at h
    cases hy : f y with
    | none => rw [hy] at h; cases h
    | some x =>
      cases hl : l.mapM f with
      | none => rw [hy, hl] at h; cases h
      | some xs =>
        rw [hy, hl] at h
        obtain rfl : x :: xs = r := Option.some.inj h
        rw [List.map_cons, hg y x hy, mapM_back hg hl]
def dotsR (s : List UInt8) : Option (List Int) := (splitW 46 s).mapM numR
def signR (s : List UInt8) : Option (List Int) := if s = [45] then some [] else (dotsR s).bind fun l => if l.all signOk then some l else none
theorem not_mem_dig {s : List UInt8} (h : ∀ c ∈ s, 48 ≤ c.toNat ∧ c.toNat ≤ 57) {b : UInt8} (hb : ¬ (48 ≤ b.toNat ∧ b.toNat ≤ 57)) : b ∉ s := fun hm => hb (h b hm)
theorem dotsR_dotsT {l : List Int} (h : ∀ z ∈ l, inR z 0 1000000000 = true) (hl : l ≠ []) : dotsR (dotsT l) = some l := by
  unfold dotsR dotsT
  rw [splitW_join (fun w hw => by obtain ⟨z, _, rfl⟩ := List.mem_map.1 hw; exact not_mem_dig (numT_dig z) (by decide)) (by simpa using hl)]
  exact mapM_map_some fun z hz => numR_numT (h z hz)
theorem dotsR_some {s : List UInt8} {l : List Int} (h : dotsR s = some l) : dotsT l = s := by
  unfold dotsR at h
  unfold dotsT
  rw [mapM_back (fun y x hx => (numR_some hx).2) h, join_splitW]
theorem dotsR_bar : dotsR [45] = none := by decide
theorem signOk_in {z : Int} (h : signOk z = true) : inR z 0 1000000000 = true := by
  simp only [signOk, inR, Bool.and_eq_true, decide_eq_true_eq] at h ⊢
  omega
theorem signR_signT {l : List Int} (h : l.all signOk = true) : signR (signT l) = some l := by
  unfold signT signR
  rw [h, if_pos rfl]
  by_cases h0 : l.length = 0
  · obtain rfl := List.eq_nil_of_length_eq_zero h0
    rfl
  · have hd := dotsR_dotsT (fun z hz => signOk_in (List.all_eq_true.1 h z hz)) (fun e => h0 (by rw [e]; rfl))
    rw [if_neg h0, if_neg (fun e => by rw [e, dotsR_bar] at hd; cases hd), hd, Option.bind_some, h, if_pos rfl]
theorem signR_some {s : List UInt8} {l : List Int} (h : signR s = some l) : l.all signOk = true ∧ signT l = s := by
  unfold signR at h
  split at h
  · rename_i he
    obtain rfl := Option.some.inj h
    exact ⟨rfl, he.symm⟩
  · cases hd : dotsR s with
    | none => rw [hd] at h; cases h
    | some m =>
      rw [hd, Option.bind_some] at h
      split at h
      · rename_i ha
        obtain rfl := Option.some.inj h
        refine ⟨ha, ?_⟩
        have := dotsR_some hd
        unfold signT
        rw [ha, if_pos rfl, if_neg, this]
        intro h0
        obtain rfl := List.eq_nil_of_length_eq_zero h0
        exact splitW_ne 46 s (mapM_back (fun y x hx => (numR_some hx).2) hd).symm
      · cases h
end Go.Proofs.YtiobmbicldjikaaGreatDoor
