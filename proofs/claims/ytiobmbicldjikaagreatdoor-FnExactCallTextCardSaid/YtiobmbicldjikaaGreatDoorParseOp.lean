/- Operations and events read from their texts: plain laws. No condition. -/
import Derived.Test.YtiobmbicldjikaaGreatDoorParse

import Derived.Test.YtiobmbicldjikaaGreatDoorAnswer

set_option linter.unusedVariables false

namespace Go.Proofs.YtiobmbicldjikaaGreatDoor

/-! ### What the normal form's parts are -/

structure SPart (p : DPart) : Prop where
  a : p.kind ≠ 2 → p.signs = []
  b : p.kind = 2 → p.n = 0
theorem spart1 (n : Int) : SPart ⟨1, n, []⟩ := ⟨fun _ => rfl, fun h => absurd (show (1 : Int) = 2 from h) (by decide)⟩
theorem spart3 (n : Int) : SPart ⟨3, n, []⟩ := ⟨fun _ => rfl, fun h => absurd (show (3 : Int) = 2 from h) (by decide)⟩
theorem spart2 (l : List Int) : SPart ⟨2, 0, l⟩ := ⟨fun h => absurd rfl h, fun _ => rfl⟩
theorem keepOn_sp {o : List DPart} {n : Int} (h : ∀ p ∈ o, SPart p) : ∀ p ∈ keepOn o n, SPart p := by
  have h0 : ∀ p ∈ o ++ [⟨1, n, []⟩], SPart p := by
    intro p hp
    rcases List.mem_append.1 hp with hp | hp
    · exact h p hp
    · obtain rfl := List.mem_singleton.1 hp; exact spart1 n
  unfold keepOn; split
  · split
    · intro p hp
      rename_i hl hk
      rcases List.mem_or_eq_of_mem_set hp with hp | rfl
      · exact h p hp
      · exact ⟨fun _ => (h _ (List.getElem_mem hl)).a (by omega), fun e => absurd (show o[lastIx o].kind = 2 from e) (by omega)⟩
    · exact h0
  · exact h0
theorem ns_sp (l : List DPart) : ∀ k, k ≤ l.length → ∀ p ∈ (ns l k).out, SPart p
  | 0, _ => by simp [ns]
  | k + 1, hk => by
    have ih := ns_sp l k (by omega)
    rw [ns_succ (by omega)]
    unfold nstep
    split
    · exact ih
    · split
      · exact ih
      · split
        · exact keepOn_sp (flushF_mem ih (fun _ => spart2 _) (spart3 _))
        · exact ih
theorem opNorm_sp (l : List DPart) : ∀ p ∈ opNorm l, SPart p := by
  unfold opNorm
  split
  · exact flushF_mem (ns_sp l l.length (Nat.le_refl _)) (fun _ => spart2 _) (spart3 _)
  · simp
/-! ### Words for parts -/

def iPart (w : List UInt8) : Option DPart := match w with
  | [] => none
  | c :: r => (dotsR r).bind fun l => match l with
    | [] => none
    | z :: _ => some (if c = 107 then ⟨1, z, []⟩ else if c = 100 then ⟨3, z, []⟩ else ⟨2, 0, l⟩)
def sPart (w : List UInt8) : Option DPart := match w with
  | [] => none
  | c :: r => if c = 107 then (numR r).map fun z => ⟨1, z, []⟩ else if c = 100 then (numR r).map fun z => ⟨3, z, []⟩ else if c = 112 then (signR r).map fun l => ⟨2, 0, l⟩ else (numR r).map fun z => ⟨0, z, []⟩
structure GPart (p : DPart) : Prop where
  n : NPart p
  s : SPart p
theorem GPart.inn {p : DPart} (h : GPart p) : inR p.n 0 1000000000 = true := by
  have := h.n.n
  simp only [inR, Bool.and_eq_true, decide_eq_true_eq]
  omega
theorem dotsR_num {z : Int} (h : inR z 0 1000000000 = true) : dotsR (numT z) = some [z] := by
  have := dotsR_dotsT (l := [z]) (by simpa using h) (by simp)
  rwa [show dotsT [z] = numT z by simp [dotsT, join_one]] at this
theorem iPart_partT {p : DPart} (h : GPart p) : iPart (partT p) = some p := by
  obtain ⟨kind, n, signs⟩ := p
  have hi := h.inn
  have hk := h.n.kind
  have hs := h.s
  have hsg := h.n.sg
  dsimp only at hi hk hsg
  have ha := hs.a
  have hb := hs.b
  dsimp only at ha hb
  unfold partT iPart
  rcases hk with rfl | rfl | rfl
  · simp [dotsR_num hi, ha]
  · obtain ⟨h1, h2⟩ := hsg rfl
    have hne : signs ≠ [] := List.length_pos_iff.1 h2
    have hd := dotsR_dotsT (fun z hz => signOk_in (List.all_eq_true.1 h1 z hz)) hne
    obtain ⟨z, r, rfl⟩ := List.exists_cons_of_ne_nil hne
    simp [hd, hb]
  · simp [dotsR_num hi, ha]
theorem sPart_partT {p : DPart} (h : GPart p) : sPart (partT p) = some p := by
  obtain ⟨kind, n, signs⟩ := p
  have hi := h.inn
  have hk := h.n.kind
  have hs := h.s
  have hsg := h.n.sg
  dsimp only at hi hk hsg
  have ha := hs.a
  have hb := hs.b
  dsimp only at ha hb
  unfold partT sPart
  rcases hk with rfl | rfl | rfl
  · simp [numR_numT hi, ha]
  · obtain ⟨h1, h2⟩ := hsg rfl
    have hd := signR_signT h1
    rw [signT_eq (hsg rfl)] at hd
    simp [hd, hb]
  · simp [numR_numT hi, ha]
theorem mem_join {c : UInt8} {sep : List UInt8} : ∀ {ws : List (List UInt8)}, c ∈ Lib.join ws sep → c ∈ sep ∨ ∃ w ∈ ws, c ∈ w
  | [], h => by rw [join_nil] at h; cases h
  | [x], h => by rw [join_one] at h; exact .inr ⟨x, by simp, h⟩
  | x :: y :: r, h => by
    rw [join_two, List.mem_append, List.mem_append] at h
    rcases h with (h | h) | h
    · exact .inr ⟨x, by simp, h⟩
    · exact .inl h
    · rcases mem_join h with h | ⟨w, hw, h⟩
      · exact .inl h
      · exact .inr ⟨w, List.mem_cons_of_mem _ hw, h⟩
theorem dotsT_ch {l : List Int} : ∀ c ∈ dotsT l, c = 46 ∨ (48 ≤ c.toNat ∧ c.toNat ≤ 57) := fun c hc => by
  rcases mem_join hc with h | ⟨w, hw, h⟩
  · exact .inl (by simpa using h)
  · obtain ⟨z, _, rfl⟩ := List.mem_map.1 hw
    exact .inr (numT_dig z c h)
theorem partT_no {p : DPart} {b : UInt8} (h1 : b ≠ 107) (h2 : b ≠ 100) (h3 : b ≠ 112) (h4 : b ≠ 46) (h5 : ¬ (48 ≤ b.toNat ∧ b.toNat ≤ 57)) : b ∉ partT p := fun h => by
  unfold partT at h
  split at h
  · rcases List.mem_cons.1 h with h | h
    · exact h1 h
    · exact h5 (numT_dig _ _ h)
  · split at h
    · rcases List.mem_cons.1 h with h | h
      · exact h2 h
      · exact h5 (numT_dig _ _ h)
    · rcases List.mem_cons.1 h with h | h
      · exact h3 h
      · rcases dotsT_ch _ h with h | h
        · exact h4 h
        · exact h5 h
theorem partT_no32 (p : DPart) : (32 : UInt8) ∉ partT p := partT_no (by decide) (by decide) (by decide) (by decide) (by decide)
theorem partT_no44 (p : DPart) : (44 : UInt8) ∉ partT p := partT_no (by decide) (by decide) (by decide) (by decide) (by decide)
theorem partT_bar (p : DPart) : partT p ≠ [45] := by unfold partT; split <;> (try split) <;> simp
theorem joinP_bar {l : List DPart} (h : l ≠ []) : Lib.join (l.map partT) [32] ≠ [45] := fun e => by
  have h1 := splitW_join (b := 32) (ws := l.map partT) (fun w hw => by obtain ⟨p, _, rfl⟩ := List.mem_map.1 hw; exact partT_no32 p) (by simpa using h)
  rw [e, show splitW 32 [45] = [[45]] by decide] at h1
  cases l with
  | nil => exact h rfl
  | cons p r => rw [List.map_cons] at h1; exact partT_bar p (List.cons.inj h1).1.symm
/-! ### Operations -/

def NormOp (o : List DPart) : Prop := opOk o = true ∧ opNorm o = o
def iOpR (s : List UInt8) : Option (List DPart) := if s = [45] then some [] else ((splitW 32 s).mapM iPart).bind fun o => if opOk o = true ∧ opT o = s then some (opNorm o) else none
def sOpR (s : List UInt8) : Option (List DPart) := if s = [45] then some [] else ((splitW 32 s).mapM sPart).bind fun o => if opOk o = true ∧ opNorm o = o ∧ opT o = s then some o else none
theorem normOp_nil : NormOp [] := by constructor <;> decide
theorem opT_nil : opT [] = [45] := by decide
theorem opNorm_g (l : List DPart) : ∀ p ∈ opNorm l, GPart p := fun p hp => ⟨opNorm_mem l p hp, opNorm_sp l p hp⟩
theorem opT_some {o : List DPart} (h : opOk o = true) (hn : opNorm o ≠ []) : opT o = Lib.join ((opNorm o).map partT) [32] := by
  unfold opT
  rw [h, if_pos rfl, if_neg (fun e => hn (List.eq_nil_of_length_eq_zero e))]
theorem opT_none {o : List DPart} (h : opOk o = true) (hn : opNorm o = []) : opT o = [45] := by
  unfold opT
  rw [h, hn]; rfl
theorem split_opT {o : List DPart} (h : opOk o = true) (hn : opNorm o ≠ []) : splitW 32 (opT o) = (opNorm o).map partT := by
  rw [opT_some h hn]
  exact splitW_join (fun w hw => by obtain ⟨p, _, rfl⟩ := List.mem_map.1 hw; exact partT_no32 p) (by simpa using hn)
theorem opT_bar {o : List DPart} (h : opOk o = true) (hn : opNorm o ≠ []) : opT o ≠ [45] := by rw [opT_some h hn]; exact joinP_bar hn
theorem iOpR_norm {o : List DPart} (h : NormOp o) : iOpR (opT o) = some o := by
  unfold iOpR
  by_cases h0 : o = []
  · subst h0; rw [opT_nil, if_pos rfl]
  · have hn : opNorm o ≠ [] := by rw [h.2]; exact h0
    rw [if_neg (opT_bar h.1 hn), split_opT h.1 hn, mapM_map_some (fun p hp => iPart_partT (opNorm_g o p hp)), Option.bind_some, h.2, if_pos ⟨h.1, rfl⟩, h.2]
theorem sOpR_norm {o : List DPart} (h : NormOp o) : sOpR (opT o) = some o := by
  unfold sOpR
  by_cases h0 : o = []
  · subst h0; rw [opT_nil, if_pos rfl]
  · have hn : opNorm o ≠ [] := by rw [h.2]; exact h0
    rw [if_neg (opT_bar h.1 hn), split_opT h.1 hn, mapM_map_some (fun p hp => sPart_partT (opNorm_g o p hp)), Option.bind_some, h.2, if_pos ⟨h.1, h.2, rfl⟩]
theorem iOpR_some {s : List UInt8} {o : List DPart} (h : iOpR s = some o) : NormOp o ∧ opT o = s := by
  unfold iOpR at h
  split at h
  · rename_i he
    obtain rfl := Option.some.inj h
    exact ⟨normOp_nil, he ▸ opT_nil⟩
  · rename_i he
    cases hp : (splitW 32 s).mapM iPart with
    | none => rw [hp] at h; cases h
    | some q =>
      rw [hp, Option.bind_some] at h
      split at h
      · rename_i hc
        obtain rfl := Option.some.inj h
        obtain ⟨h1, h2⟩ := hc
        have hn : opNorm q ≠ [] := fun e => he (by rw [← h2]; exact opT_none h1 e)
        have h3 := split_opT h1 hn
        rw [h2] at h3
        rw [h3, mapM_map_some (fun p hp => iPart_partT (opNorm_g q p hp))] at hp
        have h4 : opNorm q = q := Option.some.inj hp
        rw [h4]
        exact ⟨⟨h1, h4⟩, h2⟩
      · cases h
theorem sOpR_some {s : List UInt8} {o : List DPart} (h : sOpR s = some o) : NormOp o ∧ opT o = s := by
  unfold sOpR at h
  split at h
  · rename_i he
    obtain rfl := Option.some.inj h
    exact ⟨normOp_nil, he ▸ opT_nil⟩
  · cases hp : (splitW 32 s).mapM sPart with
    | none => rw [hp] at h; cases h
    | some q =>
      rw [hp, Option.bind_some] at h
      split at h
      · rename_i hc
        obtain rfl := Option.some.inj h
        exact ⟨⟨hc.1, hc.2.1⟩, hc.2.2⟩
      · cases h
theorem opR_eq (s : List UInt8) : iOpR s = sOpR s := by
  cases h : iOpR s with
  | some o =>
    obtain ⟨h1, h2⟩ := iOpR_some h
    rw [← h2, sOpR_norm h1]
  | none =>
    cases h' : sOpR s with
    | none => rfl
    | some o =>
      obtain ⟨h1, h2⟩ := sOpR_some h'
      rw [← h2, iOpR_norm h1] at h
      cases h
/-! In one word: commas for blanks. -/

def cu (c : UInt8) : UInt8 := if c = 44 then 32 else c
def cs (c : UInt8) : UInt8 := if c = 44 then 32 else if c = 32 then 44 else c
theorem opT_no44 (o : List DPart) : (44 : UInt8) ∉ opT o := fun h => by
  unfold opT at h
  split at h
  · split at h
    · revert h; decide
    · rcases mem_join h with h | ⟨w, hw, h⟩
      · revert h; decide
      · obtain ⟨p, _, rfl⟩ := List.mem_map.1 hw
        exact partT_no44 p h
  · cases h
theorem back_map {f : UInt8 → UInt8} (hf : ∀ c, c ≠ 44 → f (cm c) = c) {l : List UInt8} (h : (44 : UInt8) ∉ l) : (l.map cm).map f = l := by
  rw [List.map_map]
  have : ∀ c ∈ l, (f ∘ cm) c = c := fun c hc => hf c (fun e => h (e ▸ hc))
  rw [List.map_congr_left this, List.map_id']
theorem cu_cm (c : UInt8) (h : c ≠ 44) : cu (cm c) = c := by
  unfold cm cu
  by_cases h1 : c = 32
  · subst h1; rfl
  · rw [if_neg h1, if_neg h]
theorem cs_cm (c : UInt8) (h : c ≠ 44) : cs (cm c) = c := by
  unfold cm cs
  by_cases h1 : c = 32
  · subst h1; rfl
  · rw [if_neg h1, if_neg h, if_neg h1]
def iWordR (s : List UInt8) : Option (List DPart) := iOpR (s.map cu)
def sWordR (s : List UInt8) : Option (List DPart) := sOpR (s.map cs)
theorem iWordR_norm {o : List DPart} (h : NormOp o) : iWordR (opW o) = some o := by unfold iWordR opW; rw [back_map cu_cm (opT_no44 o), iOpR_norm h]
theorem sWordR_norm {o : List DPart} (h : NormOp o) : sWordR (opW o) = some o := by unfold sWordR opW; rw [back_map cs_cm (opT_no44 o), sOpR_norm h]
theorem opW_no32 (o : List DPart) : (32 : UInt8) ∉ opW o := fun h => by
  unfold opW at h
  obtain ⟨c, hc, he⟩ := List.mem_map.1 h
  unfold cm at he
  split at he
  · revert he; decide
  · exact absurd he (by assumption)
theorem getD_norm_i (s : List UInt8) : NormOp ((iWordR s).getD []) := by
  cases h : iWordR s with
  | none => exact normOp_nil
  | some o => exact (iOpR_some h).1
theorem getD_norm_s (s : List UInt8) : NormOp ((sWordR s).getD []) := by
  cases h : sWordR s with
  | none => exact normOp_nil
  | some o => exact (sOpR_some h).1
end Go.Proofs.YtiobmbicldjikaaGreatDoor
