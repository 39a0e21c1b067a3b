/- Events and calls read from their texts: plain laws. No condition. -/
import Derived.Test.YtiobmbicldjikaaGreatDoorParseOp

set_option linter.unusedVariables false

namespace Go.Proofs.YtiobmbicldjikaaGreatDoor

def nameL (s : ByteArray) : List UInt8 := s.data.toList
theorem str_nameL (s : ByteArray) : str (nameL s) = s := rfl
theorem nameL_str (l : List UInt8) : nameL (str l) = l := rfl
/-- The last of the kinds 1 .. n of that name; 0 where there is none. -/
def lastK (f : Int → ByteArray) (w : List UInt8) : Nat → Int
  | 0 => 0
  | n + 1 => if nameL (f ((n : Int) + 1)) = w then (n : Int) + 1 else lastK f w n
def numAt (ws : List (List UInt8)) (d : Int) (i : Nat) : Int := (numR (ws.getD i [])).getD d
theorem numAt_of {ws : List (List UInt8)} {d z : Int} {i : Nat} (h : inR z 0 1000000000 = true) (hw : ws.getD i [] = numT z) : numAt ws d i = z := by
  unfold numAt; rw [hw, numR_numT h]; rfl

/-! ### Events -/

def evWords (x : DEvent) : List (List UInt8) := nameL (evName x.kind) :: numT x.who :: (if x.kind = 5 then [numT x.n] else if x.kind = 1 then [opW x.o] else [])
structure EvGood (x : DEvent) : Prop where
  k : inR x.kind 1 6 = true
  who : inR x.who 0 1000000000 = true
  n : inR x.n 0 1000000000 = true
  o : opOk x.o = true
  n5 : x.kind ≠ 5 → x.n = 0
  o1 : x.kind ≠ 1 → x.o = []
theorem evGood {x : DEvent} (h : ¬ EvBad x) : EvGood x := by
  unfold EvBad at h
  simp only [not_or] at h
  obtain ⟨h1, h2, h3, h4, h5, h6⟩ := h
  refine ⟨?_, by simpa using h2, by simpa using h3, by simpa using h4, fun hk => ?_, fun hk => ?_⟩
  · cases hb : inR x.kind 1 6 with
    | true => rfl
    | false => exact absurd (evName_no hb) h1
  · by_cases h0 : x.n = 0
    · exact h0
    · exact absurd ⟨hk, h0⟩ h5
  · by_cases h0 : x.o = []
    · exact h0
    · exact absurd ⟨hk, by have := List.length_pos_iff.2 h0; omega⟩ h6
theorem eventT_words {x : DEvent} (h : ¬ EvBad x) : eventT x = str (Lib.join (evWords x) [32]) := by
  unfold eventT evWords
  rw [if_neg h]
  split
  · rw [join_two, join_two, join_one, ← str_append, ← str_append, ← str_append, ← str_append, str_nameL, show (⟨#[32]⟩ : ByteArray) = str [32] from rfl]
    simp only [ByteArray.append_assoc]
  · split
    · rw [join_two, join_two, join_one, ← str_append, ← str_append, ← str_append, ← str_append, str_nameL, show (⟨#[32]⟩ : ByteArray) = str [32] from rfl]
      simp only [ByteArray.append_assoc]
    · rw [join_two, join_one, ← str_append, ← str_append, str_nameL, show (⟨#[32]⟩ : ByteArray) = str [32] from rfl]
      simp only [ByteArray.append_assoc]
theorem eventT_ne {x : DEvent} (h : eventT x ≠ ⟨#[]⟩) : ¬ EvBad x := fun hb => h (by unfold eventT; rw [if_pos hb])
theorem evK_cases {z : Int} (h : inR z 1 6 = true) : z = 1 ∨ z = 2 ∨ z = 3 ∨ z = 4 ∨ z = 5 ∨ z = 6 := by
  simp only [inR, Bool.and_eq_true, decide_eq_true_eq] at h
  omega
theorem evName_no32 {z : Int} (h : inR z 1 6 = true) : (32 : UInt8) ∉ nameL (evName z) := by
  rcases evK_cases h with rfl | rfl | rfl | rfl | rfl | rfl <;> decide
theorem evK_name {z : Int} (h : inR z 1 6 = true) : lastK evName (nameL (evName z)) 6 = z := by
  rcases evK_cases h with rfl | rfl | rfl | rfl | rfl | rfl <;> decide
theorem split_event {x : DEvent} (h : ¬ EvBad x) : splitW 32 (Lib.join (evWords x) [32]) = evWords x := by
  have g := evGood h
  refine splitW_join (fun w hw => ?_) (by unfold evWords; simp)
  have hd : ∀ z, (32 : UInt8) ∉ numT z := fun z => not_mem_dig (numT_dig z) (by decide)
  unfold evWords at hw
  rcases List.mem_cons.1 hw with rfl | hw
  · exact evName_no32 g.k
  · rcases List.mem_cons.1 hw with rfl | hw
    · exact hd _
    · split at hw
      · obtain rfl := List.mem_singleton.1 hw; exact hd _
      · split at hw
        · obtain rfl := List.mem_singleton.1 hw; exact opW_no32 _
        · cases hw
def iEvP (ws : List (List UInt8)) : DEvent :=
  ⟨lastK evName (ws.getD 0 []) 6, numAt ws (-1) 1, if lastK evName (ws.getD 0 []) 6 = 5 then numAt ws (-1) 2 else 0,
   if lastK evName (ws.getD 0 []) 6 = 1 ∧ ws.length = 3 then (iWordR (ws.getD 2 [])).getD [] else []⟩
def sEvP (ws : List (List UInt8)) : DEvent :=
  ⟨lastK evName (ws.getD 0 []) 6, numAt ws 0 1, if lastK evName (ws.getD 0 []) 6 = 5 then numAt ws 0 2 else 0,
   if lastK evName (ws.getD 0 []) 6 = 1 then (sWordR (ws.getD 2 [])).getD [] else []⟩
theorem iEvP_words {x : DEvent} (h : ¬ EvBad x) (hn : NormOp x.o) : iEvP (evWords x) = x := by
  have g := evGood h
  have h0 : (evWords x).getD 0 [] = nameL (evName x.kind) := rfl
  obtain ⟨kind, who, n, o⟩ := x
  have n5 := g.n5
  have o1 := g.o1
  dsimp only at n5 o1 hn h0
  unfold iEvP
  rw [h0, evK_name g.k, numAt_of (z := who) g.who rfl]
  simp only [DEvent.mk.injEq, true_and]
  refine ⟨?_, ?_⟩
  · split
    · rename_i hk
      refine numAt_of g.n ?_
      unfold evWords; dsimp only; rw [if_pos hk]; rfl
    · rename_i hk; exact (n5 hk).symm
  · split
    · rename_i hk
      have hk1 : kind = 1 := hk.1
      subst hk1
      rw [show (evWords ⟨1, who, n, o⟩).getD 2 [] = opW o from rfl, iWordR_norm hn]; rfl
    · rename_i hk
      refine (o1 fun h1 => hk ⟨h1, ?_⟩).symm
      subst h1; first | done | rfl
theorem sEvP_words {x : DEvent} (h : ¬ EvBad x) (hn : NormOp x.o) : sEvP (evWords x) = x := by
  have g := evGood h
  have h0 : (evWords x).getD 0 [] = nameL (evName x.kind) := rfl
  obtain ⟨kind, who, n, o⟩ := x
  have n5 := g.n5
  have o1 := g.o1
  dsimp only at n5 o1 hn h0
  unfold sEvP
  rw [h0, evK_name g.k, numAt_of (z := who) g.who rfl]
  simp only [DEvent.mk.injEq, true_and]
  refine ⟨?_, ?_⟩
  · split
    · rename_i hk
      refine numAt_of g.n ?_
      unfold evWords; dsimp only; rw [if_pos hk]; rfl
    · rename_i hk; exact (n5 hk).symm
  · split
    · rename_i hk
      subst hk
      rw [show (evWords ⟨1, who, n, o⟩).getD 2 [] = opW o from rfl, sWordR_norm hn]; rfl
    · rename_i hk; exact (o1 hk).symm
def evRes (P : List (List UInt8) → DEvent) (s : ByteArray) : Option DEvent := if eventT (P (splitW 32 (nameL s))) ≠ ⟨#[]⟩ ∧ eventT (P (splitW 32 (nameL s))) = s then some (P (splitW 32 (nameL s))) else none
def EvCan (x : DEvent) (s : ByteArray) : Prop := ¬ EvBad x ∧ NormOp x.o ∧ eventT x = s
theorem evRes_can {P : List (List UInt8) → DEvent} (hP : ∀ x, ¬ EvBad x → NormOp x.o → P (evWords x) = x) {x : DEvent} {s : ByteArray} (h : EvCan x s) : evRes P s = some x := by
  obtain ⟨h1, h2, rfl⟩ := h
  have hs : P (splitW 32 (nameL (eventT x))) = x := by rw [eventT_words h1, nameL_str, split_event h1, hP x h1 h2]
  have hne : eventT x ≠ ⟨#[]⟩ := by
    intro e
    rw [eventT_words h1] at e
    have e1 := str_inj (m := []) e
    have e2 := split_event h1
    rw [e1] at e2
    have e3 := congrArg List.length e2
    unfold evWords at e3
    simp [splitW] at e3
  unfold evRes
  rw [hs, if_pos ⟨hne, rfl⟩]
theorem evRes_some {P : List (List UInt8) → DEvent} (hP : ∀ ws, NormOp (P ws).o) {x : DEvent} {s : ByteArray} (h : evRes P s = some x) : EvCan x s := by
  unfold evRes at h
  split at h
  · rename_i hc
    obtain rfl := Option.some.inj h
    exact ⟨eventT_ne hc.1, hP _, hc.2⟩
  · cases h
theorem iEvP_norm (ws : List (List UInt8)) : NormOp (iEvP ws).o := by
  unfold iEvP; dsimp only; split
  · exact getD_norm_i _
  · exact normOp_nil
theorem sEvP_norm (ws : List (List UInt8)) : NormOp (sEvP ws).o := by
  unfold sEvP; dsimp only; split
  · exact getD_norm_s _
  · exact normOp_nil
theorem evRes_eq (s : ByteArray) : evRes iEvP s = evRes sEvP s := by
  cases h : evRes iEvP s with
  | some o => exact (evRes_can (fun x h1 h2 => sEvP_words h1 h2) (evRes_some iEvP_norm h)).symm
  | none =>
    cases h' : evRes sEvP s with
    | none => rfl
    | some o => rw [evRes_can (fun x h1 h2 => iEvP_words h1 h2) (evRes_some sEvP_norm h')] at h; cases h

/-! ### Calls -/

def nameOk (s : ByteArray) : Bool := (nameL s).all (fun c => decide (97 ≤ c.toNat) && decide (c.toNat ≤ 122)) && inR s.size 1 8
def textOk (l : List Int) : Bool := decide ((l.length : Int) ≤ 200) && l.all signOk
def onDoc (k : Int) : Bool := inR k 1 5
def hasWho (k : Int) : Bool := k == 2 || k == 6 || k == 7
def hasN (k : Int) : Bool := k == 2 || k == 3 || k == 5 || k == 6
def clNames : List ByteArray := [⟨#[111, 112, 101, 110]⟩, ⟨#[115, 117, 98, 109, 105, 116]⟩, ⟨#[102, 101, 116, 99, 104]⟩, ⟨#[115, 110, 97, 112]⟩, ⟨#[115, 117, 98]⟩, ⟨#[112, 111, 108, 108]⟩, ⟨#[114, 101, 115, 121, 110, 99]⟩, ⟨#[115, 104, 117, 116]⟩]
def clNames0 : List ByteArray := ⟨#[]⟩ :: clNames
def clName (z : Int) : ByteArray := if h : z.toNat < clNames0.length ∧ inR z 1 8 = true then clNames0[z.toNat]'h.1 else ⟨#[]⟩
theorem clName_no {z : Int} (h : inR z 1 8 = false) : clName z = ⟨#[]⟩ := by unfold clName; rw [dif_neg (by rw [h]; simp)]
theorem clName_in {z : Int} (h : inR z 1 8 = true) (hi : z.toNat < clNames0.length) : clName z = clNames0[z.toNat] := by unfold clName; rw [dif_pos ⟨hi, h⟩]
theorem clK_cases {z : Int} (h : inR z 1 8 = true) : z = 1 ∨ z = 2 ∨ z = 3 ∨ z = 4 ∨ z = 5 ∨ z = 6 ∨ z = 7 ∨ z = 8 := by
  simp only [inR, Bool.and_eq_true, decide_eq_true_eq] at h
  omega
theorem clName_in' {z : Int} (h : inR z 1 8 = true) (hi : (z - 1).toNat < clNames.length) : clName z = clNames[(z - 1).toNat] := by
  rcases clK_cases h with rfl | rfl | rfl | rfl | rfl | rfl | rfl | rfl <;> rfl
theorem clName_no32 {z : Int} (h : inR z 1 8 = true) : (32 : UInt8) ∉ nameL (clName z) := by
  rcases clK_cases h with rfl | rfl | rfl | rfl | rfl | rfl | rfl | rfl <;> decide
theorem clK_name {z : Int} (h : inR z 1 8 = true) : lastK clName (nameL (clName z)) 8 = z := by
  rcases clK_cases h with rfl | rfl | rfl | rfl | rfl | rfl | rfl | rfl <;> decide
theorem clName_size (z : Int) : (clName z).size ≤ 10 := by
  unfold clName; split
  · rename_i h
    have : ∀ x ∈ clNames0, x.size ≤ 10 := by decide
    exact this _ (List.getElem_mem _)
  · decide
/-- What a kind does not name is nothing. -/
def unusedOk (x : DCall) : Bool := (onDoc x.kind || decide (x.doc = ⟨#[]⟩)) && (x.kind == 1 || decide (x.text = [])) && (x.kind == 2 || (decide (x.o = []) && x.seq == 0)) && (hasWho x.kind || x.client == 0) && (hasN x.kind || x.n == 0)
def callOk (x : DCall) : Bool := inR x.kind 1 8 && decide ((x.doc.size : Int) ≤ 8) && partsOk x.o && textOk x.text && unusedOk x
def callGood (x : DCall) : Bool := callOk x && opOk x.o && inR x.client 0 1000000000 && inR x.seq 0 1000000000 && inR x.n 0 1000000000 && (!onDoc x.kind || nameOk x.doc)
def callWords (x : DCall) : List (List UInt8) :=
  nameL (clName x.kind) :: ((if onDoc x.kind then [nameL x.doc] else []) ++ ((if hasWho x.kind then [numT x.client] else []) ++ ((if x.kind = 2 then [numT x.seq] else []) ++ ((if hasN x.kind then [numT x.n] else []) ++ ((if x.kind = 2 then [opW x.o] else []) ++ (if x.kind = 1 then [signT x.text] else []))))))
def callT (x : DCall) : ByteArray := if callGood x then str (Lib.join (callWords x) [32]) else ⟨#[]⟩
theorem signT_no32 (l : List Int) : (32 : UInt8) ∉ signT l := fun h => by
  unfold signT at h
  split at h
  · split at h
    · revert h; decide
    · rcases dotsT_ch _ h with h | h
      · revert h; decide
      · revert h; decide
  · cases h
theorem name_no32 {s : ByteArray} (h : nameOk s = true) : (32 : UInt8) ∉ nameL s := fun hm => by
  unfold nameOk at h
  rw [Bool.and_eq_true] at h
  have := List.all_eq_true.1 h.1 _ hm
  revert this; decide
theorem split_call {x : DCall} (h : callGood x = true) : splitW 32 (Lib.join (callWords x) [32]) = callWords x := by
  have hd : ∀ z, (32 : UInt8) ∉ numT z := fun z => not_mem_dig (numT_dig z) (by decide)
  have hh := h
  simp only [callGood, callOk, Bool.and_eq_true, Bool.or_eq_true, Bool.not_eq_true'] at hh
  obtain ⟨⟨⟨⟨⟨⟨⟨⟨⟨hk, _⟩, _⟩, _⟩, _⟩, _⟩, _⟩, _⟩, _⟩, hdoc⟩ := hh
  refine splitW_join (fun w hw => ?_) (by unfold callWords; simp)
  unfold callWords at hw
  rcases List.mem_cons.1 hw with rfl | hw
  · exact clName_no32 hk
  · simp only [List.mem_append] at hw
    rcases hw with hw | hw | hw | hw | hw | hw
    all_goals
      split at hw
      · obtain rfl := List.mem_singleton.1 hw
        first
          | exact hd _
          | exact opW_no32 _
          | exact signT_no32 _
          | (rcases hdoc with h1 | h1
             · exact absurd (show onDoc x.kind = true by assumption) (by rw [h1]; simp)
             · exact name_no32 h1)
      · cases hw
/-! The program's reading, by the places of the words. -/

def iClP (ws : List (List UInt8)) : DCall :=
  ⟨lastK clName (ws.getD 0 []) 8, if onDoc (lastK clName (ws.getD 0 []) 8) ∧ 1 < ws.length then str (ws.getD 1 []) else ⟨#[]⟩,
   if lastK clName (ws.getD 0 []) 8 = 2 then numAt ws (-1) 2 else if lastK clName (ws.getD 0 []) 8 = 6 ∨ lastK clName (ws.getD 0 []) 8 = 7 then numAt ws (-1) 1 else 0,
   if lastK clName (ws.getD 0 []) 8 = 2 then numAt ws (-1) 3 else 0,
   if lastK clName (ws.getD 0 []) 8 = 2 then numAt ws (-1) 4 else if lastK clName (ws.getD 0 []) 8 = 3 ∨ lastK clName (ws.getD 0 []) 8 = 5 ∨ lastK clName (ws.getD 0 []) 8 = 6 then numAt ws (-1) 2 else 0,
   if lastK clName (ws.getD 0 []) 8 = 2 ∧ ws.length = 6 then (iWordR (ws.getD 5 [])).getD [] else [],
   if lastK clName (ws.getD 0 []) 8 = 1 ∧ ws.length = 3 then (signR (ws.getD 2 [])).getD [] else []⟩
/-! The reference's: word by word; a place is how many words were taken before. -/

def sDocN (k : Int) : Nat := if onDoc k then 1 else 0
def sWhoN (k : Int) : Nat := if hasWho k then 1 else 0
def sSeqN (k : Int) : Nat := if k = 2 then 1 else 0
def sNN (k : Int) : Nat := if hasN k then 1 else 0
def sClP (ws : List (List UInt8)) : DCall :=
  let k := lastK clName (ws.getD 0 []) 8
  ⟨k, if onDoc k then str (ws.getD 1 []) else ⟨#[]⟩,
   if hasWho k then numAt ws 0 (1 + sDocN k) else 0,
   if k = 2 then numAt ws 0 (1 + sDocN k + sWhoN k) else 0,
   if hasN k then numAt ws 0 (1 + sDocN k + sWhoN k + sSeqN k) else 0,
   if k = 2 then (sWordR (ws.getD (1 + sDocN k + sWhoN k + sSeqN k + sNN k) [])).getD [] else [],
   if k = 1 then (signR (ws.getD (1 + sDocN k + sWhoN k + sSeqN k + sNN k + sSeqN k) [])).getD [] else []⟩
structure ClGood (x : DCall) : Prop where
  k : inR x.kind 1 8 = true
  doc : onDoc x.kind = false → x.doc = ⟨#[]⟩
  text1 : x.kind ≠ 1 → x.text = []
  text : x.text.all signOk = true
  o2 : x.kind ≠ 2 → x.o = []
  seq2 : x.kind ≠ 2 → x.seq = 0
  who0 : hasWho x.kind = false → x.client = 0
  n0 : hasN x.kind = false → x.n = 0
  cl : inR x.client 0 1000000000 = true
  sq : inR x.seq 0 1000000000 = true
  n : inR x.n 0 1000000000 = true
theorem clGood {x : DCall} (h : callGood x = true) : ClGood x := by
  simp only [callGood, callOk, unusedOk, textOk, Bool.and_eq_true, Bool.or_eq_true, beq_iff_eq, decide_eq_true_eq] at h
  obtain ⟨⟨⟨⟨⟨⟨⟨⟨⟨hk, h1⟩, h2⟩, ⟨_, h3⟩⟩, ⟨⟨⟨⟨d1, d2⟩, d3⟩, d4⟩, d5⟩⟩, _⟩, hc⟩, hs⟩, hn⟩, hdoc⟩ := h
  refine ⟨hk, fun e => ?_, fun e => ?_, h3, fun e => ?_, fun e => ?_, fun e => ?_, fun e => ?_, hc, hs, hn⟩
  · rcases d1 with d | d
    · rw [e] at d; cases d
    · exact d
  · exact d2.resolve_left e
  · exact (d3.resolve_left e).1
  · exact (d3.resolve_left e).2
  · rcases d4 with d | d
    · rw [e] at d; cases d
    · exact d
  · rcases d5 with d | d
    · rw [e] at d; cases d
    · exact d
theorem iClP_words {x : DCall} (h : callGood x = true) (hn : NormOp x.o) : iClP (callWords x) = x := by
  have g := clGood h
  have hk := g.k
  have h0 : (callWords x).getD 0 [] = nameL (clName x.kind) := rfl
  obtain ⟨kind, doc, client, seq, n, o, text⟩ := x
  obtain ⟨_, gdoc, gt1, gt, go2, gs2, gw, gn, gcl, gsq, gnn⟩ := g
  dsimp only at gdoc gt1 gt go2 gs2 gw gn gcl gsq gnn hn hk h0
  unfold iClP
  rw [h0, clK_name hk]
  rcases clK_cases hk with rfl | rfl | rfl | rfl | rfl | rfl | rfl | rfl
  all_goals simp [onDoc, inR, hasWho, hasN] at gdoc gt1 go2 gs2 gw gn
  all_goals simp [callWords, onDoc, inR, hasWho, hasN, numAt, numR_numT gcl, numR_numT gsq, numR_numT gnn, signR_signT gt, iWordR_norm hn, str_nameL, *]
theorem sClP_words {x : DCall} (h : callGood x = true) (hn : NormOp x.o) : sClP (callWords x) = x := by
  have g := clGood h
  have hk := g.k
  have h0 : (callWords x).getD 0 [] = nameL (clName x.kind) := rfl
  obtain ⟨kind, doc, client, seq, n, o, text⟩ := x
  obtain ⟨_, gdoc, gt1, gt, go2, gs2, gw, gn, gcl, gsq, gnn⟩ := g
  dsimp only at gdoc gt1 gt go2 gs2 gw gn gcl gsq gnn hn hk h0
  unfold sClP
  rw [h0, clK_name hk]
  rcases clK_cases hk with rfl | rfl | rfl | rfl | rfl | rfl | rfl | rfl
  all_goals simp [onDoc, inR, hasWho, hasN] at gdoc gt1 go2 gs2 gw gn
  all_goals simp [callWords, onDoc, inR, hasWho, hasN, sDocN, sWhoN, sSeqN, sNN, numAt, numR_numT gcl, numR_numT gsq, numR_numT gnn, signR_signT gt, sWordR_norm hn, str_nameL, *]
def clRes (P : List (List UInt8) → DCall) (s : ByteArray) : Option DCall := if callT (P (splitW 32 (nameL s))) ≠ ⟨#[]⟩ ∧ callT (P (splitW 32 (nameL s))) = s then some (P (splitW 32 (nameL s))) else none
def ClCan (x : DCall) (s : ByteArray) : Prop := callGood x = true ∧ NormOp x.o ∧ callT x = s
theorem callT_words {x : DCall} (h : callGood x = true) : callT x = str (Lib.join (callWords x) [32]) := by unfold callT; rw [if_pos h]
theorem callT_ne {x : DCall} (h : callT x ≠ ⟨#[]⟩) : callGood x = true := by
  cases hb : callGood x with
  | true => rfl
  | false => exact absurd (by unfold callT; rw [hb]; rfl) h
theorem clRes_can {P : List (List UInt8) → DCall} (hP : ∀ x, callGood x = true → NormOp x.o → P (callWords x) = x) {x : DCall} {s : ByteArray} (h : ClCan x s) : clRes P s = some x := by
  obtain ⟨h1, h2, rfl⟩ := h
  have hs : P (splitW 32 (nameL (callT x))) = x := by rw [callT_words h1, nameL_str, split_call h1, hP x h1 h2]
  have hne : callT x ≠ ⟨#[]⟩ := by
    intro e
    rw [callT_words h1] at e
    have e1 := str_inj (m := []) e
    have e2 := split_call h1
    rw [e1] at e2
    have e3 : nameL (clName x.kind) = [] := by
      have := congrArg (fun l => l.getD 0 []) e2
      exact this.symm
    have hk := (clGood h1).k
    revert e3
    rcases clK_cases hk with h | h | h | h | h | h | h | h <;> rw [h] <;> decide
  unfold clRes
  rw [hs, if_pos ⟨hne, rfl⟩]
theorem clRes_some {P : List (List UInt8) → DCall} (hP : ∀ ws, NormOp (P ws).o) {x : DCall} {s : ByteArray} (h : clRes P s = some x) : ClCan x s := by
  unfold clRes at h
  split at h
  · rename_i hc
    obtain rfl := Option.some.inj h
    exact ⟨callT_ne hc.1, hP _, hc.2⟩
  · cases h
theorem iClP_norm (ws : List (List UInt8)) : NormOp (iClP ws).o := by
  unfold iClP; dsimp only; split
  · exact getD_norm_i _
  · exact normOp_nil
theorem sClP_norm (ws : List (List UInt8)) : NormOp (sClP ws).o := by
  unfold sClP; dsimp only; split
  · exact getD_norm_s _
  · exact normOp_nil
theorem clRes_eq (s : ByteArray) : clRes iClP s = clRes sClP s := by
  cases h : clRes iClP s with
  | some o => exact (clRes_can (fun x h1 h2 => sClP_words h1 h2) (clRes_some iClP_norm h)).symm
  | none =>
    cases h' : clRes sClP s with
    | none => rfl
    | some o => rw [clRes_can (fun x h1 h2 => iClP_words h1 h2) (clRes_some sClP_norm h')] at h; cases h
end Go.Proofs.YtiobmbicldjikaaGreatDoor
