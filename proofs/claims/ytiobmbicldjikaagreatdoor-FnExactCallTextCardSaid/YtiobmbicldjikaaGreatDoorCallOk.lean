/- Which calls are right, joined. No condition. -/
import Derived.Test.YtiobmbicldjikaaGreatDoorCall

set_option linter.unusedVariables false

set_option linter.unusedSimpArgs false

namespace Go.Proofs.YtiobmbicldjikaaGreatDoor

theorem iCallOk_c (W : World) {c : List Value} {x : DCall} (h : Rd W c x) : CR Tryz.prog 41 [.agg c.toArray] W (Is (.bool (callOk x))) := by
  obtain ⟨a0, c0, a1, c1, rfl, h0, h1, h2, h3, h4, h5, h6⟩ := DCall.rd h
  have d := callOk_used x
  have k0 := fun x y z => cw (W := W) fun w hw => within_c w x y z
  have k1 := cw (W := W) fun w hw => iPartsOk_c w (h5.st hw)
  have k2 := cw (W := W) fun w hw => iTextOk_c w (h6.st hw)
  have k3 := cw (W := W) fun w hw => iCallSame_c w ((DCall.mk_rd h0 h1 h2 h3 h4 h5 h6).st hw) ((usedV_rd h0 h1 h2 h3 h4 h5 h6).st hw)
  by_cases hk : inR x.kind 1 8 = true
  · have k4 := cw (W := W) fun w hw => iUsed_c w (a0 := a0) (c0 := c0) (a1 := a1) (c1 := c1) hk
    have d2 : callOk x = (decide ((x.doc.size : Int) ≤ 8) && partsOk x.o && textOk x.text && decide (x = usedC x)) := by rw [← d, hk]; simp
    clear d
    refine calls_j Tryz.func41 rfl rfl rfl ?_
    rw [d2]
    clear d2
    exact r0
  · have hk := Bool.eq_false_iff.2 hk
    have d2 : callOk x = false := by rw [← d, hk]; simp
    clear d
    refine calls_j Tryz.func41 rfl rfl rfl ?_
    rw [d2]
    exact r0
theorem cmp8 (z : Int) : decide (z ≤ 8) = !decide (8 < z) := by by_cases h : z ≤ 8 <;> simp [h] <;> omega
theorem emp {α : Type} (l : List α) : decide (l = []) = !decide ((0 : Int) < l.length) := by cases l <;> simp
--EIGHT--
theorem sCallOk_1 (W : World) {doc : ByteArray} {client seq n : Int} {o : List DPart} {text : List Int} {a0 a1 : Option Addr} {c0 c1 : Nat} (h8 : (doc.size : Int) ≤ 8) (h5 : RdS W a0 c0 o) (h6 : RdS W a1 c1 text) : CR Tryz.prog 28 [.agg #[.int .i64 1, .string doc, .int .i64 client, .int .i64 seq, .int .i64 n, .slice a0 o.length c0, .slice a1 text.length c1]] W (Is (.bool (callOk ⟨1, doc, client, seq, n, o, text⟩))) := by
  have k0 := cw (W := W) fun w hw => sKind_c w 1
  have k1 := cw (W := W) fun w hw => sParts_c w (h5.st hw)
  have k2 := cw (W := W) fun w hw => sTextOk_c w (h6.st hw)
  have k3 := cw (W := W) fun w hw => sOnDoc_c w 1
  have d : callOk ⟨1, doc, client, seq, n, o, text⟩ = ((partsOk o) && (textOk text) && (!decide ((0 : Int) < o.length)) && (seq == 0) && (client == 0) && (n == 0)) := by
    simp only [callOk, unusedOk, emp, onDoc, hasWho, hasN]
    simp [h8, inR, Bool.and_assoc, ← Bool.beq_eq_decide_eq]
  refine calls_j Tryz.func28 rfl rfl rfl ?_
  rw [d]
  clear d
  exact r0
theorem sCallOk_2 (W : World) {doc : ByteArray} {client seq n : Int} {o : List DPart} {text : List Int} {a0 a1 : Option Addr} {c0 c1 : Nat} (h8 : (doc.size : Int) ≤ 8) (h5 : RdS W a0 c0 o) (h6 : RdS W a1 c1 text) : CR Tryz.prog 28 [.agg #[.int .i64 2, .string doc, .int .i64 client, .int .i64 seq, .int .i64 n, .slice a0 o.length c0, .slice a1 text.length c1]] W (Is (.bool (callOk ⟨2, doc, client, seq, n, o, text⟩))) := by
  have k0 := cw (W := W) fun w hw => sKind_c w 2
  have k1 := cw (W := W) fun w hw => sParts_c w (h5.st hw)
  have k2 := cw (W := W) fun w hw => sTextOk_c w (h6.st hw)
  have k3 := cw (W := W) fun w hw => sOnDoc_c w 2
  have d : callOk ⟨2, doc, client, seq, n, o, text⟩ = ((partsOk o) && (textOk text) && (!decide ((0 : Int) < text.length))) := by
    simp only [callOk, unusedOk, emp, onDoc, hasWho, hasN]
    simp [h8, inR, Bool.and_assoc, ← Bool.beq_eq_decide_eq]
  refine calls_j Tryz.func28 rfl rfl rfl ?_
  rw [d]
  clear d
  exact r0
theorem sCallOk_3 (W : World) {doc : ByteArray} {client seq n : Int} {o : List DPart} {text : List Int} {a0 a1 : Option Addr} {c0 c1 : Nat} (h8 : (doc.size : Int) ≤ 8) (h5 : RdS W a0 c0 o) (h6 : RdS W a1 c1 text) : CR Tryz.prog 28 [.agg #[.int .i64 3, .string doc, .int .i64 client, .int .i64 seq, .int .i64 n, .slice a0 o.length c0, .slice a1 text.length c1]] W (Is (.bool (callOk ⟨3, doc, client, seq, n, o, text⟩))) := by
  have k0 := cw (W := W) fun w hw => sKind_c w 3
  have k1 := cw (W := W) fun w hw => sParts_c w (h5.st hw)
  have k2 := cw (W := W) fun w hw => sTextOk_c w (h6.st hw)
  have k3 := cw (W := W) fun w hw => sOnDoc_c w 3
  have d : callOk ⟨3, doc, client, seq, n, o, text⟩ = ((partsOk o) && (textOk text) && (!decide ((0 : Int) < text.length)) && (!decide ((0 : Int) < o.length)) && (seq == 0) && (client == 0)) := by
    simp only [callOk, unusedOk, emp, onDoc, hasWho, hasN]
    simp [h8, inR, Bool.and_assoc, ← Bool.beq_eq_decide_eq]
  refine calls_j Tryz.func28 rfl rfl rfl ?_
  rw [d]
  clear d
  exact r0
theorem sCallOk_4 (W : World) {doc : ByteArray} {client seq n : Int} {o : List DPart} {text : List Int} {a0 a1 : Option Addr} {c0 c1 : Nat} (h8 : (doc.size : Int) ≤ 8) (h5 : RdS W a0 c0 o) (h6 : RdS W a1 c1 text) : CR Tryz.prog 28 [.agg #[.int .i64 4, .string doc, .int .i64 client, .int .i64 seq, .int .i64 n, .slice a0 o.length c0, .slice a1 text.length c1]] W (Is (.bool (callOk ⟨4, doc, client, seq, n, o, text⟩))) := by
  have k0 := cw (W := W) fun w hw => sKind_c w 4
  have k1 := cw (W := W) fun w hw => sParts_c w (h5.st hw)
  have k2 := cw (W := W) fun w hw => sTextOk_c w (h6.st hw)
  have k3 := cw (W := W) fun w hw => sOnDoc_c w 4
  have d : callOk ⟨4, doc, client, seq, n, o, text⟩ = ((partsOk o) && (textOk text) && (!decide ((0 : Int) < text.length)) && (!decide ((0 : Int) < o.length)) && (seq == 0) && (client == 0) && (n == 0)) := by
    simp only [callOk, unusedOk, emp, onDoc, hasWho, hasN]
    simp [h8, inR, Bool.and_assoc, ← Bool.beq_eq_decide_eq]
  refine calls_j Tryz.func28 rfl rfl rfl ?_
  rw [d]
  clear d
  exact r0
theorem sCallOk_5 (W : World) {doc : ByteArray} {client seq n : Int} {o : List DPart} {text : List Int} {a0 a1 : Option Addr} {c0 c1 : Nat} (h8 : (doc.size : Int) ≤ 8) (h5 : RdS W a0 c0 o) (h6 : RdS W a1 c1 text) : CR Tryz.prog 28 [.agg #[.int .i64 5, .string doc, .int .i64 client, .int .i64 seq, .int .i64 n, .slice a0 o.length c0, .slice a1 text.length c1]] W (Is (.bool (callOk ⟨5, doc, client, seq, n, o, text⟩))) := by
  have k0 := cw (W := W) fun w hw => sKind_c w 5
  have k1 := cw (W := W) fun w hw => sParts_c w (h5.st hw)
  have k2 := cw (W := W) fun w hw => sTextOk_c w (h6.st hw)
  have k3 := cw (W := W) fun w hw => sOnDoc_c w 5
  have d : callOk ⟨5, doc, client, seq, n, o, text⟩ = ((partsOk o) && (textOk text) && (!decide ((0 : Int) < text.length)) && (!decide ((0 : Int) < o.length)) && (seq == 0) && (client == 0)) := by
    simp only [callOk, unusedOk, emp, onDoc, hasWho, hasN]
    simp [h8, inR, Bool.and_assoc, ← Bool.beq_eq_decide_eq]
  refine calls_j Tryz.func28 rfl rfl rfl ?_
  rw [d]
  clear d
  exact r0
theorem sCallOk_6 (W : World) {doc : ByteArray} {client seq n : Int} {o : List DPart} {text : List Int} {a0 a1 : Option Addr} {c0 c1 : Nat} (h8 : (doc.size : Int) ≤ 8) (h5 : RdS W a0 c0 o) (h6 : RdS W a1 c1 text) : CR Tryz.prog 28 [.agg #[.int .i64 6, .string doc, .int .i64 client, .int .i64 seq, .int .i64 n, .slice a0 o.length c0, .slice a1 text.length c1]] W (Is (.bool (callOk ⟨6, doc, client, seq, n, o, text⟩))) := by
  have k0 := cw (W := W) fun w hw => sKind_c w 6
  have k1 := cw (W := W) fun w hw => sParts_c w (h5.st hw)
  have k2 := cw (W := W) fun w hw => sTextOk_c w (h6.st hw)
  have k3 := cw (W := W) fun w hw => sOnDoc_c w 6
  have d : callOk ⟨6, doc, client, seq, n, o, text⟩ = ((partsOk o) && (textOk text) && (decide (doc = ⟨#[]⟩)) && (!decide ((0 : Int) < text.length)) && (!decide ((0 : Int) < o.length)) && (seq == 0)) := by
    simp only [callOk, unusedOk, emp, onDoc, hasWho, hasN]
    simp [h8, inR, Bool.and_assoc, ← Bool.beq_eq_decide_eq]
  refine calls_j Tryz.func28 rfl rfl rfl ?_
  rw [d]
  clear d
  exact r0
theorem sCallOk_7 (W : World) {doc : ByteArray} {client seq n : Int} {o : List DPart} {text : List Int} {a0 a1 : Option Addr} {c0 c1 : Nat} (h8 : (doc.size : Int) ≤ 8) (h5 : RdS W a0 c0 o) (h6 : RdS W a1 c1 text) : CR Tryz.prog 28 [.agg #[.int .i64 7, .string doc, .int .i64 client, .int .i64 seq, .int .i64 n, .slice a0 o.length c0, .slice a1 text.length c1]] W (Is (.bool (callOk ⟨7, doc, client, seq, n, o, text⟩))) := by
  have k0 := cw (W := W) fun w hw => sKind_c w 7
  have k1 := cw (W := W) fun w hw => sParts_c w (h5.st hw)
  have k2 := cw (W := W) fun w hw => sTextOk_c w (h6.st hw)
  have k3 := cw (W := W) fun w hw => sOnDoc_c w 7
  have d : callOk ⟨7, doc, client, seq, n, o, text⟩ = ((partsOk o) && (textOk text) && (decide (doc = ⟨#[]⟩)) && (!decide ((0 : Int) < text.length)) && (!decide ((0 : Int) < o.length)) && (seq == 0) && (n == 0)) := by
    simp only [callOk, unusedOk, emp, onDoc, hasWho, hasN]
    simp [h8, inR, Bool.and_assoc, ← Bool.beq_eq_decide_eq]
  refine calls_j Tryz.func28 rfl rfl rfl ?_
  rw [d]
  clear d
  exact r0
theorem sCallOk_8 (W : World) {doc : ByteArray} {client seq n : Int} {o : List DPart} {text : List Int} {a0 a1 : Option Addr} {c0 c1 : Nat} (h8 : (doc.size : Int) ≤ 8) (h5 : RdS W a0 c0 o) (h6 : RdS W a1 c1 text) : CR Tryz.prog 28 [.agg #[.int .i64 8, .string doc, .int .i64 client, .int .i64 seq, .int .i64 n, .slice a0 o.length c0, .slice a1 text.length c1]] W (Is (.bool (callOk ⟨8, doc, client, seq, n, o, text⟩))) := by
  have k0 := cw (W := W) fun w hw => sKind_c w 8
  have k1 := cw (W := W) fun w hw => sParts_c w (h5.st hw)
  have k2 := cw (W := W) fun w hw => sTextOk_c w (h6.st hw)
  have k3 := cw (W := W) fun w hw => sOnDoc_c w 8
  have d : callOk ⟨8, doc, client, seq, n, o, text⟩ = ((partsOk o) && (textOk text) && (decide (doc = ⟨#[]⟩)) && (!decide ((0 : Int) < text.length)) && (!decide ((0 : Int) < o.length)) && (seq == 0) && (client == 0) && (n == 0)) := by
    simp only [callOk, unusedOk, emp, onDoc, hasWho, hasN]
    simp [h8, inR, Bool.and_assoc, ← Bool.beq_eq_decide_eq]
  refine calls_j Tryz.func28 rfl rfl rfl ?_
  rw [d]
  clear d
  exact r0
--EIGHT--
theorem sCallOk_c (W : World) {c : List Value} {x : DCall} (h : Rd W c x) : CR Tryz.prog 28 [.agg c.toArray] W (Is (.bool (callOk x))) := by
  obtain ⟨a0, c0, a1, c1, rfl, h0, h1, h2, h3, h4, h5, h6⟩ := DCall.rd h
  obtain ⟨kind, doc, client, seq, n, o, text⟩ := x
  dsimp only at h0 h1 h2 h3 h4 h5 h6 ⊢
  have k0 := cw (W := W) fun w hw => sKind_c w kind
  by_cases hk : inR kind 1 8 = true
  case neg =>
    have hk := Bool.eq_false_iff.2 hk
    have d : callOk ⟨kind, doc, client, seq, n, o, text⟩ = false := by unfold callOk; dsimp only; rw [hk]; simp
    rw [hk] at k0
    refine calls_j Tryz.func28 rfl rfl rfl ?_
    rw [d]
    clear d
    exact r0
  by_cases h8 : (doc.size : Int) ≤ 8
  case neg =>
    have d : callOk ⟨kind, doc, client, seq, n, o, text⟩ = false := by unfold callOk; simp [h8]
    have h8 := Int.not_le.1 h8
    rw [hk] at k0
    refine calls_j Tryz.func28 rfl rfl rfl ?_
    rw [d]
    clear d
    refine r1 ?_
    intro _ h
    omega
  clear k0
  rcases clK_cases hk with rfl | rfl | rfl | rfl | rfl | rfl | rfl | rfl
  · exact sCallOk_1 W h8 h5 h6
  · exact sCallOk_2 W h8 h5 h6
  · exact sCallOk_3 W h8 h5 h6
  · exact sCallOk_4 W h8 h5 h6
  · exact sCallOk_5 W h8 h5 h6
  · exact sCallOk_6 W h8 h5 h6
  · exact sCallOk_7 W h8 h5 h6
  · exact sCallOk_8 W h8 h5 h6
/-- The first question of both sides. -/
theorem good_no {x : DCall} (h : callGood x = false) : callT x = ⟨#[]⟩ := by unfold callT; rw [h]; rfl
end Go.Proofs.YtiobmbicldjikaaGreatDoor
