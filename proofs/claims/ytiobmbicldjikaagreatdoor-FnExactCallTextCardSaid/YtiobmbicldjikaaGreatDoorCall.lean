/- Calls: which are right, their names and texts. No condition. -/
import Derived.Test.YtiobmbicldjikaaGreatDoorParseEv

import Derived.Test.YtiobmbicldjikaaGreatDoorMake

set_option linter.unusedVariables false

set_option linter.unusedSimpArgs false

namespace Go.Proofs.YtiobmbicldjikaaGreatDoor

theorem iTextOk_c (W : World) {a : Option Addr} {cap : Nat} {l : List Int} (hl : RdS W a cap l) : CR Tryz.prog 83 [.slice a l.length cap] W (Is (.bool (textOk l))) := by
  have k0 := cw (W := W) fun w hw => iSignsOk_c w (hl.st hw)
  have d := textOk.eq_1 l
  exact calls_j Tryz.func83 rfl rfl rfl r0
theorem sTextOk_c (W : World) {a : Option Addr} {cap : Nat} {l : List Int} (hl : RdS W a cap l) : CR Tryz.prog 76 [.slice a l.length cap] W (Is (.bool (textOk l))) := by
  have k0 := cw (W := W) fun w hw => sSignsOk_c w (hl.st hw)
  have d : textOk l = (l.all signOk && decide ((l.length : Int) ≤ 200)) := by unfold textOk; rw [Bool.and_comm]
  exact calls_j Tryz.func76 rfl rfl rfl r0
theorem iOnDoc_c (W : World) (k : Int) : CR Tryz.prog 43 [.int .i64 k] W (Is (.bool (onDoc k))) := by
  have k0 := fun x y z => cw (W := W) fun w hw => within_c w x y z
  have d := onDoc.eq_1 k
  exact calls_j Tryz.func43 rfl rfl rfl r0
theorem sOnDoc_c (W : World) (k : Int) : CR Tryz.prog 31 [.int .i64 k] W (Is (.bool (onDoc k))) := by
  have k0 := fun x y z => cw (W := W) fun w hw => l01In_c w x y z
  have d := onDoc.eq_1 k
  exact calls_j Tryz.func31 rfl rfl rfl r0
theorem sKind_c (W : World) (k : Int) : CR Tryz.prog 74 [.int .i64 k] W (Is (.bool (inR k 1 8))) := by
  have k0 := fun x y z => cw (W := W) fun w hw => l01In_c w x y z
  exact calls_j Tryz.func74 rfl rfl rfl r0
theorem iClName_c (W : World) (z : Int) : CR Tryz.prog 46 [.int .i64 z] W (Is (.string (clName z))) := by
  have k0 := fun x y z => cw (W := W) fun w hw => within_c w x y z
  refine calls_j Tryz.func46 rfl rfl rfl ?_
  by_cases h : inR z 1 8 = true
  · have hr := h
    simp only [inR, Bool.and_eq_true, decide_eq_true_eq] at hr
    have hi : (z - 1).toNat < clNames.length := by show (z - 1).toNat < 8; omega
    refine r1 ?_
    intro b
    refine j_q ?_ (q_load rfl rfl (src_sub (mem_strs b clNames hi) (by repeat (first | exact .here | apply InL.there))) (.take .done) .one) rfl rfl .none
    refine r1 ?_
    rw [clName_in' h hi]; rfl
  · have h := Bool.eq_false_iff.2 h
    have d := clName_no h
    exact r0
theorem sClName_c (W : World) (z : Int) : CR Tryz.prog 34 [.int .i64 z] W (Is (.string (clName z))) := by
  have k0 := fun z => cw (W := W) fun w hw => sKind_c w z
  refine calls_j Tryz.func34 rfl rfl rfl ?_
  by_cases h : inR z 1 8 = true
  · have hr := h
    simp only [inR, Bool.and_eq_true, decide_eq_true_eq] at hr
    have hi : z.toNat < clNames0.length := by show z.toNat < 9; omega
    refine r1 ?_
    intro b
    refine j_q ?_ (q_load rfl rfl (src_sub (mem_strs b clNames0 hi) (by repeat (first | exact .here | apply InL.there))) (.take .done) .one) rfl rfl .none
    refine r1 ?_
    rw [clName_in h hi]; rfl
  · have h := Bool.eq_false_iff.2 h
    have d := clName_no h
    exact r0
/-! Names of documents -/

def nameA (s : ByteArray) : Bool := (nameL s).all (fun c => decide (97 ≤ c.toNat) && decide (c.toNat ≤ 122))
theorem nameA_take {s : ByteArray} {k : Nat} (h : k < s.size) (ht : ((nameL s).take k).all (fun c => decide (97 ≤ c.toNat) && decide (c.toNat ≤ 122)) = true) (h1 : ¬ ((s[k].toNat : Int) < 97)) (h2 : ¬ ((122 : Int) < s[k].toNat)) :
    ((nameL s).take (k + 1)).all (fun c => decide (97 ≤ c.toNat) && decide (c.toNat ≤ 122)) = true := by
  have hk : k < (nameL s).length := by simpa [nameL] using h
  refine take_all_succ hk ht ?_
  have : (nameL s)[k] = s[k] := rfl
  rw [this]
  simp; omega
theorem nameA_no {s : ByteArray} {k : Nat} (h : k < s.size) (h1 : ((s[k].toNat : Int) < 97) ∨ ((122 : Int) < s[k].toNat)) : nameOk s = false := by
  have hk : k < (nameL s).length := by simpa [nameL] using h
  unfold nameOk
  rw [not_all hk]
  · rfl
  · have : (nameL s)[k] = s[k] := rfl
    rw [this]
    simp only [Bool.and_eq_false_iff, decide_eq_false_iff_not]
    omega
theorem iNameOk_c (W : World) (s : ByteArray) (hs : SB s) : CR Tryz.prog 44 [.string s] W (Is (.bool (nameOk s))) := by
  have k0 := fun x y z => cw (W := W) fun w hw => within_c w x y z
  refine calls_j Tryz.func44 rfl rfl rfl (r1 ?_)
  refine jc_loop (fun k : Nat => [(0, .string s), (3, .int .i64 k)]) (fun _ => []) (fun k => k ≤ s.size ∧ ((nameL s).take k).all (fun c => decide (97 ≤ c.toNat) && decide (c.toNat ≤ 122)) = true) (fun k => s.size - k) 0 ⟨by omega, by simp⟩ ⟨rfl, rfl, trivial⟩ (fun w => St.sel .nil) ?_
  rintro k ⟨hk, hall⟩
  by_cases h : k < s.size
  · have dn := fun h1 => nameA_no h h1
    refine r1 ?_
    intro h1 h2; exact jx_round (k + 1) ⟨by omega, nameA_take h hall h1 h2⟩ (by omega) ⟨rfl, rfl, trivial⟩ (fun w => St.sel .nil)
  · have ha : (nameL s).all (fun c => decide (97 ≤ c.toNat) && decide (c.toNat ≤ 122)) = true := by
      rwa [List.take_of_length_le (by simp [nameL]; omega)] at hall
    have d := nameOk.eq_1 s
    rw [ha] at d
    exact r0
theorem sNameOk_c (W : World) (s : ByteArray) (hs : SB s) : CR Tryz.prog 32 [.string s] W (Is (.bool (nameOk s))) := by
  have k0 := fun x y z => cw (W := W) fun w hw => l01In_c w x y z
  refine calls_j Tryz.func32 rfl rfl rfl (r1 ?_)
  refine jc_loop (fun k : Nat => [(0, .string s), (3, .int .i64 k)]) (fun _ => []) (fun k => k ≤ s.size ∧ ((nameL s).take k).all (fun c => decide (97 ≤ c.toNat) && decide (c.toNat ≤ 122)) = true) (fun k => s.size - k) 0 ⟨by omega, by simp⟩ ⟨rfl, rfl, trivial⟩ (fun w => St.sel .nil) ?_
  rintro k ⟨hk, hall⟩
  by_cases h : k < s.size
  · have dn := fun h1 => nameA_no h h1
    refine r1 ?_
    intro h1 h2; exact jx_round (k + 1) ⟨by omega, nameA_take h hall h1 h2⟩ (by omega) ⟨rfl, rfl, trivial⟩ (fun w => St.sel .nil)
  · have ha : (nameL s).all (fun c => decide (97 ≤ c.toNat) && decide (c.toNat ≤ 122)) = true := by
      rwa [List.take_of_length_le (by simp [nameL]; omega)] at hall
    have d := nameOk.eq_1 s
    rw [ha] at d
    exact r0
/-! Sameness -/

theorem equalInt_c (W : World) {a b : Option Addr} {cap cap2 : Nat} {l m : List Int} (hl : RdS W a cap l) (hm : RdS W b cap2 m) : CR Tryz.prog 116 [.slice a l.length cap, .slice b m.length cap2] W (Is (.bool (decide (l = m)))) := by
  have hlt := hl.lt
  have hadr := hl.adr
  have hadr2 := hm.adr
  refine calls_j Tryz.func116 rfl rfl rfl (r2 ?_ ?_)
  · intro h; exact ret_b (decide_eq_false fun e => h (by rw [e])).symm
  intro hlen
  have hlen : l.length = m.length := by omega
  refine jc_loop (fun k : Nat => [(0, .slice a l.length cap), (1, .slice b m.length cap2), (12, .int .i64 l.length), (13, .int .i64 k)]) (fun _ => []) (fun k => k ≤ l.length ∧ l.take k = m.take k) (fun k => l.length - k) 0 ⟨by omega, rfl⟩ ⟨rfl, rfl, rfl, rfl, trivial⟩ (fun w => St.sel .nil) ?_
  rintro k ⟨hk, ht⟩
  by_cases h : k < l.length
  · have h2 : k < m.length := by omega
    obtain ⟨hc, hi⟩ := hl.int h
    obtain ⟨hc2, hi2⟩ := hm.int h2
    refine r2 ?_ ?_
    · intro e; exact ret_b (decide_eq_false (take_ne h h2 e)).symm
    · intro e; exact jx_round (k + 1) ⟨by omega, take_eq_succ h h2 ht e⟩ (by omega) ⟨rfl, rfl, rfl, rfl, trivial⟩ (fun w => St.sel .nil)
  · refine r1 ?_
    exact ret_b (decide_eq_true (take_eq_all hlen h ht)).symm

theorem DPart.eqf' (x y : DPart) : decide (x = y) = (decide (x.kind = y.kind) && decide (x.n = y.n) && decide (x.signs = y.signs)) := by
  cases x; cases y; simp [DPart.mk.injEq, Bool.and_assoc]
theorem iSamePart_c (W : World) {c c2 : List Value} {x y : DPart} (h : Rd W c x) (h2 : Rd W c2 y) : CR Tryz.prog 157 [.agg c.toArray, .agg c2.toArray] W (Is (.bool (decide (x = y)))) := by
  obtain ⟨a, cap, rfl, _, _, hs⟩ := DPart.rd h
  obtain ⟨a2, cap2, rfl, _, _, hs2⟩ := DPart.rd h2
  have d := DPart.eqf' x y
  have k0 := cw (W := W) fun w hw => equalInt_c w (hs.st hw) (hs2.st hw)
  exact calls_j Tryz.func157 rfl rfl rfl r0
theorem equalParts_c (W : World) {a b : Option Addr} {cap cap2 : Nat} {l m : List DPart} (hl : RdS W a cap l) (hm : RdS W b cap2 m) : CR Tryz.prog 156 [.slice a l.length cap, .slice b m.length cap2, .func (.func 157) #[] #[]] W (Is (.bool (decide (l = m)))) := by
  have hlt := hl.lt
  have hadr := hl.adr
  have hadr2 := hm.adr
  refine calls_j Tryz.func156 rfl rfl rfl (r2 ?_ ?_)
  · intro h; exact ret_b (decide_eq_false fun e => h (by rw [e])).symm
  intro hlen
  have hlen : l.length = m.length := by omega
  refine jc_loop (fun k : Nat => [(1, .slice b m.length cap2), (2, .func (.func 157) #[] #[]), (15, .slice a l.length cap), (16, .int .i64 l.length), (17, .int .i64 k)]) (fun _ => []) (fun k => k ≤ l.length ∧ l.take k = m.take k) (fun k => l.length - k) 0 ⟨by omega, rfl⟩ ⟨rfl, rfl, rfl, rfl, rfl, trivial⟩ (fun w => St.sel .nil) ?_
  rintro k ⟨hk, ht⟩
  by_cases h : k < l.length
  · have h2 : k < m.length := by omega
    obtain ⟨xa0, xc0, hcx, xh0, xh1, xh2⟩ := hl.DPart h
    obtain ⟨ya0, yc0, hcy, yh0, yh1, yh2⟩ := hm.DPart h2
    have k0 := cw (W := W) fun w hw => iSamePart_c w ((DPart.mk_rd xh0 xh1 xh2).st hw) ((DPart.mk_rd yh0 yh1 yh2).st hw)
    refine r2 ?_ ?_
    · intros; exact ret_b (decide_eq_false (take_ne h h2 (of_decide_eq_false ‹_›))).symm
    · intros; exact jx_round (k + 1) ⟨by omega, take_eq_succ h h2 ht (of_decide_eq_true ‹_›)⟩ (by omega) ⟨rfl, rfl, rfl, rfl, rfl, trivial⟩ (fun w => St.sel .nil)
  · refine r1 ?_
    exact ret_b (decide_eq_true (take_eq_all hlen h ht)).symm
theorem iOpSame_c (W : World) {a b : Option Addr} {cap cap2 : Nat} {l m : List DPart} (hl : RdS W a cap l) (hm : RdS W b cap2 m) : CR Tryz.prog 115 [.slice a l.length cap, .slice b m.length cap2] W (Is (.bool (decide (l = m)))) := by
  have k0 := cw (W := W) fun w hw => equalParts_c w (hl.st hw) (hm.st hw)
  exact calls_j Tryz.func115 rfl rfl rfl r0
/-! Which calls are right -/

theorem DCall.eqf' (x y : DCall) : decide (x = y) = (decide (x.kind = y.kind) && decide (x.doc = y.doc) && decide (x.client = y.client) && decide (x.seq = y.seq) && decide (x.n = y.n) && decide (x.o = y.o) && decide (x.text = y.text)) := by
  cases x; cases y; simp [DCall.mk.injEq, Bool.and_assoc]
theorem iCallSame_c (W : World) {c c2 : List Value} {x y : DCall} (h : Rd W c x) (h2 : Rd W c2 y) : CR Tryz.prog 84 [.agg c.toArray, .agg c2.toArray] W (Is (.bool (decide (x = y)))) := by
  obtain ⟨a0, c0, a1, c1, rfl, _, _, _, _, _, ho, ht⟩ := DCall.rd h
  obtain ⟨b0, e0, b1, e1, rfl, _, _, _, _, _, ho2, ht2⟩ := DCall.rd h2
  have d := DCall.eqf' x y
  have k0 := cw (W := W) fun w hw => iOpSame_c w (ho.st hw) (ho2.st hw)
  have k1 := cw (W := W) fun w hw => equalInt_c w (ht.st hw) (ht2.st hw)
  exact calls_j Tryz.func84 rfl rfl rfl r0
/-- A call with the fields alone that its kind names. -/
def usedC (x : DCall) : DCall := ⟨x.kind, if onDoc x.kind then x.doc else ⟨#[]⟩, if hasWho x.kind then x.client else 0, if x.kind == 2 then x.seq else 0, if hasN x.kind then x.n else 0, if x.kind == 2 then x.o else [], if x.kind == 1 then x.text else []⟩
def usedV (x : DCall) (a0 : Option Addr) (c0 : Nat) (a1 : Option Addr) (c1 : Nat) : List Value :=
  [.int .i64 x.kind, .string (usedC x).doc, .int .i64 (usedC x).client, .int .i64 (usedC x).seq, .int .i64 (usedC x).n, .slice (if x.kind == 2 then a0 else none) (usedC x).o.length (if x.kind == 2 then c0 else 0), .slice (if x.kind == 1 then a1 else none) (usedC x).text.length (if x.kind == 1 then c1 else 0)]
theorem usedV_rd {W : World} {x : DCall} {a0 a1 : Option Addr} {c0 c1 : Nat} (h0 : I64 x.kind) (h1 : SB x.doc) (h2 : I64 x.client) (h3 : I64 x.seq) (h4 : I64 x.n) (h5 : RdS W a0 c0 x.o) (h6 : RdS W a1 c1 x.text) : Rd W (usedV x a0 c0 a1 c1) (usedC x) := by
  refine DCall.mk_rd (x := usedC x) h0 ?_ ?_ ?_ ?_ ?_ ?_
  · unfold usedC; dsimp only; split
    · exact h1
    · exact (show SB ⟨#[]⟩ by decide)
  · unfold usedC; dsimp only; split
    · exact h2
    · decide
  · unfold usedC; dsimp only; split
    · exact h3
    · decide
  · unfold usedC; dsimp only; split
    · exact h4
    · decide
  · unfold usedC; dsimp only; split
    · exact h5
    · exact RdS.nil
  · unfold usedC; dsimp only; split
    · exact h6
    · exact RdS.nil
theorem iUsed_c (W : World) {x : DCall} {a0 a1 : Option Addr} {c0 c1 : Nat} (hk : inR x.kind 1 8 = true) :
    CR Tryz.prog 85 [.agg #[.int .i64 x.kind, .string x.doc, .int .i64 x.client, .int .i64 x.seq, .int .i64 x.n, .slice a0 x.o.length c0, .slice a1 x.text.length c1]] W (Is (.agg (usedV x a0 c0 a1 c1).toArray)) := by
  have k0 := fun z => cw (W := W) fun w hw => iOnDoc_c w z
  obtain ⟨kind, doc, client, seq, n, o, text⟩ := x
  dsimp only at hk ⊢
  have d1 := usedV.eq_1
  have d2 := usedC.eq_1
  have d3 := onDoc.eq_1
  have d4 := hasWho.eq_1
  have d5 := hasN.eq_1
  have d6 := inR.eq_1
  rcases clK_cases hk with rfl | rfl | rfl | rfl | rfl | rfl | rfl | rfl
  all_goals refine calls_j Tryz.func85 rfl rfl rfl ?_
  case inr.inl =>
    refine n1 ?_
    intro b0 b1 b2
    refine jc_z [cellsAt b0 0 [.int .i64 2, .string doc, .int .i64 client, .int .i64 seq, .int .i64 n, .slice a0 o.length c0, .slice a1 text.length c1]] [0, 1, 2, 3, 4, 5, 6, 7, 8, 9, 10, 11, 12, 13, 14, 15] ?_
    exact r0
  case inr.inr.inr.inr.inr.inl =>
    refine n1 ?_
    intro b0 b1 b2
    refine jc_z [cellsAt b0 0 [.int .i64 6, .string doc, .int .i64 client, .int .i64 seq, .int .i64 n, .slice a0 o.length c0, .slice a1 text.length c1]] [0, 1, 2, 3, 4, 5, 6, 7] ?_
    exact r0
  all_goals exact r0
theorem callOk_used (x : DCall) : (inR x.kind 1 8 && decide ((x.doc.size : Int) ≤ 8) && partsOk x.o && textOk x.text && decide (x = usedC x)) = callOk x := by
  unfold callOk
  congr 1
  rw [DCall.eqf']
  unfold unusedOk usedC
  obtain ⟨kind, doc, client, seq, n, o, text⟩ := x
  dsimp only
  cases onDoc kind <;> cases hasWho kind <;> cases hasN kind <;> cases hk : (kind == 1) <;> cases hk2 : (kind == 2) <;> simp <;> grind
end Go.Proofs.YtiobmbicldjikaaGreatDoor
