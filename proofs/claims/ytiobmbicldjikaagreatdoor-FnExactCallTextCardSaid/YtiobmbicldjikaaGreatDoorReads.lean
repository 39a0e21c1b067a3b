/- From the statement's reading of its arguments to the readings of these proofs. Printed by program. No condition. -/
import Derived.Test.YtiobmbicldjikaaGreatDoorMake

import Derived.Deep.Slices

import Derived.ReadAgain

set_option linter.unusedVariables false

namespace Go.Proofs.YtiobmbicldjikaaGreatDoor

open Go.RowKit (Below)

theorem elems_of {α : Type} [Rep α] {w : World} {b off s : Nat} : ∀ (m : Nat), (∀ i, i < m → ∃ (c : List Value) (x : α) (H : Hp), rep c x H ∧ Holds w H ∧ Holds w (cellsAt b (off + i * s) c)) → s = Rep.size α →
    ∃ (cs : List Value) (l : List α) (H : Hp), l.length = m ∧ Elems cs l H ∧ Holds w H ∧ Holds w (cellsAt b off cs)
  | 0, _, _ => ⟨[], [], [], rfl, .nil, Holds.nil, Holds.nil⟩
  | m + 1, h, hs => by
    obtain ⟨cs, l, H, h1, h2, h3, h4⟩ := elems_of m (fun i hi => h i (by omega)) hs
    obtain ⟨c, x, Hx, k1, k2, k3⟩ := h m (by omega)
    refine ⟨cs ++ c, l ++ [x], H ++ Hx, by simp [h1], h2.append (Elems.single k1), h3.append k2, ?_⟩
    rw [cellsAt_append, h2.len, h1, ← hs]
    exact h4.append k3
class RdT (P : Program) (t : TypeId) (α : Type) [Rep α] : Prop where
  rd : ∀ {H : Type} {enc : TypeId × Value → H} {w : World} {fuel : Nat} {cs : List Value} {x : DataW H × List MemPlace}, DataW.trod enc P w 0 (fun _ => true) true fuel t cs = some x → ∃ y : α, Rd w cs y
  cells : P.cellsOf t = Rep.size α
  pos : 0 < Rep.size α
theorem rdT_int {P : Program} {t : TypeId} (hu : P.underlying t = some (.int .i64)) (hc : P.cellsOf t = 1) : RdT P t Int := ⟨fun h => by
  obtain ⟨n, rfl, _, hw⟩ := DataW.trod_int hu h
  exact ⟨n, [], ⟨rfl, rfl, (by simpa [Lit.wf, IntKind.min, IntKind.max, IntKind.signed, IntKind.bits] using hw)⟩, Holds.nil⟩, hc, by decide⟩
theorem rdT_bool {P : Program} {t : TypeId} (hu : P.underlying t = some .bool) (hc : P.cellsOf t = 1) : RdT P t Bool := ⟨fun h => by
  obtain ⟨n, rfl, _⟩ := DataW.trod_bool hu h
  exact ⟨n, [], ⟨rfl, rfl⟩, Holds.nil⟩, hc, by decide⟩
theorem rdT_string {P : Program} {t : TypeId} (hu : P.underlying t = some .string) (hc : P.cellsOf t = 1) : RdT P t ByteArray := ⟨fun h => by
  obtain ⟨n, rfl, _⟩ := DataW.trod_string hu h
  exact ⟨n, [], ⟨rfl, rfl⟩, Holds.nil⟩, hc, by decide⟩
theorem rdT_slice {P : Program} {t e : TypeId} {α : Type} [Rep α] (hu : P.underlying t = some (.slice e)) (hc : P.cellsOf t = 1) (he : RdT P e α) : RdT P t (List α) := ⟨fun {H enc w fuel cs x} h => by
  rcases Go.Deep.open_slice hu h with ⟨rfl, _⟩ | ⟨a, len, cap, m, n, D, Pl, rfl, _, hl, hm, hmm, _, hx⟩
  · exact ⟨[], [], ⟨none, 0, rfl, Slc.nil⟩, Holds.nil⟩
  obtain rfl : m = cap := by simpa using hmm
  rw [he.cells] at hx
  have hpos := he.pos
  by_cases h0 : m = 0
  · subst h0
    obtain rfl : len = 0 := by omega
    exact ⟨[], [], ⟨some a, 0, rfl, .inl ⟨rfl, rfl, rfl⟩⟩, Holds.nil⟩
  obtain ⟨b, off, sp⟩ := a
  obtain rfl : sp = none := by
    obtain ⟨cs', h1, _⟩ := hx 0 (by omega)
    obtain ⟨_, hlen, hcell⟩ := World.cells?_some h1
    have h2 := hcell 0 hpos
    rw [Nat.zero_mul, Addr.add, if_pos rfl, Addr.add, if_pos rfl, List.getElem?_eq_getElem (by omega)] at h2
    unfold World.cell? at h2
    cases sp with
    | none => rfl
    | some s => split at h2 <;> simp at h2
  have el : ∀ i, i < m → ∃ (c : List Value) (x : α) (H : Hp), rep c x H ∧ Holds w H ∧ Holds w (cellsAt b (off + i * Rep.size α) c) := fun i hi => by
    obtain ⟨cs', h1, h2⟩ := hx i hi
    obtain ⟨_, hlen, hcell⟩ := World.cells?_some h1
    obtain ⟨y, Hy, k1, k2⟩ := he.rd h2
    refine ⟨cs', y, Hy, k1, k2, fun p v hm => ?_⟩
    obtain ⟨j, hj, rfl⟩ := mem_cellsAt.1 hm
    have h3 := hcell j (by rw [← hlen]; exact (List.getElem?_eq_some_iff.1 hj).1)
    rw [Addr.add_lit, Addr.add_lit, hj] at h3
    simpa [Nat.add_assoc] using h3
  obtain ⟨cs, l, H, h1, h2, h3, h4⟩ := elems_of len (fun i hi => el i (by omega)) rfl
  obtain ⟨cs2, l2, H2, h12, h22, h32, h42⟩ := elems_of (b := b) (off := off + len * Rep.size α) (α := α) (w := w) (s := Rep.size α) (m - len) (fun i hi => by
    obtain ⟨c, x, H, k1, k2, k3⟩ := el (len + i) (by omega)
    exact ⟨c, x, H, k1, k2, by rw [Nat.add_assoc, ← Nat.add_mul]; exact k3⟩) rfl
  have hmax : m ≤ 9223372036854775807 := by unfold maxLen at hm; omega
  refine ⟨l, cellsAt b off (cs ++ cs2) ++ H, ⟨some ⟨b, off, none⟩, m, by rw [h1], .inr ⟨b, off, cs, cs2, H, rfl, ⟨by omega, hmax⟩, by rw [h22.len, h12, h1], h22.one, h2, rfl⟩⟩, ?_⟩
  refine Holds.append ?_ h3
  rw [cellsAt_append, h2.len, h1]
  exact h4.append h42, hc, (show 0 < 1 by decide)⟩
theorem get_some {β : Type} {xs : List β} {m i : Nat} (h : xs.length = m) (hi : i < m) : ∃ v, xs[i]? = some v := ⟨xs[i], List.getElem?_eq_getElem (by omega)⟩
theorem cut1 {cs : List Value} {n : Nat} (o : Nat) : cs.drop o = (cs.drop o).take n ++ cs.drop (o + n) := by rw [← List.drop_drop, List.take_append_drop]

instance rdt_int : RdT Tryz.prog 3 Int := rdT_int Tryz.underlying3 (by kernel_rfl)
instance rdt_bool : RdT Tryz.prog 4 Bool := rdT_bool Tryz.underlying4 (by kernel_rfl)
instance rdt_string : RdT Tryz.prog 9 ByteArray := rdT_string Tryz.underlying9 (by kernel_rfl)
instance rdt_IntS : RdT Tryz.prog 23 (List Int) := rdT_slice Tryz.underlying23 (by kernel_rfl) inferInstance
instance rdt_Part : RdT Tryz.prog 102 DPart := ⟨fun {H enc w fuel cs x} h => by
  obtain ⟨xs, n, _, _, hl, hn, hf⟩ := DataW.trod_struct Tryz.underlying102 h
  have hl : cs.length = 3 := hl.trans (by kernel_rfl)
  obtain ⟨y0, z0⟩ : ∃ y : Int, Rd w ((cs.drop 0).take 1) y := by
    obtain ⟨v, hv⟩ := get_some hn (i := 0) (by decide)
    have g : DataW.trod enc Tryz.prog w 0 (fun _ => true) true n 3 ((cs.drop 0).take (Tryz.prog.cellsOf 3)) = some v := (hf 0 _ rfl).trans hv
    rw [show Tryz.prog.cellsOf 3 = 1 from (inferInstance : RdT Tryz.prog 3 (Int)).cells] at g
    exact (inferInstance : RdT Tryz.prog 3 (Int)).rd g
  obtain ⟨y1, z1⟩ : ∃ y : Int, Rd w ((cs.drop 1).take 1) y := by
    obtain ⟨v, hv⟩ := get_some hn (i := 1) (by decide)
    have g : DataW.trod enc Tryz.prog w 0 (fun _ => true) true n 3 ((cs.drop 1).take (Tryz.prog.cellsOf 3)) = some v := (hf 1 _ rfl).trans hv
    rw [show Tryz.prog.cellsOf 3 = 1 from (inferInstance : RdT Tryz.prog 3 (Int)).cells] at g
    exact (inferInstance : RdT Tryz.prog 3 (Int)).rd g
  obtain ⟨y2, z2⟩ : ∃ y : List Int, Rd w ((cs.drop 2).take 1) y := by
    obtain ⟨v, hv⟩ := get_some hn (i := 2) (by decide)
    have g : DataW.trod enc Tryz.prog w 0 (fun _ => true) true n 23 ((cs.drop 2).take (Tryz.prog.cellsOf 23)) = some v := (hf 2 _ rfl).trans hv
    rw [show Tryz.prog.cellsOf 23 = 1 from (inferInstance : RdT Tryz.prog 23 (List Int)).cells] at g
    exact (inferInstance : RdT Tryz.prog 23 (List Int)).rd g
  have e : cs = (cs.drop 0).take 1 ++ ((cs.drop 1).take 1 ++ ((cs.drop 2).take 1)) := by
    conv => lhs; rw [← List.drop_zero (l := cs)]
    refine (cut1 (n := 1) 0).trans (congrArg _ ?_)
    skip
    refine (cut1 (n := 1) 1).trans (congrArg _ ?_)
    exact (List.take_of_length_le (by rw [List.length_drop]; omega)).symm
  obtain ⟨H0, ⟨q0, _, b0⟩, _⟩ := z0
  obtain ⟨H1, ⟨q1, _, b1⟩, _⟩ := z1
  obtain ⟨H2, ⟨a2, c2, q2, s2⟩, m2⟩ := z2
  refine ⟨⟨y0, y1, y2⟩, _, ⟨a2, c2, H2, ?_, rfl, b0, b1, s2⟩, m2⟩
  refine e.trans ?_; rw [q0, q1, q2]; rfl, by kernel_rfl, by decide⟩
instance rdt_PartS : RdT Tryz.prog 22 (List DPart) := rdT_slice Tryz.underlying22 (by kernel_rfl) inferInstance

instance rdt_Call : RdT Tryz.prog 25 DCall := ⟨fun {H enc w fuel cs x} h => by
  obtain ⟨xs, n, _, _, hl, hn, hf⟩ := DataW.trod_struct Tryz.underlying25 h
  have hl : cs.length = 7 := hl.trans (by kernel_rfl)
  obtain ⟨y0, z0⟩ : ∃ y : Int, Rd w ((cs.drop 0).take 1) y := by
    obtain ⟨v, hv⟩ := get_some hn (i := 0) (by decide)
    have g : DataW.trod enc Tryz.prog w 0 (fun _ => true) true n 3 ((cs.drop 0).take (Tryz.prog.cellsOf 3)) = some v := (hf 0 _ rfl).trans hv
    rw [show Tryz.prog.cellsOf 3 = 1 from (inferInstance : RdT Tryz.prog 3 (Int)).cells] at g
    exact (inferInstance : RdT Tryz.prog 3 (Int)).rd g
  obtain ⟨y1, q1, b1⟩ : ∃ y : ByteArray, (cs.drop 1).take 1 = [.string y] ∧ SB y := by
    obtain ⟨v, hv⟩ := get_some hn (i := 1) (by decide)
    have g : DataW.trod enc Tryz.prog w 0 (fun _ => true) true n 9 ((cs.drop 1).take (Tryz.prog.cellsOf 9)) = some v := (hf 1 _ rfl).trans hv
    rw [show Tryz.prog.cellsOf 9 = 1 from (inferInstance : RdT Tryz.prog 9 ByteArray).cells] at g
    obtain ⟨s, h1, _, h2⟩ := DataW.trod_string Tryz.underlying9 g
    exact ⟨s, h1, by unfold maxLen at h2; exact h2⟩
  obtain ⟨y2, z2⟩ : ∃ y : Int, Rd w ((cs.drop 2).take 1) y := by
    obtain ⟨v, hv⟩ := get_some hn (i := 2) (by decide)
    have g : DataW.trod enc Tryz.prog w 0 (fun _ => true) true n 3 ((cs.drop 2).take (Tryz.prog.cellsOf 3)) = some v := (hf 2 _ rfl).trans hv
    rw [show Tryz.prog.cellsOf 3 = 1 from (inferInstance : RdT Tryz.prog 3 (Int)).cells] at g
    exact (inferInstance : RdT Tryz.prog 3 (Int)).rd g
  obtain ⟨y3, z3⟩ : ∃ y : Int, Rd w ((cs.drop 3).take 1) y := by
    obtain ⟨v, hv⟩ := get_some hn (i := 3) (by decide)
    have g : DataW.trod enc Tryz.prog w 0 (fun _ => true) true n 3 ((cs.drop 3).take (Tryz.prog.cellsOf 3)) = some v := (hf 3 _ rfl).trans hv
    rw [show Tryz.prog.cellsOf 3 = 1 from (inferInstance : RdT Tryz.prog 3 (Int)).cells] at g
    exact (inferInstance : RdT Tryz.prog 3 (Int)).rd g
  obtain ⟨y4, z4⟩ : ∃ y : Int, Rd w ((cs.drop 4).take 1) y := by
    obtain ⟨v, hv⟩ := get_some hn (i := 4) (by decide)
    have g : DataW.trod enc Tryz.prog w 0 (fun _ => true) true n 3 ((cs.drop 4).take (Tryz.prog.cellsOf 3)) = some v := (hf 4 _ rfl).trans hv
    rw [show Tryz.prog.cellsOf 3 = 1 from (inferInstance : RdT Tryz.prog 3 (Int)).cells] at g
    exact (inferInstance : RdT Tryz.prog 3 (Int)).rd g
  obtain ⟨y5, z5⟩ : ∃ y : List DPart, Rd w ((cs.drop 5).take 1) y := by
    obtain ⟨v, hv⟩ := get_some hn (i := 5) (by decide)
    have g : DataW.trod enc Tryz.prog w 0 (fun _ => true) true n 22 ((cs.drop 5).take (Tryz.prog.cellsOf 22)) = some v := (hf 5 _ rfl).trans hv
    rw [show Tryz.prog.cellsOf 22 = 1 from (inferInstance : RdT Tryz.prog 22 (List DPart)).cells] at g
    exact (inferInstance : RdT Tryz.prog 22 (List DPart)).rd g
  obtain ⟨y6, z6⟩ : ∃ y : List Int, Rd w ((cs.drop 6).take 1) y := by
    obtain ⟨v, hv⟩ := get_some hn (i := 6) (by decide)
    have g : DataW.trod enc Tryz.prog w 0 (fun _ => true) true n 23 ((cs.drop 6).take (Tryz.prog.cellsOf 23)) = some v := (hf 6 _ rfl).trans hv
    rw [show Tryz.prog.cellsOf 23 = 1 from (inferInstance : RdT Tryz.prog 23 (List Int)).cells] at g
    exact (inferInstance : RdT Tryz.prog 23 (List Int)).rd g
  have e : cs = (cs.drop 0).take 1 ++ ((cs.drop 1).take 1 ++ ((cs.drop 2).take 1 ++ ((cs.drop 3).take 1 ++ ((cs.drop 4).take 1 ++ ((cs.drop 5).take 1 ++ ((cs.drop 6).take 1)))))) := by
    conv => lhs; rw [← List.drop_zero (l := cs)]
    refine (cut1 (n := 1) 0).trans (congrArg _ ?_)
    skip
    refine (cut1 (n := 1) 1).trans (congrArg _ ?_)
    skip
    refine (cut1 (n := 1) 2).trans (congrArg _ ?_)
    skip
    refine (cut1 (n := 1) 3).trans (congrArg _ ?_)
    skip
    refine (cut1 (n := 1) 4).trans (congrArg _ ?_)
    skip
    refine (cut1 (n := 1) 5).trans (congrArg _ ?_)
    exact (List.take_of_length_le (by rw [List.length_drop]; omega)).symm
  obtain ⟨H0, ⟨q0, _, b0⟩, _⟩ := z0
  obtain ⟨H2, ⟨q2, _, b2⟩, _⟩ := z2
  obtain ⟨H3, ⟨q3, _, b3⟩, _⟩ := z3
  obtain ⟨H4, ⟨q4, _, b4⟩, _⟩ := z4
  obtain ⟨H5, ⟨a5, c5, q5, s5⟩, m5⟩ := z5
  obtain ⟨H6, ⟨a6, c6, q6, s6⟩, m6⟩ := z6
  refine ⟨⟨y0, y1, y2, y3, y4, y5, y6⟩, _, ⟨a5, c5, H5, a6, c6, H6, ?_, rfl, b0, b1, b2, b3, b4, s5, s6⟩, (m5).append m6⟩
  refine e.trans ?_; rw [q0, q1, q2, q3, q4, q5, q6]; rfl, by kernel_rfl, by decide⟩

end Go.Proofs.YtiobmbicldjikaaGreatDoor
