/- From the statement's reading of its arguments to the readings of these proofs. Printed by program. No condition. -/
import Derived.Test.YtcmhkkhiipdbbaaDoorMake
import Derived.Deep.Slices
import Derived.ReadAgain
set_option linter.unusedVariables false
namespace Go.Proofs.YtcmhkkhiipdbbaaDoor
open Go.RowKit (Below)

theorem elems_of {α : Type} [Rep α] {w : World} {b off s : Nat} : ∀ (m : Nat), (∀ i, i < m → ∃ (c : List Value) (x : α) (H : Hp), rep c x H ∧ Holds w H ∧ Holds w (cellsAt b (off + i * s) c)) → s = Rep.size α →
    ∃ (cs : List Value) (l : List α) (H : Hp), l.length = m ∧ Elems cs l H ∧ Holds w H ∧ Holds w (cellsAt b off cs)
  | 0, _, _ => ⟨[], [], [], rfl, .nil, Holds.nil, Holds.nil⟩
  | m + 1, h, hs => by
    obtain ⟨cs, l, H, h1, h2, h3, h4⟩ := elems_of m (fun i hi => h i (by omega)) hs
    obtain ⟨c, x, Hx, k1, k2, k3⟩ := h m (by omega)
    refine ⟨cs ++ c, l ++ [x], H ++ Hx, by simp [h1], h2.append (Elems.single k1), h3.append k2, ?_⟩
    rw [cellsAt_append, h2.len, h1, ← hs]
    exact h4.append k3
class RdT (P : Program) (t : TypeId) (α : Type) [Rep α] : Prop where
  rd : ∀ {H : Type} {enc : TypeId × Value → H} {w : World} {fuel : Nat} {cs : List Value} {x : DataW H × List MemPlace}, DataW.trod enc P w 0 (fun _ => true) true fuel t cs = some x → ∃ y : α, Rd w cs y
  cells : P.cellsOf t = Rep.size α
  pos : 0 < Rep.size α
theorem rdT_int {P : Program} {t : TypeId} (hu : P.underlying t = some (.int .i64)) (hc : P.cellsOf t = 1) : RdT P t Int := ⟨fun h => by
  obtain ⟨n, rfl, _, hw⟩ := DataW.trod_int hu h
  exact ⟨n, [], ⟨rfl, rfl, (by simpa [Lit.wf, IntKind.min, IntKind.max, IntKind.signed, IntKind.bits] using hw)⟩, Holds.nil⟩, hc, by decide⟩
theorem rdT_bool {P : Program} {t : TypeId} (hu : P.underlying t = some .bool) (hc : P.cellsOf t = 1) : RdT P t Bool := ⟨fun h => by
  obtain ⟨n, rfl, _⟩ := DataW.trod_bool hu h
  exact ⟨n, [], ⟨rfl, rfl⟩, Holds.nil⟩, hc, by decide⟩
theorem rdT_string {P : Program} {t : TypeId} (hu : P.underlying t = some .string) (hc : P.cellsOf t = 1) : RdT P t ByteArray := ⟨fun h => by
  obtain ⟨n, rfl, _⟩ := DataW.trod_string hu h
  exact ⟨n, [], ⟨rfl, rfl⟩, Holds.nil⟩, hc, by decide⟩
theorem rdT_slice {P : Program} {t e : TypeId} {α : Type} [Rep α] (hu : P.underlying t = some (.slice e)) (hc : P.cellsOf t = 1) (he : RdT P e α) : RdT P t (List α) := ⟨fun {H enc w fuel cs x} h => by
  rcases Go.Deep.open_slice hu h with ⟨rfl, _⟩ | ⟨a, len, cap, m, n, D, Pl, rfl, _, hl, hm, hmm, _, hx⟩
  · exact ⟨[], [], ⟨none, 0, rfl, Slc.nil⟩, Holds.nil⟩
  obtain rfl : m = cap := by simpa using hmm
  rw [he.cells] at hx
  have hpos := he.pos
  by_cases h0 : m = 0
  · subst h0
    obtain rfl : len = 0 := by omega
    exact ⟨[], [], ⟨some a, 0, rfl, .inl ⟨rfl, rfl, rfl⟩⟩, Holds.nil⟩
  obtain ⟨b, off, sp⟩ := a
  obtain rfl : sp = none := by
    obtain ⟨cs', h1, _⟩ := hx 0 (by omega)
    obtain ⟨_, hlen, hcell⟩ := World.cells?_some h1
    have h2 := hcell 0 hpos
    rw [Nat.zero_mul, Addr.add, if_pos rfl, Addr.add, if_pos rfl, List.getElem?_eq_getElem (by omega)] at h2
    unfold World.cell? at h2
    cases sp with
    | none => rfl
    | some s => split at h2 <;> simp at h2
  have el : ∀ i, i < m → ∃ (c : List Value) (x : α) (H : Hp), rep c x H ∧ Holds w H ∧ Holds w (cellsAt b (off + i * Rep.size α) c) := fun i hi => by
    obtain ⟨cs', h1, h2⟩ := hx i hi
    obtain ⟨_, hlen, hcell⟩ := World.cells?_some h1
    obtain ⟨y, Hy, k1, k2⟩ := he.rd h2
    refine ⟨cs', y, Hy, k1, k2, fun p v hm => ?_⟩
    obtain ⟨j, hj, rfl⟩ := mem_cellsAt.1 hm
    have h3 := hcell j (by rw [← hlen]; exact (List.getElem?_eq_some_iff.1 hj).1)
    rw [Addr.add_lit, Addr.add_lit, hj] at h3
    simpa [Nat.add_assoc] using h3
  obtain ⟨cs, l, H, h1, h2, h3, h4⟩ := elems_of len (fun i hi => el i (by omega)) rfl
  obtain ⟨cs2, l2, H2, h12, h22, h32, h42⟩ := elems_of (b := b) (off := off + len * Rep.size α) (α := α) (w := w) (s := Rep.size α) (m - len) (fun i hi => by
    obtain ⟨c, x, H, k1, k2, k3⟩ := el (len + i) (by omega)
    exact ⟨c, x, H, k1, k2, by rw [Nat.add_assoc, ← Nat.add_mul]; exact k3⟩) rfl
  have hmax : m ≤ 9223372036854775807 := by unfold maxLen at hm; omega
  refine ⟨l, cellsAt b off (cs ++ cs2) ++ H, ⟨some ⟨b, off, none⟩, m, by rw [h1], .inr ⟨b, off, cs, cs2, H, rfl, ⟨by omega, hmax⟩, by rw [h22.len, h12, h1], h22.one, h2, rfl⟩⟩, ?_⟩
  refine Holds.append ?_ h3
  rw [cellsAt_append, h2.len, h1]
  exact h4.append h42, hc, (show 0 < 1 by decide)⟩
theorem get_some {β : Type} {xs : List β} {m i : Nat} (h : xs.length = m) (hi : i < m) : ∃ v, xs[i]? = some v := ⟨xs[i], List.getElem?_eq_getElem (by omega)⟩
theorem cut1 {cs : List Value} {n : Nat} (o : Nat) : cs.drop o = (cs.drop o).take n ++ cs.drop (o + n) := by rw [← List.drop_drop, List.take_append_drop]

instance rdt_int : RdT Tryd.prog 3 Int := rdT_int Tryd.underlying3 (by kernel_rfl)
instance rdt_bool : RdT Tryd.prog 4 Bool := rdT_bool Tryd.underlying4 (by kernel_rfl)
instance rdt_string : RdT Tryd.prog 9 ByteArray := rdT_string Tryd.underlying9 (by kernel_rfl)
instance rdt_IntS : RdT Tryd.prog 42 (List Int) := rdT_slice Tryd.underlying42 (by kernel_rfl) inferInstance
instance rdt_Part : RdT Tryd.prog 70 DPart := ⟨fun {H enc w fuel cs x} h => by
  obtain ⟨xs, n, _, _, hl, hn, hf⟩ := DataW.trod_struct Tryd.underlying70 h
  have hl : cs.length = 3 := hl.trans (by kernel_rfl)
  obtain ⟨y0, z0⟩ : ∃ y : Int, Rd w ((cs.drop 0).take 1) y := by
    obtain ⟨v, hv⟩ := get_some hn (i := 0) (by decide)
    have g : DataW.trod enc Tryd.prog w 0 (fun _ => true) true n 3 ((cs.drop 0).take (Tryd.prog.cellsOf 3)) = some v := (hf 0 _ rfl).trans hv
    rw [show Tryd.prog.cellsOf 3 = 1 from (inferInstance : RdT Tryd.prog 3 (Int)).cells] at g
    exact (inferInstance : RdT Tryd.prog 3 (Int)).rd g
  obtain ⟨y1, z1⟩ : ∃ y : Int, Rd w ((cs.drop 1).take 1) y := by
    obtain ⟨v, hv⟩ := get_some hn (i := 1) (by decide)
    have g : DataW.trod enc Tryd.prog w 0 (fun _ => true) true n 3 ((cs.drop 1).take (Tryd.prog.cellsOf 3)) = some v := (hf 1 _ rfl).trans hv
    rw [show Tryd.prog.cellsOf 3 = 1 from (inferInstance : RdT Tryd.prog 3 (Int)).cells] at g
    exact (inferInstance : RdT Tryd.prog 3 (Int)).rd g
  obtain ⟨y2, z2⟩ : ∃ y : List Int, Rd w ((cs.drop 2).take 1) y := by
    obtain ⟨v, hv⟩ := get_some hn (i := 2) (by decide)
    have g : DataW.trod enc Tryd.prog w 0 (fun _ => true) true n 42 ((cs.drop 2).take (Tryd.prog.cellsOf 42)) = some v := (hf 2 _ rfl).trans hv
    rw [show Tryd.prog.cellsOf 42 = 1 from (inferInstance : RdT Tryd.prog 42 (List Int)).cells] at g
    exact (inferInstance : RdT Tryd.prog 42 (List Int)).rd g
  have e : cs = (cs.drop 0).take 1 ++ ((cs.drop 1).take 1 ++ ((cs.drop 2).take 1)) := by
    conv => lhs; rw [← List.drop_zero (l := cs)]
    refine (cut1 (n := 1) 0).trans (congrArg _ ?_)
    skip
    refine (cut1 (n := 1) 1).trans (congrArg _ ?_)
    exact (List.take_of_length_le (by rw [List.length_drop]; omega)).symm
  obtain ⟨H0, ⟨q0, _, b0⟩, _⟩ := z0
  obtain ⟨H1, ⟨q1, _, b1⟩, _⟩ := z1
  obtain ⟨H2, ⟨a2, c2, q2, s2⟩, m2⟩ := z2
  refine ⟨⟨y0, y1, y2⟩, _, ⟨a2, c2, H2, ?_, rfl, b0, b1, s2⟩, m2⟩
  rw [e, q0, q1, q2]; rfl, by kernel_rfl, by decide⟩
instance rdt_PartS : RdT Tryd.prog 22 (List DPart) := rdT_slice Tryd.underlying22 (by kernel_rfl) inferInstance

instance rdt_Entry : RdT Tryd.prog 24 DEntry := ⟨fun {H enc w fuel cs x} h => by
  obtain ⟨xs, n, _, _, hl, hn, hf⟩ := DataW.trod_struct Tryd.underlying24 h
  have hl : cs.length = 3 := hl.trans (by kernel_rfl)
  obtain ⟨y0, z0⟩ : ∃ y : Int, Rd w ((cs.drop 0).take 1) y := by
    obtain ⟨v, hv⟩ := get_some hn (i := 0) (by decide)
    have g : DataW.trod enc Tryd.prog w 0 (fun _ => true) true n 3 ((cs.drop 0).take (Tryd.prog.cellsOf 3)) = some v := (hf 0 _ rfl).trans hv
    rw [show Tryd.prog.cellsOf 3 = 1 from (inferInstance : RdT Tryd.prog 3 (Int)).cells] at g
    exact (inferInstance : RdT Tryd.prog 3 (Int)).rd g
  obtain ⟨y1, z1⟩ : ∃ y : Int, Rd w ((cs.drop 1).take 1) y := by
    obtain ⟨v, hv⟩ := get_some hn (i := 1) (by decide)
    have g : DataW.trod enc Tryd.prog w 0 (fun _ => true) true n 3 ((cs.drop 1).take (Tryd.prog.cellsOf 3)) = some v := (hf 1 _ rfl).trans hv
    rw [show Tryd.prog.cellsOf 3 = 1 from (inferInstance : RdT Tryd.prog 3 (Int)).cells] at g
    exact (inferInstance : RdT Tryd.prog 3 (Int)).rd g
  obtain ⟨y2, z2⟩ : ∃ y : List DPart, Rd w ((cs.drop 2).take 1) y := by
    obtain ⟨v, hv⟩ := get_some hn (i := 2) (by decide)
    have g : DataW.trod enc Tryd.prog w 0 (fun _ => true) true n 22 ((cs.drop 2).take (Tryd.prog.cellsOf 22)) = some v := (hf 2 _ rfl).trans hv
    rw [show Tryd.prog.cellsOf 22 = 1 from (inferInstance : RdT Tryd.prog 22 (List DPart)).cells] at g
    exact (inferInstance : RdT Tryd.prog 22 (List DPart)).rd g
  have e : cs = (cs.drop 0).take 1 ++ ((cs.drop 1).take 1 ++ ((cs.drop 2).take 1)) := by
    conv => lhs; rw [← List.drop_zero (l := cs)]
    refine (cut1 (n := 1) 0).trans (congrArg _ ?_)
    skip
    refine (cut1 (n := 1) 1).trans (congrArg _ ?_)
    exact (List.take_of_length_le (by rw [List.length_drop]; omega)).symm
  obtain ⟨H0, ⟨q0, _, b0⟩, _⟩ := z0
  obtain ⟨H1, ⟨q1, _, b1⟩, _⟩ := z1
  obtain ⟨H2, ⟨a2, c2, q2, s2⟩, m2⟩ := z2
  refine ⟨⟨y0, y1, y2⟩, _, ⟨a2, c2, H2, ?_, rfl, b0, b1, s2⟩, m2⟩
  rw [e, q0, q1, q2]; rfl, by kernel_rfl, by decide⟩
instance rdt_EntryS : RdT Tryd.prog 43 (List DEntry) := rdT_slice Tryd.underlying43 (by kernel_rfl) inferInstance

instance rdt_Answer : RdT Tryd.prog 45 DAnswer := ⟨fun {H enc w fuel cs x} h => by
  obtain ⟨xs, n, _, _, hl, hn, hf⟩ := DataW.trod_struct Tryd.underlying45 h
  have hl : cs.length = 4 := hl.trans (by kernel_rfl)
  obtain ⟨y0, z0⟩ : ∃ y : Int, Rd w ((cs.drop 0).take 1) y := by
    obtain ⟨v, hv⟩ := get_some hn (i := 0) (by decide)
    have g : DataW.trod enc Tryd.prog w 0 (fun _ => true) true n 3 ((cs.drop 0).take (Tryd.prog.cellsOf 3)) = some v := (hf 0 _ rfl).trans hv
    rw [show Tryd.prog.cellsOf 3 = 1 from (inferInstance : RdT Tryd.prog 3 (Int)).cells] at g
    exact (inferInstance : RdT Tryd.prog 3 (Int)).rd g
  obtain ⟨y1, z1⟩ : ∃ y : Int, Rd w ((cs.drop 1).take 1) y := by
    obtain ⟨v, hv⟩ := get_some hn (i := 1) (by decide)
    have g : DataW.trod enc Tryd.prog w 0 (fun _ => true) true n 3 ((cs.drop 1).take (Tryd.prog.cellsOf 3)) = some v := (hf 1 _ rfl).trans hv
    rw [show Tryd.prog.cellsOf 3 = 1 from (inferInstance : RdT Tryd.prog 3 (Int)).cells] at g
    exact (inferInstance : RdT Tryd.prog 3 (Int)).rd g
  obtain ⟨y2, z2⟩ : ∃ y : List Int, Rd w ((cs.drop 2).take 1) y := by
    obtain ⟨v, hv⟩ := get_some hn (i := 2) (by decide)
    have g : DataW.trod enc Tryd.prog w 0 (fun _ => true) true n 42 ((cs.drop 2).take (Tryd.prog.cellsOf 42)) = some v := (hf 2 _ rfl).trans hv
    rw [show Tryd.prog.cellsOf 42 = 1 from (inferInstance : RdT Tryd.prog 42 (List Int)).cells] at g
    exact (inferInstance : RdT Tryd.prog 42 (List Int)).rd g
  obtain ⟨y3, z3⟩ : ∃ y : List DEntry, Rd w ((cs.drop 3).take 1) y := by
    obtain ⟨v, hv⟩ := get_some hn (i := 3) (by decide)
    have g : DataW.trod enc Tryd.prog w 0 (fun _ => true) true n 43 ((cs.drop 3).take (Tryd.prog.cellsOf 43)) = some v := (hf 3 _ rfl).trans hv
    rw [show Tryd.prog.cellsOf 43 = 1 from (inferInstance : RdT Tryd.prog 43 (List DEntry)).cells] at g
    exact (inferInstance : RdT Tryd.prog 43 (List DEntry)).rd g
  have e : cs = (cs.drop 0).take 1 ++ ((cs.drop 1).take 1 ++ ((cs.drop 2).take 1 ++ ((cs.drop 3).take 1))) := by
    conv => lhs; rw [← List.drop_zero (l := cs)]
    refine (cut1 (n := 1) 0).trans (congrArg _ ?_)
    skip
    refine (cut1 (n := 1) 1).trans (congrArg _ ?_)
    skip
    refine (cut1 (n := 1) 2).trans (congrArg _ ?_)
    exact (List.take_of_length_le (by rw [List.length_drop]; omega)).symm
  obtain ⟨H0, ⟨q0, _, b0⟩, _⟩ := z0
  obtain ⟨H1, ⟨q1, _, b1⟩, _⟩ := z1
  obtain ⟨H2, ⟨a2, c2, q2, s2⟩, m2⟩ := z2
  obtain ⟨H3, ⟨a3, c3, q3, s3⟩, m3⟩ := z3
  refine ⟨⟨y0, y1, y2, y3⟩, _, ⟨a2, c2, H2, a3, c3, H3, ?_, rfl, b0, b1, s2, s3⟩, (m2).append m3⟩
  rw [e, q0, q1, q2, q3]; rfl, by kernel_rfl, by decide⟩

instance rdt_Event : RdT Tryd.prog 34 DEvent := ⟨fun {H enc w fuel cs x} h => by
  obtain ⟨xs, n, _, _, hl, hn, hf⟩ := DataW.trod_struct Tryd.underlying34 h
  have hl : cs.length = 4 := hl.trans (by kernel_rfl)
  obtain ⟨y0, z0⟩ : ∃ y : Int, Rd w ((cs.drop 0).take 1) y := by
    obtain ⟨v, hv⟩ := get_some hn (i := 0) (by decide)
    have g : DataW.trod enc Tryd.prog w 0 (fun _ => true) true n 3 ((cs.drop 0).take (Tryd.prog.cellsOf 3)) = some v := (hf 0 _ rfl).trans hv
    rw [show Tryd.prog.cellsOf 3 = 1 from (inferInstance : RdT Tryd.prog 3 (Int)).cells] at g
    exact (inferInstance : RdT Tryd.prog 3 (Int)).rd g
  obtain ⟨y1, z1⟩ : ∃ y : Int, Rd w ((cs.drop 1).take 1) y := by
    obtain ⟨v, hv⟩ := get_some hn (i := 1) (by decide)
    have g : DataW.trod enc Tryd.prog w 0 (fun _ => true) true n 3 ((cs.drop 1).take (Tryd.prog.cellsOf 3)) = some v := (hf 1 _ rfl).trans hv
    rw [show Tryd.prog.cellsOf 3 = 1 from (inferInstance : RdT Tryd.prog 3 (Int)).cells] at g
    exact (inferInstance : RdT Tryd.prog 3 (Int)).rd g
  obtain ⟨y2, z2⟩ : ∃ y : Int, Rd w ((cs.drop 2).take 1) y := by
    obtain ⟨v, hv⟩ := get_some hn (i := 2) (by decide)
    have g : DataW.trod enc Tryd.prog w 0 (fun _ => true) true n 3 ((cs.drop 2).take (Tryd.prog.cellsOf 3)) = some v := (hf 2 _ rfl).trans hv
    rw [show Tryd.prog.cellsOf 3 = 1 from (inferInstance : RdT Tryd.prog 3 (Int)).cells] at g
    exact (inferInstance : RdT Tryd.prog 3 (Int)).rd g
  obtain ⟨y3, z3⟩ : ∃ y : List DPart, Rd w ((cs.drop 3).take 1) y := by
    obtain ⟨v, hv⟩ := get_some hn (i := 3) (by decide)
    have g : DataW.trod enc Tryd.prog w 0 (fun _ => true) true n 22 ((cs.drop 3).take (Tryd.prog.cellsOf 22)) = some v := (hf 3 _ rfl).trans hv
    rw [show Tryd.prog.cellsOf 22 = 1 from (inferInstance : RdT Tryd.prog 22 (List DPart)).cells] at g
    exact (inferInstance : RdT Tryd.prog 22 (List DPart)).rd g
  have e : cs = (cs.drop 0).take 1 ++ ((cs.drop 1).take 1 ++ ((cs.drop 2).take 1 ++ ((cs.drop 3).take 1))) := by
    conv => lhs; rw [← List.drop_zero (l := cs)]
    refine (cut1 (n := 1) 0).trans (congrArg _ ?_)
    skip
    refine (cut1 (n := 1) 1).trans (congrArg _ ?_)
    skip
    refine (cut1 (n := 1) 2).trans (congrArg _ ?_)
    exact (List.take_of_length_le (by rw [List.length_drop]; omega)).symm
  obtain ⟨H0, ⟨q0, _, b0⟩, _⟩ := z0
  obtain ⟨H1, ⟨q1, _, b1⟩, _⟩ := z1
  obtain ⟨H2, ⟨q2, _, b2⟩, _⟩ := z2
  obtain ⟨H3, ⟨a3, c3, q3, s3⟩, m3⟩ := z3
  refine ⟨⟨y0, y1, y2, y3⟩, _, ⟨a3, c3, H3, ?_, rfl, b0, b1, b2, s3⟩, m3⟩
  rw [e, q0, q1, q2, q3]; rfl, by kernel_rfl, by decide⟩

end Go.Proofs.YtcmhkkhiipdbbaaDoor
