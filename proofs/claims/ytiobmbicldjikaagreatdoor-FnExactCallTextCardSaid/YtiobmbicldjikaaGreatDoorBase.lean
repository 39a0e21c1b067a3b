/- The ground of these proofs: a small separation logic over the model's worlds, and rules that carry a goal over the code's operations. No condition. -/
import Derived.WalkKit
import Derived.Deep.LoopGhost
import Derived.Deep.QuietTactic
import Derived.WalkLawsBesides
set_option linter.unusedVariables false
namespace Go.Proofs.YtiobmbicldjikaaGreatDoor
open Go.RowKit (Below)

/-! ### Heaplets: lists of cells -/
abbrev Hp := List ((Nat × Nat) × Value)

def cellsAt (b : Nat) : Nat → List Value → Hp
  | _, [] => []
  | o, v :: vs => ((b, o), v) :: cellsAt b (o + 1) vs

theorem mem_cellsAt {b : Nat} {p : Nat × Nat} {v : Value} : ∀ {vs : List Value} {o : Nat}, (p, v) ∈ cellsAt b o vs ↔ ∃ i, vs[i]? = some v ∧ p = (b, o + i)
  | [], o => by simp [cellsAt]
  | u :: vs, o => by
    simp only [cellsAt, List.mem_cons, Prod.mk.injEq, mem_cellsAt (vs := vs)]
    constructor
    · rintro (⟨h1, h2⟩ | ⟨i, h1, h2⟩)
      · exact ⟨0, by simp [h2], by simp [h1]⟩
      · exact ⟨i + 1, by simpa using h1, by rw [h2]; simp; omega⟩
    · rintro ⟨i, h1, h2⟩
      cases i with
      | zero => left; exact ⟨by simpa using h2, by simpa using h1.symm⟩
      | succ i => right; exact ⟨i, by simpa using h1, by rw [h2]; simp; omega⟩

theorem cellsAt_append (b : Nat) : ∀ (vs us : List Value) (o : Nat), cellsAt b o (vs ++ us) = cellsAt b o vs ++ cellsAt b (o + vs.length) us
  | [], us, o => by simp [cellsAt]
  | v :: vs, us, o => by simp [cellsAt, cellsAt_append b vs us (o + 1), Nat.add_assoc, Nat.add_comm 1]

theorem cellsAt_keys (b : Nat) : ∀ (vs : List Value) (o : Nat), (cellsAt b o vs).map Prod.fst = (List.range' o vs.length).map (fun i => (b, i))
  | [], o => by simp [cellsAt]
  | v :: vs, o => by simp [cellsAt, cellsAt_keys b vs (o + 1), List.range'_succ]

theorem cellsAt_nodup (b o : Nat) (vs : List Value) : ((cellsAt b o vs).map Prod.fst).Nodup := by
  rw [cellsAt_keys]
  exact List.Pairwise.map _ (fun a b h => by simp; exact h) (List.nodup_range' (s := o) (n := vs.length))

def Holds (w : World) (H : Hp) : Prop := ∀ p v, (p, v) ∈ H → w.cell? ⟨p.1, p.2, none⟩ = some v

theorem Holds.sub {w : World} {H H' : Hp} (h : Holds w H) (hs : ∀ x, x ∈ H' → x ∈ H) : Holds w H' := fun p v hm => h p v (hs _ hm)
theorem Holds.append {w : World} {H H' : Hp} (h : Holds w H) (h' : Holds w H') : Holds w (H ++ H') := fun p v hm => by
  rcases List.mem_append.1 hm with h1 | h1
  · exact h p v h1
  · exact h' p v h1
theorem Holds.left {w : World} {H H' : Hp} (h : Holds w (H ++ H')) : Holds w H := h.sub fun _ => List.mem_append_left _
theorem Holds.right {w : World} {H H' : Hp} (h : Holds w (H ++ H')) : Holds w H' := h.sub fun _ => List.mem_append_right _
theorem Holds.nil {w : World} : Holds w [] := fun p v hm => by cases hm
theorem lt_of_cell {w : World} {a : Addr} {v : Value} (h : w.cell? a = some v) : a.block < w.heap.size := World.block_lt_of_cell? w a h
theorem Holds.below {w w' : World} {H : Hp} (h : Holds w H) (hb : Below w.heap.size w w') : Holds w' H := fun p v hm =>
  (hb.cell (p := ⟨p.1, p.2, none⟩) (lt_of_cell (h p v hm))).trans (h p v hm)

structure Sat (B : Nat) (w : World) (H : Hp) : Prop where
  holds : Holds w H
  nodup : (H.map Prod.fst).Nodup
  own : ∀ p v, (p, v) ∈ H → B ≤ p.1
  free : ∀ p v, (p, v) ∈ H → w.frozen? ⟨p.1, p.2, none⟩ = false

theorem Sat.nil (B : Nat) (w : World) : Sat B w [] := ⟨Holds.nil, by simp, (fun _ _ h => by cases h), (fun _ _ h => by cases h)⟩
theorem Sat.perm {B : Nat} {w : World} {H H' : Hp} (h : Sat B w H) (hp : H.Perm H') : Sat B w H' :=
  ⟨h.holds.sub fun _ hm => hp.mem_iff.2 hm, (hp.map Prod.fst).nodup_iff.1 h.nodup, fun p v hm => h.own p v (hp.mem_iff.2 hm), fun p v hm => h.free p v (hp.mem_iff.2 hm)⟩
theorem Sat.left {B : Nat} {w : World} {H H' : Hp} (h : Sat B w (H ++ H')) : Sat B w H :=
  ⟨h.holds.left, by have := h.nodup; rw [List.map_append] at this; exact (List.nodup_append.1 this).1, fun p v hm => h.own p v (List.mem_append_left _ hm), fun p v hm => h.free p v (List.mem_append_left _ hm)⟩
theorem Sat.right {B : Nat} {w : World} {H H' : Hp} (h : Sat B w (H ++ H')) : Sat B w H' := (h.perm List.perm_append_comm).left
theorem Sat.mono {B B' : Nat} {w : World} {H : Hp} (h : Sat B w H) (hb : B' ≤ B) : Sat B' w H :=
  ⟨h.holds, h.nodup, fun p v hm => Nat.le_trans hb (h.own p v hm), h.free⟩
theorem Sat.below {B : Nat} {w w' : World} {H : Hp} (h : Sat B w H) (hb : Below w.heap.size w w') : Sat B w' H :=
  ⟨h.holds.below hb, h.nodup, h.own, fun p v hm => (hb.frozen (p := ⟨p.1, p.2, none⟩) (lt_of_cell (h.holds p v hm))).trans (h.free p v hm)⟩
/-- Two heaplets, the second of blocks that the first world did not have. -/
theorem Sat.join {B : Nat} {w w' : World} {H H' : Hp} (h : Sat B w H) (hb : Below w.heap.size w w') (h' : Sat w.heap.size w' H') (hB : B ≤ w.heap.size) : Sat B w' (H' ++ H) := by
  have k := h.below hb
  refine ⟨h'.holds.append k.holds, ?_, ?_, ?_⟩
  · rw [List.map_append, List.nodup_append]
    refine ⟨h'.nodup, h.nodup, ?_⟩
    intro p hp q hq hpq
    subst hpq
    obtain ⟨x, hx, rfl⟩ := List.mem_map.1 hp
    obtain ⟨y, hy, hxy⟩ := List.mem_map.1 hq
    have h1 := h'.own x.1 x.2 hx
    have h2 := lt_of_cell (h.holds y.1 y.2 hy)
    rw [hxy] at h2
    simp at h2
    omega
  · intro p v hm
    rcases List.mem_append.1 hm with hm | hm
    · exact Nat.le_trans hB (h'.own p v hm)
    · exact h.own p v hm
  · intro p v hm
    rcases List.mem_append.1 hm with hm | hm
    · exact h'.free p v hm
    · exact k.free p v hm

/-- The world 'w', reached from 'W', which it leaves as it was, and beside which it holds the pieces 'L'. -/
structure St (W w : World) (L : List Hp) : Prop where
  below : Below W.heap.size W w
  sat : Sat W.heap.size w L.flatten

theorem St.refl (W : World) : St W W [] := ⟨Below.refl _ _, Sat.nil _ _⟩
theorem St.drew {W w : World} {L : List Hp} (h : St W w L) : St W w.drew L := ⟨h.below.drew, ⟨h.sat.holds, h.sat.nodup, h.sat.own, h.sat.free⟩⟩
theorem St.perm {W w : World} {L L' : List Hp} (h : St W w L) (hp : L.flatten.Perm L'.flatten) : St W w L' := ⟨h.below, h.sat.perm hp⟩
theorem St.drop {W w : World} {H : Hp} {L : List Hp} (h : St W w (H :: L)) : St W w L := ⟨h.below, Sat.right (H := H) (by simpa using h.sat)⟩
theorem St.first {W w : World} {H : Hp} {L : List Hp} (h : St W w (H :: L)) : St W w [H] := ⟨h.below, by simpa using Sat.left (H' := L.flatten) (by simpa using h.sat)⟩
/-- What a call leaves, seen from its caller. -/
theorem St.trans {W w w' : World} {L M : List Hp} (h : St W w L) (h' : St w w' M) : St W w' (M ++ L) :=
  ⟨h.below.trans (h'.below.mono h.below.size), by rw [List.flatten_append]; exact h.sat.join h'.below h'.sat h.below.size⟩
theorem St.trans1 {W w w' : World} {L : List Hp} {H : Hp} (h : St W w L) (h' : St w w' [H]) : St W w' (H :: L) := h.trans h'
theorem St.trans0 {W w w' : World} {L : List Hp} (h : St W w L) (h' : St w w' []) : St W w' L := h.trans h'

theorem holds_old {W w : World} {L : List Hp} {H : Hp} (h : St W w L) (hh : Holds W H) : Holds w H := hh.below h.below
theorem holds_mem {W w : World} {L : List Hp} {H : Hp} (h : St W w L) (hm : H ∈ L) : Holds w H := h.sat.holds.sub fun _ hx => List.mem_flatten.2 ⟨H, hm, hx⟩

/-- A new block. -/
theorem St.alloc {W w : World} {L : List Hp} (h : St W w L) (cs : List Value) (e : TypeId) : St W (w.alloc (.cells cs.toArray e)) (cellsAt w.heap.size 0 cs :: L) := by
  have hb : Below w.heap.size w (w.alloc (.cells cs.toArray e)) := (Below.refl _ _).alloc (Nat.le_refl _) _
  refine St.trans1 h ⟨hb, ?_⟩
  simp only [List.flatten_cons, List.flatten_nil, List.append_nil]
  refine ⟨?_, cellsAt_nodup _ _ _, ?_, ?_⟩
  · intro p v hm
    obtain ⟨i, hi, rfl⟩ := mem_cellsAt.1 hm
    simpa using hi
  · intro p v hm
    obtain ⟨i, hi, rfl⟩ := mem_cellsAt.1 hm
    exact Nat.le_refl _
  · intro p v hm
    obtain ⟨i, hi, rfl⟩ := mem_cellsAt.1 hm
    simp

/-- A store into a cell that is ours. -/
theorem Sat.set {B : Nat} {w : World} {b o : Nat} {vs : List Value} {R : Hp} (h : Sat B w (cellsAt b o vs ++ R)) {i : Nat} (hi : i < vs.length) (v : Value) :
    Sat B (w.setCell ⟨b, o + i, none⟩ v) (cellsAt b o (vs.set i v) ++ R) := by
  have hn := h.nodup
  have hold : w.cell? ⟨b, o + i, none⟩ = some vs[i] := h.holds (b, o + i) vs[i] (List.mem_append_left _ (mem_cellsAt.2 ⟨i, by simp [hi], rfl⟩))
  have hk : (cellsAt b o (vs.set i v)).map Prod.fst = (cellsAt b o vs).map Prod.fst := by simp [cellsAt_keys]
  have other : ∀ p u, (p, u) ∈ R → (⟨b, o + i, none⟩ : Addr) ≠ ⟨p.1, p.2, none⟩ := by
    intro p u hm he
    rw [List.map_append, List.nodup_append] at hn
    refine hn.2.2 (b, o + i) ?_ p (List.mem_map.2 ⟨_, hm, rfl⟩) ?_
    · exact List.mem_map.2 ⟨((b, o + i), vs[i]), mem_cellsAt.2 ⟨i, by simp [hi], rfl⟩, rfl⟩
    · have := Addr.mk.inj he; exact Prod.ext this.1 this.2.1
  refine ⟨?_, by rw [List.map_append, hk, ← List.map_append]; exact hn, ?_, ?_⟩
  · intro p u hm
    rcases List.mem_append.1 hm with hm | hm
    · obtain ⟨j, hj, rfl⟩ := mem_cellsAt.1 hm
      by_cases hij : i = j
      · subst hij
        rw [List.getElem?_set_self hi] at hj
        obtain rfl := Option.some.inj hj
        exact World.cell?_setCell_same w _ _ hold
      · rw [List.getElem?_set_ne hij] at hj
        rw [World.cell?_setCell_other _ _ _ _ (by simp; try omega)]
        exact h.holds _ _ (List.mem_append_left _ (mem_cellsAt.2 ⟨j, hj, rfl⟩))
    · rw [World.cell?_setCell_other _ _ _ _ (other p u hm)]
      exact h.holds _ _ (List.mem_append_right _ hm)
  · intro p u hm
    rcases List.mem_append.1 hm with hm | hm
    · obtain ⟨j, hj, rfl⟩ := mem_cellsAt.1 hm
      exact h.own (b, o + i) vs[i] (List.mem_append_left _ (mem_cellsAt.2 ⟨i, by simp [hi], rfl⟩))
    · exact h.own p u (List.mem_append_right _ hm)
  · intro p u hm
    rw [World.frozen?_setCell]
    rcases List.mem_append.1 hm with hm | hm
    · obtain ⟨j, hj, rfl⟩ := mem_cellsAt.1 hm
      have hjl : j < vs.length := by
        have := (List.getElem?_eq_some_iff.1 hj).1
        simpa using this
      exact h.free (b, o + j) vs[j] (List.mem_append_left _ (mem_cellsAt.2 ⟨j, by simp [hjl], rfl⟩))
    · exact h.free p u (List.mem_append_right _ hm)

end Go.Proofs.YtiobmbicldjikaaGreatDoor
