/- An element of a slice of ours, cut out and put back. No condition. -/
import Derived.Test.YtiobmbicldjikaaGreatDoorAny

import Derived.Test.YtiobmbicldjikaaGreatDoorTypes

import Derived.Test.YtiobmbicldjikaaGreatDoorData

set_option linter.unusedVariables false

namespace Go.Proofs.YtiobmbicldjikaaGreatDoor

theorem Slc.op {α : Type} [Rep α] {a : Option Addr} {cap : Nat} {l : List α} {H : Hp} (h : Slc a cap l H) {i : Nat} (hi : i < l.length) : ∃ c Hx R, rep c l[i] Hx ∧ H.Perm (cellsAt (blk a) (ofs a + i * Rep.size α) c ++ (Hx ++ R)) ∧
    ∀ c' x' Hx', rep c' x' Hx' → ∃ H', Slc a cap (l.set i x') H' ∧ (cellsAt (blk a) (ofs a + i * Rep.size α) c' ++ (Hx' ++ R)).Perm H' := by
  rcases h with ⟨_, h1, _⟩ | ⟨b, off, cs, sp, He, rfl, hc, hsp, h1s, he, rfl⟩
  · simp [h1] at hi
  obtain ⟨c1, c, c2, H1, Hx, H2, rfl, rfl, e1, ex, e2⟩ := he.at hi
  have hl : c1.length = i * Rep.size α := by rw [e1.len, List.length_take_of_le (by omega)]
  have cut : ∀ (c Hx : _), c.length = Rep.size α → (cellsAt b off (c1 ++ c ++ c2 ++ sp) ++ (H1 ++ Hx ++ H2)).Perm (cellsAt b (off + i * Rep.size α) c ++ (Hx ++ (cellsAt b off c1 ++ cellsAt b (off + i * Rep.size α + Rep.size α) (c2 ++ sp) ++ (H1 ++ H2)))) := by
    intro c Hx hcl
    rw [show c1 ++ c ++ c2 ++ sp = c1 ++ (c ++ (c2 ++ sp)) by simp, cellsAt_append, hl, cellsAt_append, hcl]
    generalize cellsAt b off c1 = A
    generalize cellsAt b (off + i * Rep.size α) c = B
    generalize cellsAt b (off + i * Rep.size α + Rep.size α) (c2 ++ sp) = C
    classical
    rw [List.perm_iff_count]
    intro x
    simp only [List.count_append]
    omega
  refine ⟨c, Hx, _, ex, cut c Hx (Rep.len ex), fun c' x' Hx' hx' => ⟨cellsAt b off (c1 ++ c' ++ c2 ++ sp) ++ (H1 ++ Hx' ++ H2), .inr ⟨b, off, c1 ++ c' ++ c2, sp, H1 ++ Hx' ++ H2, rfl, by simpa using hc, by simpa using hsp, h1s, ?_, rfl⟩, (cut c' Hx' (Rep.len hx')).symm⟩⟩
  rw [List.set_eq_take_append_cons_drop, if_pos hi]
  have := e1.append (Elems.cons hx' e2)
  simpa using this
/-- The same, as pieces. -/
theorem Slc.opj {α : Type} [Rep α] {a : Option Addr} {cap : Nat} {l : List α} {H : Hp} (h : Slc a cap l H) {i : Nat} (hi : i < l.length) : ∃ c Hx R, rep c l[i] Hx ∧
    (∀ W w L, St W w (H :: L) → St W w (cellsAt (blk a) (ofs a + i * Rep.size α) c :: Hx :: R :: L)) ∧
    ∀ c' x' Hx', rep c' x' Hx' → ∃ H', Slc a cap (l.set i x') H' ∧ ∀ W w L, St W w (cellsAt (blk a) (ofs a + i * Rep.size α) c' :: Hx' :: R :: L) → St W w (H' :: L) := by
  obtain ⟨c, Hx, R, h1, h2, h3⟩ := h.op hi
  refine ⟨c, Hx, R, h1, fun W w L hs => hs.perm ?_, fun c' x' Hx' hx => ?_⟩
  · simp only [List.flatten_cons]
    exact (h2.append_right _).trans (by simp)
  · obtain ⟨H', k1, k2⟩ := h3 c' x' Hx' hx
    refine ⟨H', k1, fun W w L hs => hs.perm ?_⟩
    simp only [List.flatten_cons]
    exact (List.Perm.of_eq (by simp)).trans (k2.append_right L.flatten)
/-- An element's cells are among the slice's. -/
theorem Slc.subs {α : Type} [Rep α] {a : Option Addr} {cap : Nat} {l : List α} {H : Hp} (h : Slc a cap l H) {i : Nat} (hi : i < l.length) : ∃ c Hx, rep c l[i] Hx ∧ (∀ x, x ∈ cellsAt (blk a) (ofs a + i * Rep.size α) c → x ∈ H) ∧ ∀ x, x ∈ Hx → x ∈ H := by
  obtain ⟨c, Hx, R, h1, h2, _⟩ := h.op hi
  exact ⟨c, Hx, h1, fun x hx => h2.symm.subset (List.mem_append_left _ hx), fun x hx => h2.symm.subset (List.mem_append_right _ (List.mem_append_left _ hx))⟩
theorem Elems.ints : ∀ {l : List Int}, (∀ x ∈ l, I64 x) → Elems (l.map (Value.int .i64)) l []
  | [], _ => .nil
  | x :: l, h => by
    have := Elems.cons (c := [.int .i64 x]) (x := x) (Hx := []) ⟨rfl, rfl, h x List.mem_cons_self⟩ (Elems.ints (l := l) (fun y hy => h y (List.mem_cons_of_mem _ hy)))
    simpa using this
theorem RdS.i64 {w : World} {a : Option Addr} {cap : Nat} {l : List Int} (h : RdS w a cap l) : ∀ x ∈ l, I64 x := fun x hx => by
  obtain ⟨i, hi, rfl⟩ := List.getElem_of_mem hx
  exact (h.int hi).2
theorem elems_ints_eq : ∀ {l : List Int} {cs : List Value} {H : Hp}, Elems cs l H → cs = l.map (Value.int .i64) ∧ H = []
  | [], _, _, h => by cases h; exact ⟨rfl, rfl⟩
  | x :: l, _, _, h => by
    obtain ⟨c, ds, Hx, Hs, rfl, rfl, ⟨rfl, rfl, _⟩, hr⟩ := h.cons_inv
    obtain ⟨rfl, rfl⟩ := elems_ints_eq hr
    exact ⟨rfl, rfl⟩
theorem RdS.newsI {w : World} {a : Option Addr} {cap : Nat} {l : List Int} (h : RdS w a cap l) : News w l.length (Rep.size Int) (.slice a l.length cap) (l.map (Value.int .i64)) := by
  obtain ⟨cs, He, h1, _, h3⟩ := h.news
  obtain ⟨rfl, rfl⟩ := elems_ints_eq h1
  exact h3
end Go.Proofs.YtiobmbicldjikaaGreatDoor
