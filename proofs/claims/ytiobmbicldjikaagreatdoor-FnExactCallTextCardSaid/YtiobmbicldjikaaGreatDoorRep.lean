/- How Go's data stand in cells ('Rep'), and slices of them. No condition. -/
import Derived.Test.YtiobmbicldjikaaGreatDoorWp
set_option linter.unusedVariables false
namespace Go.Proofs.YtiobmbicldjikaaGreatDoor
open Go.RowKit (Below)

/-- 'x' stands in the cells 'c', and in what they lead to: 'H'. -/
class Rep (α : Type) where
  size : Nat
  rep : List Value → α → Hp → Prop
  len : ∀ {c x H}, rep c x H → c.length = size
  one : ∀ {c x H}, rep c x H → ∀ v ∈ c, v.oneCell' = true
export Rep (rep)

abbrev SB (s : ByteArray) : Prop := s.size ≤ 9223372036854775807
abbrev I64 (x : Int) : Prop := -9223372036854775808 ≤ x ∧ x ≤ 9223372036854775807

instance : Rep Int where
  size := 1
  rep c x H := c = [.int .i64 x] ∧ H = [] ∧ I64 x
  len := by rintro c x H ⟨rfl, _⟩; rfl
  one := by rintro c x H ⟨rfl, _⟩ v hv; obtain rfl := List.mem_singleton.1 hv; rfl
instance : Rep Bool where
  size := 1
  rep c x H := c = [.bool x] ∧ H = []
  len := by rintro c x H ⟨rfl, _⟩; rfl
  one := by rintro c x H ⟨rfl, _⟩ v hv; obtain rfl := List.mem_singleton.1 hv; rfl
instance : Rep ByteArray where
  size := 1
  rep c x H := c = [.string x] ∧ H = []
  len := by rintro c x H ⟨rfl, _⟩; rfl
  one := by rintro c x H ⟨rfl, _⟩ v hv; obtain rfl := List.mem_singleton.1 hv; rfl
instance : Rep UInt8 where
  size := 1
  rep c x H := c = [.int .u8 x.toNat] ∧ H = []
  len := by rintro c x H ⟨rfl, _⟩; rfl
  one := by rintro c x H ⟨rfl, _⟩ v hv; obtain rfl := List.mem_singleton.1 hv; rfl

section
variable {α : Type} [Rep α]
inductive Elems : List Value → List α → Hp → Prop
  | nil : Elems [] [] []
  | cons {c x Hx cs xs Hs} : rep c x Hx → Elems cs xs Hs → Elems (c ++ cs) (x :: xs) (Hx ++ Hs)
theorem Elems.len {cs : List Value} {xs : List α} {H : Hp} (h : Elems cs xs H) : cs.length = xs.length * Rep.size α := by
  induction h with
  | nil => simp
  | cons h _ ih => simp [Rep.len h, ih, Nat.add_mul, Nat.add_comm]
theorem Elems.one {cs : List Value} {xs : List α} {H : Hp} (h : Elems cs xs H) : ∀ v ∈ cs, v.oneCell' = true := by
  induction h with
  | nil => intro v hv; cases hv
  | cons h _ ih =>
    intro v hv
    rcases List.mem_append.1 hv with hv | hv
    · exact Rep.one h v hv
    · exact ih v hv
theorem Elems.append {cs ds : List Value} {xs ys : List α} {H K : Hp} (h : Elems cs xs H) (k : Elems ds ys K) : Elems (cs ++ ds) (xs ++ ys) (H ++ K) := by
  induction h with
  | nil => simpa using k
  | cons h _ ih => simpa using Elems.cons h ih
theorem Elems.single {c : List Value} {x : α} {H : Hp} (h : rep c x H) : Elems c [x] H := by simpa using Elems.cons h Elems.nil
theorem Elems.split {ys : List α} : ∀ {xs : List α} {cs : List Value} {H : Hp}, Elems cs (xs ++ ys) H → ∃ c1 c2 H1 H2, cs = c1 ++ c2 ∧ H = H1 ++ H2 ∧ Elems c1 xs H1 ∧ Elems c2 ys H2
  | [], cs, H, h => ⟨[], cs, [], H, by simp, by simp, .nil, h⟩
  | x :: xs, cs, H, h => by
    cases h with
    | cons hx hr =>
      obtain ⟨c1, c2, H1, H2, rfl, rfl, h1, h2⟩ := Elems.split hr
      exact ⟨_, c2, _, H2, by rw [List.append_assoc], by rw [List.append_assoc], .cons hx h1, h2⟩
theorem Elems.cons_inv {x : α} {xs : List α} {cs : List Value} {H : Hp} (h : Elems cs (x :: xs) H) : ∃ c ds Hx Hs, cs = c ++ ds ∧ H = Hx ++ Hs ∧ rep c x Hx ∧ Elems ds xs Hs := by
  cases h with
  | cons hx hr => exact ⟨_, _, _, _, rfl, rfl, hx, hr⟩
theorem Elems.at {l : List α} {i : Nat} (hi : i < l.length) {cs : List Value} {H : Hp} (h : Elems cs l H) : ∃ c1 c c2 H1 Hx H2, cs = c1 ++ c ++ c2 ∧ H = H1 ++ Hx ++ H2 ∧ Elems c1 (l.take i) H1 ∧ rep c l[i] Hx ∧ Elems c2 (l.drop (i + 1)) H2 := by
  have hl : l = l.take i ++ (l[i] :: l.drop (i + 1)) := by rw [List.getElem_cons_drop, List.take_append_drop]
  rw [hl] at h
  obtain ⟨c1, r, H1, Hr, rfl, rfl, h1, hr⟩ := h.split
  obtain ⟨c, c2, Hx, H2, rfl, rfl, hx, h2⟩ := hr.cons_inv
  exact ⟨c1, c, c2, H1, Hx, H2, by simp, by simp, h1, hx, h2⟩

/-- The slice value '.slice a l.length cap' reads as 'l', and 'H' is all its memory, its spare places too. -/
def Slc (a : Option Addr) (cap : Nat) (l : List α) (H : Hp) : Prop :=
  (cap = 0 ∧ l = [] ∧ H = []) ∨
  ∃ b off cs sp He, a = some ⟨b, off, none⟩ ∧ (l.length ≤ cap ∧ cap ≤ 9223372036854775807) ∧ sp.length = (cap - l.length) * Rep.size α ∧ (∀ v ∈ sp, v.oneCell' = true) ∧ Elems cs l He ∧ H = cellsAt b off (cs ++ sp) ++ He
theorem Slc.nil : Slc (α := α) none 0 [] [] := .inl ⟨rfl, rfl, rfl⟩
end
instance {α : Type} [Rep α] : Rep (List α) where
  size := 1
  rep c x H := ∃ a cap, c = [.slice a x.length cap] ∧ Slc a cap x H
  len := by rintro c x H ⟨a, cap, rfl, _⟩; rfl
  one := by rintro c x H ⟨a, cap, rfl, _⟩ v hv; obtain rfl := List.mem_singleton.1 hv; rfl

/-- 'x' reads from the cells 'c' in the world 'w'. -/
def Rd {α : Type} [Rep α] (w : World) (c : List Value) (x : α) : Prop := ∃ H, rep c x H ∧ Holds w H
/-- A slice reads as 'l'. -/
def RdS {α : Type} [Rep α] (w : World) (a : Option Addr) (cap : Nat) (l : List α) : Prop := ∃ H, Slc a cap l H ∧ Holds w H
theorem Rd.st {α : Type} [Rep α] {W w : World} {L : List Hp} {c : List Value} {x : α} (h : Rd W c x) (hs : St W w L) : Rd w c x := let ⟨H, h1, h2⟩ := h; ⟨H, h1, holds_old hs h2⟩
theorem RdS.st {α : Type} [Rep α] {W w : World} {L : List Hp} {a : Option Addr} {cap : Nat} {l : List α} (h : RdS W a cap l) (hs : St W w L) : RdS w a cap l := let ⟨H, h1, h2⟩ := h; ⟨H, h1, holds_old hs h2⟩
theorem RdS.own {α : Type} [Rep α] {W w : World} {L : List Hp} {a : Option Addr} {cap : Nat} {l : List α} {H : Hp} (h : Slc a cap l H) (hm : InL H L) (hs : St W w L) : RdS w a cap l := ⟨H, h, holds_mem hs hm.mem⟩
theorem Rd.own {α : Type} [Rep α] {W w : World} {L : List Hp} {c : List Value} {x : α} {H : Hp} (h : rep c x H) (hm : InL H L) (hs : St W w L) : Rd w c x := ⟨H, h, holds_mem hs hm.mem⟩
theorem RdS.rd {α : Type} [Rep α] {w : World} {a : Option Addr} {cap : Nat} {l : List α} (h : RdS w a cap l) : Rd w [.slice a l.length cap] l := let ⟨H, h1, h2⟩ := h; ⟨H, ⟨a, cap, rfl, h1⟩, h2⟩
theorem Rd.slice {α : Type} [Rep α] {w : World} {c : List Value} {l : List α} (h : Rd w c l) : ∃ a cap, c = [.slice a l.length cap] ∧ RdS w a cap l := let ⟨H, ⟨a, cap, hc, h1⟩, h2⟩ := h; ⟨a, cap, hc, H, h1, h2⟩
theorem RdS.nil {α : Type} [Rep α] {w : World} : RdS (α := α) w none 0 [] := ⟨[], Slc.nil, Holds.nil⟩
/-- Where a slice has an element, it has an address. -/
theorem RdS.addr {α : Type} [Rep α] {w : World} {a : Option Addr} {cap : Nat} {l : List α} (h : RdS w a cap l) (hl : 0 < l.length) : ∃ b off, a = some ⟨b, off, none⟩ := by
  obtain ⟨H, h1 | ⟨b, off, _, _, _, h1, _⟩, _⟩ := h
  · obtain ⟨_, h1, _⟩ := h1; simp [h1] at hl
  · exact ⟨b, off, h1⟩
def blk (a : Option Addr) : Nat := (a.getD ⟨0, 0, none⟩).block
def ofs (a : Option Addr) : Nat := (a.getD ⟨0, 0, none⟩).off
/-- A slice with elements has an address. -/
def Adr (a : Option Addr) (len : Nat) : Prop := 0 < len → a = some ⟨blk a, ofs a, none⟩
theorem RdS.adr {α : Type} [Rep α] {w : World} {a : Option Addr} {cap : Nat} {l : List α} (h : RdS w a cap l) : Adr a l.length := fun hl => by
  obtain ⟨b, off, rfl⟩ := h.addr hl; rfl
theorem Slc.adr {α : Type} [Rep α] {a : Option Addr} {cap : Nat} {l : List α} {H : Hp} (h : Slc a cap l H) : Adr a l.length := fun hl => by
  rcases h with ⟨_, h1, _⟩ | ⟨b, off, _, _, _, rfl, _⟩
  · simp [h1] at hl
  · rfl
/-- An element's cells. -/
theorem RdS.at {α : Type} [Rep α] {w : World} {b off cap : Nat} {l : List α} (h : RdS w (some ⟨b, off, none⟩) cap l) {i : Nat} (hi : i < l.length) :
    ∃ c, Holds w (cellsAt b (off + i * Rep.size α) c) ∧ Rd w c l[i] := by
  obtain ⟨H, h1 | ⟨b', off', cs, sp, He, h1, _, _, _, he, rfl⟩, hh⟩ := h
  · obtain ⟨_, rfl, _⟩ := h1; simp at hi
  · obtain ⟨rfl, rfl⟩ : b = b' ∧ off = off' := by have := Addr.mk.inj (Option.some.inj h1); exact ⟨this.1, this.2.1⟩
    obtain ⟨c1, c, c2, H1, Hx, H2, rfl, rfl, e1, ex, _⟩ := he.at hi
    refine ⟨c, ?_, Hx, ex, ?_⟩
    · refine hh.sub fun x hx => List.mem_append_left _ ?_
      have hl : c1.length = i * Rep.size α := by rw [e1.len, List.length_take_of_le (by omega)]
      rw [show c1 ++ c ++ c2 ++ sp = c1 ++ (c ++ (c2 ++ sp)) by simp, cellsAt_append, hl, cellsAt_append]
      exact List.mem_append_right _ (List.mem_append_left _ hx)
    · exact hh.sub fun x hx => List.mem_append_right _ (List.mem_append_left _ (List.mem_append_right _ hx))
theorem RdS.el {α : Type} [Rep α] {w : World} {a : Option Addr} {cap : Nat} {l : List α} (h : RdS w a cap l) {i : Nat} (hi : i < l.length) :
    ∃ c, Holds w (cellsAt (blk a) (ofs a + i * Rep.size α) c) ∧ Rd w c l[i] := by
  have ha := h.adr (by omega)
  rw [ha] at h
  exact h.at hi
theorem RdS.int {w : World} {a : Option Addr} {cap : Nat} {l : List Int} (h : RdS w a cap l) {i : Nat} (hi : i < l.length) : Holds w (cellsAt (blk a) (ofs a + i * 1) [.int .i64 l[i]]) ∧ I64 l[i] := by
  obtain ⟨c, h1, H, ⟨rfl, _, h2⟩, _⟩ := h.el hi
  exact ⟨h1, h2⟩
theorem RdS.len_le {α : Type} [Rep α] {w : World} {a : Option Addr} {cap : Nat} {l : List α} (h : RdS w a cap l) : l.length ≤ cap ∧ cap ≤ 9223372036854775807 := by
  obtain ⟨H, h1 | ⟨b', off', cs, sp, He, h1, h2, _⟩, hh⟩ := h
  · simp [h1.1, h1.2.1]
  · exact h2
theorem RdS.lt {α : Type} [Rep α] {w : World} {a : Option Addr} {cap : Nat} {l : List α} (h : RdS w a cap l) : l.length ≤ 9223372036854775807 := Nat.le_trans h.len_le.1 h.len_le.2
/-- A part of a slice: 's[lo:hi]'. -/
theorem RdS.sub {α : Type} [Rep α] {w : World} {b off cap : Nat} {l : List α} (h : RdS w (some ⟨b, off, none⟩) cap l) {lo hi : Nat} (h1 : lo ≤ hi) (h2 : hi ≤ l.length) :
    RdS w (some ⟨b, off + lo * Rep.size α, none⟩) (cap - lo) ((l.take hi).drop lo) := by
  obtain ⟨H, h' | ⟨b', off', cs, sp, He, h', hc, hsp, h1s, he, rfl⟩, hh⟩ := h
  · obtain ⟨rfl, rfl, rfl⟩ := h'
    exact ⟨[], .inl ⟨by omega, by simp, rfl⟩, Holds.nil⟩
  · obtain ⟨rfl, rfl⟩ : b = b' ∧ off = off' := by have := Addr.mk.inj (Option.some.inj h'); exact ⟨this.1, this.2.1⟩
    have hl : l = l.take lo ++ ((l.take hi).drop lo ++ l.drop hi) := by
      have e1 : l.take lo = (l.take hi).take lo := by rw [List.take_take, Nat.min_eq_left h1]
      rw [e1, ← List.append_assoc, List.take_append_drop, List.take_append_drop]
    have hm : ((l.take hi).drop lo).length = hi - lo := by simp; omega
    rw [hl] at he
    obtain ⟨c1, r, H1, Hr, rfl, rfl, e1, er⟩ := he.split
    obtain ⟨c2, c3, H2, H3, rfl, rfl, e2, e3⟩ := er.split
    have hl1 : c1.length = lo * Rep.size α := by rw [e1.len, List.length_take_of_le (by omega)]
    have hl3 : c3.length = (l.length - hi) * Rep.size α := by rw [e3.len, List.length_drop]
    refine ⟨cellsAt b (off + lo * Rep.size α) (c2 ++ (c3 ++ sp)) ++ H2, .inr ⟨b, _, c2, c3 ++ sp, H2, rfl, ⟨by rw [hm]; omega, by omega⟩, ?_, ?_, e2, rfl⟩, ?_⟩
    · rw [List.length_append, hl3, hsp, ← Nat.add_mul, hm]
      congr 1
      omega
    · intro v hv
      rcases List.mem_append.1 hv with hv | hv
      · exact e3.one v hv
      · exact h1s v hv
    · refine hh.sub fun x hx => ?_
      rcases List.mem_append.1 hx with hx | hx
      · refine List.mem_append_left _ ?_
        rw [show c1 ++ (c2 ++ c3) ++ sp = c1 ++ (c2 ++ (c3 ++ sp)) by simp, cellsAt_append, hl1]
        exact List.mem_append_right _ hx
      · exact List.mem_append_right _ (List.mem_append_right _ (List.mem_append_left _ hx))

end Go.Proofs.YtiobmbicldjikaaGreatDoor
