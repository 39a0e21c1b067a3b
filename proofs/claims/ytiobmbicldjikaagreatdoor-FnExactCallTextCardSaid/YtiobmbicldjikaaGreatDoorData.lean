/- The data of the program: its structures, how they stand in cells. Printed by program. No condition. -/
import Derived.Test.YtiobmbicldjikaaGreatDoorRep

set_option linter.unusedVariables false

namespace Go.Proofs.YtiobmbicldjikaaGreatDoor

theorem one_app {A B : List Value} (h : ∀ v ∈ A, v.oneCell' = true) (k : ∀ v ∈ B, v.oneCell' = true) : ∀ v ∈ A ++ B, v.oneCell' = true := fun v hv => (List.mem_append.1 hv).elim (h v) (k v)

structure DPart where
  kind : Int
  n : Int
  signs : List Int
  deriving DecidableEq
instance : Rep DPart where
  size := 3
  rep c x H := ∃ (a0 : Option Addr) (c0 : Nat) (H0 : Hp), c = [.int .i64 x.kind, .int .i64 x.n, .slice a0 x.signs.length c0] ∧ H0 = H ∧ I64 x.kind ∧ I64 x.n ∧ Slc a0 c0 x.signs H0
  len := by
    rintro c x H ⟨a0, c0, H0, rfl, rfl, _, _, _⟩
    rfl
  one := by
    rintro c x H ⟨a0, c0, H0, rfl, rfl, _, _, _⟩
    intro v hv; simp only [List.mem_cons, List.mem_nil_iff, or_false] at hv; rcases hv with rfl | rfl | rfl <;> rfl
theorem DPart.un {c : List Value} {x : DPart} {H : Hp} (h : rep c x H) : ∃ (a0 : Option Addr) (c0 : Nat) (H0 : Hp), c = [.int .i64 x.kind, .int .i64 x.n, .slice a0 x.signs.length c0] ∧ H0 = H ∧ I64 x.kind ∧ I64 x.n ∧ Slc a0 c0 x.signs H0 := by
  obtain ⟨a0, c0, H0, rfl, rfl, i0, i1, s0⟩ := h
  exact ⟨a0, c0, H0, rfl, rfl, ‹_›, ‹_›, ‹_›⟩
theorem DPart.re {x : DPart} {a0 : Option Addr} {c0 : Nat} {H0 : Hp} (h0 : I64 x.kind) (h1 : I64 x.n) (h2 : Slc a0 c0 x.signs H0) : rep [.int .i64 x.kind, .int .i64 x.n, .slice a0 x.signs.length c0] x (H0) :=
  ⟨_, _, _, rfl, rfl, ‹_›, ‹_›, ‹_›⟩
theorem DPart.rd {w : World} {c : List Value} {x : DPart} (h : Rd w c x) : ∃ (a0 : Option Addr) (c0 : Nat), c = [.int .i64 x.kind, .int .i64 x.n, .slice a0 x.signs.length c0] ∧ I64 x.kind ∧ I64 x.n ∧ RdS w a0 c0 x.signs := by
  obtain ⟨H, h, hh⟩ := h
  obtain ⟨a0, c0, H0, rfl, rfl, h0, h1, h2⟩ := DPart.un h
  exact ⟨a0, c0, rfl, ‹_›, ‹_›, ⟨H0, ‹_›, hh⟩⟩
theorem DPart.mk_rd {w : World} {x : DPart} {a0 : Option Addr} {c0 : Nat} (h0 : I64 x.kind) (h1 : I64 x.n) (h2 : RdS w a0 c0 x.signs) : Rd w [.int .i64 x.kind, .int .i64 x.n, .slice a0 x.signs.length c0] x := by
  obtain ⟨H0, k0, m0⟩ := h2
  exact ⟨_, DPart.re ‹_› ‹_› ‹_›, m0⟩
theorem RdS.DPart {w : World} {a : Option Addr} {cap : Nat} {l : List DPart} (h : RdS w a cap l) {i : Nat} (hi : i < l.length) : ∃ (a0 : Option Addr) (c0 : Nat), Holds w (cellsAt (blk a) (ofs a + i * 3) [.int .i64 l[i].kind, .int .i64 l[i].n, .slice a0 l[i].signs.length c0]) ∧ I64 l[i].kind ∧ I64 l[i].n ∧ RdS w a0 c0 l[i].signs := by
  obtain ⟨c, h1, h2⟩ := h.el hi
  obtain ⟨a0, c0, rfl, h10, h11, h12⟩ := DPart.rd h2
  exact ⟨a0, c0, h1, h10, h11, h12⟩

structure DEntry where
  client : Int
  seq : Int
  o : List DPart
  deriving DecidableEq
instance : Rep DEntry where
  size := 3
  rep c x H := ∃ (a0 : Option Addr) (c0 : Nat) (H0 : Hp), c = [.int .i64 x.client, .int .i64 x.seq, .slice a0 x.o.length c0] ∧ H0 = H ∧ I64 x.client ∧ I64 x.seq ∧ Slc a0 c0 x.o H0
  len := by
    rintro c x H ⟨a0, c0, H0, rfl, rfl, _, _, _⟩
    rfl
  one := by
    rintro c x H ⟨a0, c0, H0, rfl, rfl, _, _, _⟩
    intro v hv; simp only [List.mem_cons, List.mem_nil_iff, or_false] at hv; rcases hv with rfl | rfl | rfl <;> rfl
theorem DEntry.un {c : List Value} {x : DEntry} {H : Hp} (h : rep c x H) : ∃ (a0 : Option Addr) (c0 : Nat) (H0 : Hp), c = [.int .i64 x.client, .int .i64 x.seq, .slice a0 x.o.length c0] ∧ H0 = H ∧ I64 x.client ∧ I64 x.seq ∧ Slc a0 c0 x.o H0 := by
  obtain ⟨a0, c0, H0, rfl, rfl, i0, i1, s0⟩ := h
  exact ⟨a0, c0, H0, rfl, rfl, ‹_›, ‹_›, ‹_›⟩
theorem DEntry.re {x : DEntry} {a0 : Option Addr} {c0 : Nat} {H0 : Hp} (h0 : I64 x.client) (h1 : I64 x.seq) (h2 : Slc a0 c0 x.o H0) : rep [.int .i64 x.client, .int .i64 x.seq, .slice a0 x.o.length c0] x (H0) :=
  ⟨_, _, _, rfl, rfl, ‹_›, ‹_›, ‹_›⟩
theorem DEntry.rd {w : World} {c : List Value} {x : DEntry} (h : Rd w c x) : ∃ (a0 : Option Addr) (c0 : Nat), c = [.int .i64 x.client, .int .i64 x.seq, .slice a0 x.o.length c0] ∧ I64 x.client ∧ I64 x.seq ∧ RdS w a0 c0 x.o := by
  obtain ⟨H, h, hh⟩ := h
  obtain ⟨a0, c0, H0, rfl, rfl, h0, h1, h2⟩ := DEntry.un h
  exact ⟨a0, c0, rfl, ‹_›, ‹_›, ⟨H0, ‹_›, hh⟩⟩
theorem DEntry.mk_rd {w : World} {x : DEntry} {a0 : Option Addr} {c0 : Nat} (h0 : I64 x.client) (h1 : I64 x.seq) (h2 : RdS w a0 c0 x.o) : Rd w [.int .i64 x.client, .int .i64 x.seq, .slice a0 x.o.length c0] x := by
  obtain ⟨H0, k0, m0⟩ := h2
  exact ⟨_, DEntry.re ‹_› ‹_› ‹_›, m0⟩
theorem RdS.DEntry {w : World} {a : Option Addr} {cap : Nat} {l : List DEntry} (h : RdS w a cap l) {i : Nat} (hi : i < l.length) : ∃ (a0 : Option Addr) (c0 : Nat), Holds w (cellsAt (blk a) (ofs a + i * 3) [.int .i64 l[i].client, .int .i64 l[i].seq, .slice a0 l[i].o.length c0]) ∧ I64 l[i].client ∧ I64 l[i].seq ∧ RdS w a0 c0 l[i].o := by
  obtain ⟨c, h1, h2⟩ := h.el hi
  obtain ⟨a0, c0, rfl, h10, h11, h12⟩ := DEntry.rd h2
  exact ⟨a0, c0, h1, h10, h11, h12⟩

structure DSeen where
  client : Int
  seq : Int
  rev : Int
  deriving DecidableEq
instance : Rep DSeen where
  size := 3
  rep c x H := c = [.int .i64 x.client, .int .i64 x.seq, .int .i64 x.rev] ∧ [] = H ∧ I64 x.client ∧ I64 x.seq ∧ I64 x.rev
  len := by
    rintro c x H ⟨rfl, rfl, _, _, _⟩
    rfl
  one := by
    rintro c x H ⟨rfl, rfl, _, _, _⟩
    intro v hv; simp only [List.mem_cons, List.mem_nil_iff, or_false] at hv; rcases hv with rfl | rfl | rfl <;> rfl
theorem DSeen.un {c : List Value} {x : DSeen} {H : Hp} (h : rep c x H) : c = [.int .i64 x.client, .int .i64 x.seq, .int .i64 x.rev] ∧ [] = H ∧ I64 x.client ∧ I64 x.seq ∧ I64 x.rev := by
  obtain ⟨rfl, rfl, i0, i1, i2⟩ := h
  exact ⟨rfl, rfl, ‹_›, ‹_›, ‹_›⟩
theorem DSeen.re {x : DSeen}  (h0 : I64 x.client) (h1 : I64 x.seq) (h2 : I64 x.rev) : rep [.int .i64 x.client, .int .i64 x.seq, .int .i64 x.rev] x ([]) :=
  ⟨rfl, rfl, ‹_›, ‹_›, ‹_›⟩
theorem DSeen.rd {w : World} {c : List Value} {x : DSeen} (h : Rd w c x) : c = [.int .i64 x.client, .int .i64 x.seq, .int .i64 x.rev] ∧ I64 x.client ∧ I64 x.seq ∧ I64 x.rev := by
  obtain ⟨H, h, hh⟩ := h
  obtain ⟨rfl, rfl, h0, h1, h2⟩ := DSeen.un h
  exact ⟨rfl, ‹_›, ‹_›, ‹_›⟩
theorem DSeen.mk_rd {w : World} {x : DSeen}  (h0 : I64 x.client) (h1 : I64 x.seq) (h2 : I64 x.rev) : Rd w [.int .i64 x.client, .int .i64 x.seq, .int .i64 x.rev] x := by
  skip
  exact ⟨_, DSeen.re ‹_› ‹_› ‹_›, Holds.nil⟩
theorem RdS.DSeen {w : World} {a : Option Addr} {cap : Nat} {l : List DSeen} (h : RdS w a cap l) {i : Nat} (hi : i < l.length) : Holds w (cellsAt (blk a) (ofs a + i * 3) [.int .i64 l[i].client, .int .i64 l[i].seq, .int .i64 l[i].rev]) ∧ I64 l[i].client ∧ I64 l[i].seq ∧ I64 l[i].rev := by
  obtain ⟨c, h1, h2⟩ := h.el hi
  obtain ⟨rfl, h10, h11, h12⟩ := DSeen.rd h2
  exact ⟨h1, h10, h11, h12⟩

structure DDoc where
  name : ByteArray
  frm : Int
  text : List Int
  list : List DEntry
  seen : List DSeen
  deriving DecidableEq
instance : Rep DDoc where
  size := 5
  rep c x H := ∃ (a0 : Option Addr) (c0 : Nat) (H0 : Hp) (a1 : Option Addr) (c1 : Nat) (H1 : Hp) (a2 : Option Addr) (c2 : Nat) (H2 : Hp), c = [.string x.name, .int .i64 x.frm, .slice a0 x.text.length c0, .slice a1 x.list.length c1, .slice a2 x.seen.length c2] ∧ H0 ++ H1 ++ H2 = H ∧ SB x.name ∧ I64 x.frm ∧ Slc a0 c0 x.text H0 ∧ Slc a1 c1 x.list H1 ∧ Slc a2 c2 x.seen H2
  len := by
    rintro c x H ⟨a0, c0, H0, a1, c1, H1, a2, c2, H2, rfl, rfl, _, _, _, _, _⟩
    rfl
  one := by
    rintro c x H ⟨a0, c0, H0, a1, c1, H1, a2, c2, H2, rfl, rfl, _, _, _, _, _⟩
    intro v hv; simp only [List.mem_cons, List.mem_nil_iff, or_false] at hv; rcases hv with rfl | rfl | rfl | rfl | rfl <;> rfl
theorem DDoc.un {c : List Value} {x : DDoc} {H : Hp} (h : rep c x H) : ∃ (a0 : Option Addr) (c0 : Nat) (H0 : Hp) (a1 : Option Addr) (c1 : Nat) (H1 : Hp) (a2 : Option Addr) (c2 : Nat) (H2 : Hp), c = [.string x.name, .int .i64 x.frm, .slice a0 x.text.length c0, .slice a1 x.list.length c1, .slice a2 x.seen.length c2] ∧ H0 ++ H1 ++ H2 = H ∧ SB x.name ∧ I64 x.frm ∧ Slc a0 c0 x.text H0 ∧ Slc a1 c1 x.list H1 ∧ Slc a2 c2 x.seen H2 := by
  obtain ⟨a0, c0, H0, a1, c1, H1, a2, c2, H2, rfl, rfl, i0, i1, s0, s1, s2⟩ := h
  exact ⟨a0, c0, H0, a1, c1, H1, a2, c2, H2, rfl, rfl, ‹_›, ‹_›, ‹_›, ‹_›, ‹_›⟩
theorem DDoc.re {x : DDoc} {a0 : Option Addr} {c0 : Nat} {H0 : Hp} {a1 : Option Addr} {c1 : Nat} {H1 : Hp} {a2 : Option Addr} {c2 : Nat} {H2 : Hp} (h0 : SB x.name) (h1 : I64 x.frm) (h2 : Slc a0 c0 x.text H0) (h3 : Slc a1 c1 x.list H1) (h4 : Slc a2 c2 x.seen H2) : rep [.string x.name, .int .i64 x.frm, .slice a0 x.text.length c0, .slice a1 x.list.length c1, .slice a2 x.seen.length c2] x (H0 ++ H1 ++ H2) :=
  ⟨_, _, _, _, _, _, _, _, _, rfl, rfl, ‹_›, ‹_›, ‹_›, ‹_›, ‹_›⟩
theorem DDoc.rd {w : World} {c : List Value} {x : DDoc} (h : Rd w c x) : ∃ (a0 : Option Addr) (c0 : Nat) (a1 : Option Addr) (c1 : Nat) (a2 : Option Addr) (c2 : Nat), c = [.string x.name, .int .i64 x.frm, .slice a0 x.text.length c0, .slice a1 x.list.length c1, .slice a2 x.seen.length c2] ∧ SB x.name ∧ I64 x.frm ∧ RdS w a0 c0 x.text ∧ RdS w a1 c1 x.list ∧ RdS w a2 c2 x.seen := by
  obtain ⟨H, h, hh⟩ := h
  obtain ⟨a0, c0, H0, a1, c1, H1, a2, c2, H2, rfl, rfl, h0, h1, h2, h3, h4⟩ := DDoc.un h
  exact ⟨a0, c0, a1, c1, a2, c2, rfl, ‹_›, ‹_›, ⟨H0, ‹_›, hh.left.left⟩, ⟨H1, ‹_›, hh.left.right⟩, ⟨H2, ‹_›, hh.right⟩⟩
theorem DDoc.mk_rd {w : World} {x : DDoc} {a0 : Option Addr} {c0 : Nat} {a1 : Option Addr} {c1 : Nat} {a2 : Option Addr} {c2 : Nat} (h0 : SB x.name) (h1 : I64 x.frm) (h2 : RdS w a0 c0 x.text) (h3 : RdS w a1 c1 x.list) (h4 : RdS w a2 c2 x.seen) : Rd w [.string x.name, .int .i64 x.frm, .slice a0 x.text.length c0, .slice a1 x.list.length c1, .slice a2 x.seen.length c2] x := by
  obtain ⟨H0, k0, m0⟩ := h2
  obtain ⟨H1, k1, m1⟩ := h3
  obtain ⟨H2, k2, m2⟩ := h4
  exact ⟨_, DDoc.re ‹_› ‹_› ‹_› ‹_› ‹_›, ((m0.append m1).append m2)⟩
theorem RdS.DDoc {w : World} {a : Option Addr} {cap : Nat} {l : List DDoc} (h : RdS w a cap l) {i : Nat} (hi : i < l.length) : ∃ (a0 : Option Addr) (c0 : Nat) (a1 : Option Addr) (c1 : Nat) (a2 : Option Addr) (c2 : Nat), Holds w (cellsAt (blk a) (ofs a + i * 5) [.string l[i].name, .int .i64 l[i].frm, .slice a0 l[i].text.length c0, .slice a1 l[i].list.length c1, .slice a2 l[i].seen.length c2]) ∧ SB l[i].name ∧ I64 l[i].frm ∧ RdS w a0 c0 l[i].text ∧ RdS w a1 c1 l[i].list ∧ RdS w a2 c2 l[i].seen := by
  obtain ⟨c, h1, h2⟩ := h.el hi
  obtain ⟨a0, c0, a1, c1, a2, c2, rfl, h10, h11, h12, h13, h14⟩ := DDoc.rd h2
  exact ⟨a0, c0, a1, c1, a2, c2, h1, h10, h11, h12, h13, h14⟩

structure DRing where
  cap : Int
  nxt : Int
  out : Bool
  list : List DEntry
  deriving DecidableEq
instance : Rep DRing where
  size := 4
  rep c x H := ∃ (a0 : Option Addr) (c0 : Nat) (H0 : Hp), c = [.int .i64 x.cap, .int .i64 x.nxt, .bool x.out, .slice a0 x.list.length c0] ∧ H0 = H ∧ I64 x.cap ∧ I64 x.nxt ∧ Slc a0 c0 x.list H0
  len := by
    rintro c x H ⟨a0, c0, H0, rfl, rfl, _, _, _⟩
    rfl
  one := by
    rintro c x H ⟨a0, c0, H0, rfl, rfl, _, _, _⟩
    intro v hv; simp only [List.mem_cons, List.mem_nil_iff, or_false] at hv; rcases hv with rfl | rfl | rfl | rfl <;> rfl
theorem DRing.un {c : List Value} {x : DRing} {H : Hp} (h : rep c x H) : ∃ (a0 : Option Addr) (c0 : Nat) (H0 : Hp), c = [.int .i64 x.cap, .int .i64 x.nxt, .bool x.out, .slice a0 x.list.length c0] ∧ H0 = H ∧ I64 x.cap ∧ I64 x.nxt ∧ Slc a0 c0 x.list H0 := by
  obtain ⟨a0, c0, H0, rfl, rfl, i0, i1, s0⟩ := h
  exact ⟨a0, c0, H0, rfl, rfl, ‹_›, ‹_›, ‹_›⟩
theorem DRing.re {x : DRing} {a0 : Option Addr} {c0 : Nat} {H0 : Hp} (h0 : I64 x.cap) (h1 : I64 x.nxt) (h2 : Slc a0 c0 x.list H0) : rep [.int .i64 x.cap, .int .i64 x.nxt, .bool x.out, .slice a0 x.list.length c0] x (H0) :=
  ⟨_, _, _, rfl, rfl, ‹_›, ‹_›, ‹_›⟩
theorem DRing.rd {w : World} {c : List Value} {x : DRing} (h : Rd w c x) : ∃ (a0 : Option Addr) (c0 : Nat), c = [.int .i64 x.cap, .int .i64 x.nxt, .bool x.out, .slice a0 x.list.length c0] ∧ I64 x.cap ∧ I64 x.nxt ∧ RdS w a0 c0 x.list := by
  obtain ⟨H, h, hh⟩ := h
  obtain ⟨a0, c0, H0, rfl, rfl, h0, h1, h2⟩ := DRing.un h
  exact ⟨a0, c0, rfl, ‹_›, ‹_›, ⟨H0, ‹_›, hh⟩⟩
theorem DRing.mk_rd {w : World} {x : DRing} {a0 : Option Addr} {c0 : Nat} (h0 : I64 x.cap) (h1 : I64 x.nxt) (h2 : RdS w a0 c0 x.list) : Rd w [.int .i64 x.cap, .int .i64 x.nxt, .bool x.out, .slice a0 x.list.length c0] x := by
  obtain ⟨H0, k0, m0⟩ := h2
  exact ⟨_, DRing.re ‹_› ‹_› ‹_›, m0⟩
theorem RdS.DRing {w : World} {a : Option Addr} {cap : Nat} {l : List DRing} (h : RdS w a cap l) {i : Nat} (hi : i < l.length) : ∃ (a0 : Option Addr) (c0 : Nat), Holds w (cellsAt (blk a) (ofs a + i * 4) [.int .i64 l[i].cap, .int .i64 l[i].nxt, .bool l[i].out, .slice a0 l[i].list.length c0]) ∧ I64 l[i].cap ∧ I64 l[i].nxt ∧ RdS w a0 c0 l[i].list := by
  obtain ⟨c, h1, h2⟩ := h.el hi
  obtain ⟨a0, c0, rfl, h10, h11, h12⟩ := DRing.rd h2
  exact ⟨a0, c0, h1, h10, h11, h12⟩

structure DSub where
  id : Int
  doc : ByteArray
  r : DRing
  deriving DecidableEq
instance : Rep DSub where
  size := 6
  rep c x H := ∃ (d0 : List Value) (H0 : Hp), c = [.int .i64 x.id, .string x.doc] ++ d0 ∧ H0 = H ∧ I64 x.id ∧ SB x.doc ∧ rep d0 x.r H0
  len := by
    rintro c x H ⟨d0, H0, rfl, rfl, _, _, r0⟩
    simp [Rep.len r0, Rep.size]
  one := by
    rintro c x H ⟨d0, H0, rfl, rfl, _, _, r0⟩
    exact (one_app (by intro v hv; simp only [List.mem_cons, List.mem_nil_iff, or_false] at hv; rcases hv with rfl | rfl <;> rfl) (Rep.one r0))
theorem DSub.un {c : List Value} {x : DSub} {H : Hp} (h : rep c x H) : ∃ (a0 : Option Addr) (c0 : Nat) (H0 : Hp), c = [.int .i64 x.id, .string x.doc, .int .i64 x.r.cap, .int .i64 x.r.nxt, .bool x.r.out, .slice a0 x.r.list.length c0] ∧ H0 = H ∧ I64 x.id ∧ SB x.doc ∧ I64 x.r.cap ∧ I64 x.r.nxt ∧ Slc a0 c0 x.r.list H0 := by
  obtain ⟨e0, K0, rfl, rfl, i0, i1, r0⟩ := h
  obtain ⟨a0, c0, H0, rfl, rfl, i2, i3, s0⟩ := r0
  exact ⟨a0, c0, H0, rfl, rfl, ‹_›, ‹_›, ‹_›, ‹_›, ‹_›⟩
theorem DSub.re {x : DSub} {a0 : Option Addr} {c0 : Nat} {H0 : Hp} (h0 : I64 x.id) (h1 : SB x.doc) (h2 : I64 x.r.cap) (h3 : I64 x.r.nxt) (h4 : Slc a0 c0 x.r.list H0) : rep [.int .i64 x.id, .string x.doc, .int .i64 x.r.cap, .int .i64 x.r.nxt, .bool x.r.out, .slice a0 x.r.list.length c0] x (H0) :=
  ⟨_, _, rfl, rfl, ‹_›, ‹_›, ⟨_, _, _, rfl, rfl, ‹_›, ‹_›, ‹_›⟩⟩
theorem DSub.rd {w : World} {c : List Value} {x : DSub} (h : Rd w c x) : ∃ (a0 : Option Addr) (c0 : Nat), c = [.int .i64 x.id, .string x.doc, .int .i64 x.r.cap, .int .i64 x.r.nxt, .bool x.r.out, .slice a0 x.r.list.length c0] ∧ I64 x.id ∧ SB x.doc ∧ I64 x.r.cap ∧ I64 x.r.nxt ∧ RdS w a0 c0 x.r.list := by
  obtain ⟨H, h, hh⟩ := h
  obtain ⟨a0, c0, H0, rfl, rfl, h0, h1, h2, h3, h4⟩ := DSub.un h
  exact ⟨a0, c0, rfl, ‹_›, ‹_›, ‹_›, ‹_›, ⟨H0, ‹_›, hh⟩⟩
theorem DSub.mk_rd {w : World} {x : DSub} {a0 : Option Addr} {c0 : Nat} (h0 : I64 x.id) (h1 : SB x.doc) (h2 : I64 x.r.cap) (h3 : I64 x.r.nxt) (h4 : RdS w a0 c0 x.r.list) : Rd w [.int .i64 x.id, .string x.doc, .int .i64 x.r.cap, .int .i64 x.r.nxt, .bool x.r.out, .slice a0 x.r.list.length c0] x := by
  obtain ⟨H0, k0, m0⟩ := h4
  exact ⟨_, DSub.re ‹_› ‹_› ‹_› ‹_› ‹_›, m0⟩
theorem RdS.DSub {w : World} {a : Option Addr} {cap : Nat} {l : List DSub} (h : RdS w a cap l) {i : Nat} (hi : i < l.length) : ∃ (a0 : Option Addr) (c0 : Nat), Holds w (cellsAt (blk a) (ofs a + i * 6) [.int .i64 l[i].id, .string l[i].doc, .int .i64 l[i].r.cap, .int .i64 l[i].r.nxt, .bool l[i].r.out, .slice a0 l[i].r.list.length c0]) ∧ I64 l[i].id ∧ SB l[i].doc ∧ I64 l[i].r.cap ∧ I64 l[i].r.nxt ∧ RdS w a0 c0 l[i].r.list := by
  obtain ⟨c, h1, h2⟩ := h.el hi
  obtain ⟨a0, c0, rfl, h10, h11, h12, h13, h14⟩ := DSub.rd h2
  exact ⟨a0, c0, h1, h10, h11, h12, h13, h14⟩

structure DHub where
  shut : Bool
  docs : List DDoc
  subs : List DSub
  last : Int
  deriving DecidableEq
instance : Rep DHub where
  size := 4
  rep c x H := ∃ (a0 : Option Addr) (c0 : Nat) (H0 : Hp) (a1 : Option Addr) (c1 : Nat) (H1 : Hp), c = [.bool x.shut, .slice a0 x.docs.length c0, .slice a1 x.subs.length c1, .int .i64 x.last] ∧ H0 ++ H1 = H ∧ Slc a0 c0 x.docs H0 ∧ Slc a1 c1 x.subs H1 ∧ I64 x.last
  len := by
    rintro c x H ⟨a0, c0, H0, a1, c1, H1, rfl, rfl, _, _, _⟩
    rfl
  one := by
    rintro c x H ⟨a0, c0, H0, a1, c1, H1, rfl, rfl, _, _, _⟩
    intro v hv; simp only [List.mem_cons, List.mem_nil_iff, or_false] at hv; rcases hv with rfl | rfl | rfl | rfl <;> rfl
theorem DHub.un {c : List Value} {x : DHub} {H : Hp} (h : rep c x H) : ∃ (a0 : Option Addr) (c0 : Nat) (H0 : Hp) (a1 : Option Addr) (c1 : Nat) (H1 : Hp), c = [.bool x.shut, .slice a0 x.docs.length c0, .slice a1 x.subs.length c1, .int .i64 x.last] ∧ H0 ++ H1 = H ∧ Slc a0 c0 x.docs H0 ∧ Slc a1 c1 x.subs H1 ∧ I64 x.last := by
  obtain ⟨a0, c0, H0, a1, c1, H1, rfl, rfl, s0, s1, i0⟩ := h
  exact ⟨a0, c0, H0, a1, c1, H1, rfl, rfl, ‹_›, ‹_›, ‹_›⟩
theorem DHub.re {x : DHub} {a0 : Option Addr} {c0 : Nat} {H0 : Hp} {a1 : Option Addr} {c1 : Nat} {H1 : Hp} (h0 : Slc a0 c0 x.docs H0) (h1 : Slc a1 c1 x.subs H1) (h2 : I64 x.last) : rep [.bool x.shut, .slice a0 x.docs.length c0, .slice a1 x.subs.length c1, .int .i64 x.last] x (H0 ++ H1) :=
  ⟨_, _, _, _, _, _, rfl, rfl, ‹_›, ‹_›, ‹_›⟩
theorem DHub.rd {w : World} {c : List Value} {x : DHub} (h : Rd w c x) : ∃ (a0 : Option Addr) (c0 : Nat) (a1 : Option Addr) (c1 : Nat), c = [.bool x.shut, .slice a0 x.docs.length c0, .slice a1 x.subs.length c1, .int .i64 x.last] ∧ RdS w a0 c0 x.docs ∧ RdS w a1 c1 x.subs ∧ I64 x.last := by
  obtain ⟨H, h, hh⟩ := h
  obtain ⟨a0, c0, H0, a1, c1, H1, rfl, rfl, h0, h1, h2⟩ := DHub.un h
  exact ⟨a0, c0, a1, c1, rfl, ⟨H0, ‹_›, hh.left⟩, ⟨H1, ‹_›, hh.right⟩, ‹_›⟩
theorem DHub.mk_rd {w : World} {x : DHub} {a0 : Option Addr} {c0 : Nat} {a1 : Option Addr} {c1 : Nat} (h0 : RdS w a0 c0 x.docs) (h1 : RdS w a1 c1 x.subs) (h2 : I64 x.last) : Rd w [.bool x.shut, .slice a0 x.docs.length c0, .slice a1 x.subs.length c1, .int .i64 x.last] x := by
  obtain ⟨H0, k0, m0⟩ := h0
  obtain ⟨H1, k1, m1⟩ := h1
  exact ⟨_, DHub.re ‹_› ‹_› ‹_›, (m0.append m1)⟩
theorem RdS.DHub {w : World} {a : Option Addr} {cap : Nat} {l : List DHub} (h : RdS w a cap l) {i : Nat} (hi : i < l.length) : ∃ (a0 : Option Addr) (c0 : Nat) (a1 : Option Addr) (c1 : Nat), Holds w (cellsAt (blk a) (ofs a + i * 4) [.bool l[i].shut, .slice a0 l[i].docs.length c0, .slice a1 l[i].subs.length c1, .int .i64 l[i].last]) ∧ RdS w a0 c0 l[i].docs ∧ RdS w a1 c1 l[i].subs ∧ I64 l[i].last := by
  obtain ⟨c, h1, h2⟩ := h.el hi
  obtain ⟨a0, c0, a1, c1, rfl, h10, h11, h12⟩ := DHub.rd h2
  exact ⟨a0, c0, a1, c1, h1, h10, h11, h12⟩

structure DCall where
  kind : Int
  doc : ByteArray
  client : Int
  seq : Int
  n : Int
  o : List DPart
  text : List Int
  deriving DecidableEq
instance : Rep DCall where
  size := 7
  rep c x H := ∃ (a0 : Option Addr) (c0 : Nat) (H0 : Hp) (a1 : Option Addr) (c1 : Nat) (H1 : Hp), c = [.int .i64 x.kind, .string x.doc, .int .i64 x.client, .int .i64 x.seq, .int .i64 x.n, .slice a0 x.o.length c0, .slice a1 x.text.length c1] ∧ H0 ++ H1 = H ∧ I64 x.kind ∧ SB x.doc ∧ I64 x.client ∧ I64 x.seq ∧ I64 x.n ∧ Slc a0 c0 x.o H0 ∧ Slc a1 c1 x.text H1
  len := by
    rintro c x H ⟨a0, c0, H0, a1, c1, H1, rfl, rfl, _, _, _, _, _, _, _⟩
    rfl
  one := by
    rintro c x H ⟨a0, c0, H0, a1, c1, H1, rfl, rfl, _, _, _, _, _, _, _⟩
    intro v hv; simp only [List.mem_cons, List.mem_nil_iff, or_false] at hv; rcases hv with rfl | rfl | rfl | rfl | rfl | rfl | rfl <;> rfl
theorem DCall.un {c : List Value} {x : DCall} {H : Hp} (h : rep c x H) : ∃ (a0 : Option Addr) (c0 : Nat) (H0 : Hp) (a1 : Option Addr) (c1 : Nat) (H1 : Hp), c = [.int .i64 x.kind, .string x.doc, .int .i64 x.client, .int .i64 x.seq, .int .i64 x.n, .slice a0 x.o.length c0, .slice a1 x.text.length c1] ∧ H0 ++ H1 = H ∧ I64 x.kind ∧ SB x.doc ∧ I64 x.client ∧ I64 x.seq ∧ I64 x.n ∧ Slc a0 c0 x.o H0 ∧ Slc a1 c1 x.text H1 := by
  obtain ⟨a0, c0, H0, a1, c1, H1, rfl, rfl, i0, i1, i2, i3, i4, s0, s1⟩ := h
  exact ⟨a0, c0, H0, a1, c1, H1, rfl, rfl, ‹_›, ‹_›, ‹_›, ‹_›, ‹_›, ‹_›, ‹_›⟩
theorem DCall.re {x : DCall} {a0 : Option Addr} {c0 : Nat} {H0 : Hp} {a1 : Option Addr} {c1 : Nat} {H1 : Hp} (h0 : I64 x.kind) (h1 : SB x.doc) (h2 : I64 x.client) (h3 : I64 x.seq) (h4 : I64 x.n) (h5 : Slc a0 c0 x.o H0) (h6 : Slc a1 c1 x.text H1) : rep [.int .i64 x.kind, .string x.doc, .int .i64 x.client, .int .i64 x.seq, .int .i64 x.n, .slice a0 x.o.length c0, .slice a1 x.text.length c1] x (H0 ++ H1) :=
  ⟨_, _, _, _, _, _, rfl, rfl, ‹_›, ‹_›, ‹_›, ‹_›, ‹_›, ‹_›, ‹_›⟩
theorem DCall.rd {w : World} {c : List Value} {x : DCall} (h : Rd w c x) : ∃ (a0 : Option Addr) (c0 : Nat) (a1 : Option Addr) (c1 : Nat), c = [.int .i64 x.kind, .string x.doc, .int .i64 x.client, .int .i64 x.seq, .int .i64 x.n, .slice a0 x.o.length c0, .slice a1 x.text.length c1] ∧ I64 x.kind ∧ SB x.doc ∧ I64 x.client ∧ I64 x.seq ∧ I64 x.n ∧ RdS w a0 c0 x.o ∧ RdS w a1 c1 x.text := by
  obtain ⟨H, h, hh⟩ := h
  obtain ⟨a0, c0, H0, a1, c1, H1, rfl, rfl, h0, h1, h2, h3, h4, h5, h6⟩ := DCall.un h
  exact ⟨a0, c0, a1, c1, rfl, ‹_›, ‹_›, ‹_›, ‹_›, ‹_›, ⟨H0, ‹_›, hh.left⟩, ⟨H1, ‹_›, hh.right⟩⟩
theorem DCall.mk_rd {w : World} {x : DCall} {a0 : Option Addr} {c0 : Nat} {a1 : Option Addr} {c1 : Nat} (h0 : I64 x.kind) (h1 : SB x.doc) (h2 : I64 x.client) (h3 : I64 x.seq) (h4 : I64 x.n) (h5 : RdS w a0 c0 x.o) (h6 : RdS w a1 c1 x.text) : Rd w [.int .i64 x.kind, .string x.doc, .int .i64 x.client, .int .i64 x.seq, .int .i64 x.n, .slice a0 x.o.length c0, .slice a1 x.text.length c1] x := by
  obtain ⟨H0, k0, m0⟩ := h5
  obtain ⟨H1, k1, m1⟩ := h6
  exact ⟨_, DCall.re ‹_› ‹_› ‹_› ‹_› ‹_› ‹_› ‹_›, (m0.append m1)⟩
theorem RdS.DCall {w : World} {a : Option Addr} {cap : Nat} {l : List DCall} (h : RdS w a cap l) {i : Nat} (hi : i < l.length) : ∃ (a0 : Option Addr) (c0 : Nat) (a1 : Option Addr) (c1 : Nat), Holds w (cellsAt (blk a) (ofs a + i * 7) [.int .i64 l[i].kind, .string l[i].doc, .int .i64 l[i].client, .int .i64 l[i].seq, .int .i64 l[i].n, .slice a0 l[i].o.length c0, .slice a1 l[i].text.length c1]) ∧ I64 l[i].kind ∧ SB l[i].doc ∧ I64 l[i].client ∧ I64 l[i].seq ∧ I64 l[i].n ∧ RdS w a0 c0 l[i].o ∧ RdS w a1 c1 l[i].text := by
  obtain ⟨c, h1, h2⟩ := h.el hi
  obtain ⟨a0, c0, a1, c1, rfl, h10, h11, h12, h13, h14, h15, h16⟩ := DCall.rd h2
  exact ⟨a0, c0, a1, c1, h1, h10, h11, h12, h13, h14, h15, h16⟩

structure DAnswer where
  code : Int
  rev : Int
  text : List Int
  list : List DEntry
  deriving DecidableEq
instance : Rep DAnswer where
  size := 4
  rep c x H := ∃ (a0 : Option Addr) (c0 : Nat) (H0 : Hp) (a1 : Option Addr) (c1 : Nat) (H1 : Hp), c = [.int .i64 x.code, .int .i64 x.rev, .slice a0 x.text.length c0, .slice a1 x.list.length c1] ∧ H0 ++ H1 = H ∧ I64 x.code ∧ I64 x.rev ∧ Slc a0 c0 x.text H0 ∧ Slc a1 c1 x.list H1
  len := by
    rintro c x H ⟨a0, c0, H0, a1, c1, H1, rfl, rfl, _, _, _, _⟩
    rfl
  one := by
    rintro c x H ⟨a0, c0, H0, a1, c1, H1, rfl, rfl, _, _, _, _⟩
    intro v hv; simp only [List.mem_cons, List.mem_nil_iff, or_false] at hv; rcases hv with rfl | rfl | rfl | rfl <;> rfl
theorem DAnswer.un {c : List Value} {x : DAnswer} {H : Hp} (h : rep c x H) : ∃ (a0 : Option Addr) (c0 : Nat) (H0 : Hp) (a1 : Option Addr) (c1 : Nat) (H1 : Hp), c = [.int .i64 x.code, .int .i64 x.rev, .slice a0 x.text.length c0, .slice a1 x.list.length c1] ∧ H0 ++ H1 = H ∧ I64 x.code ∧ I64 x.rev ∧ Slc a0 c0 x.text H0 ∧ Slc a1 c1 x.list H1 := by
  obtain ⟨a0, c0, H0, a1, c1, H1, rfl, rfl, i0, i1, s0, s1⟩ := h
  exact ⟨a0, c0, H0, a1, c1, H1, rfl, rfl, ‹_›, ‹_›, ‹_›, ‹_›⟩
theorem DAnswer.re {x : DAnswer} {a0 : Option Addr} {c0 : Nat} {H0 : Hp} {a1 : Option Addr} {c1 : Nat} {H1 : Hp} (h0 : I64 x.code) (h1 : I64 x.rev) (h2 : Slc a0 c0 x.text H0) (h3 : Slc a1 c1 x.list H1) : rep [.int .i64 x.code, .int .i64 x.rev, .slice a0 x.text.length c0, .slice a1 x.list.length c1] x (H0 ++ H1) :=
  ⟨_, _, _, _, _, _, rfl, rfl, ‹_›, ‹_›, ‹_›, ‹_›⟩
theorem DAnswer.rd {w : World} {c : List Value} {x : DAnswer} (h : Rd w c x) : ∃ (a0 : Option Addr) (c0 : Nat) (a1 : Option Addr) (c1 : Nat), c = [.int .i64 x.code, .int .i64 x.rev, .slice a0 x.text.length c0, .slice a1 x.list.length c1] ∧ I64 x.code ∧ I64 x.rev ∧ RdS w a0 c0 x.text ∧ RdS w a1 c1 x.list := by
  obtain ⟨H, h, hh⟩ := h
  obtain ⟨a0, c0, H0, a1, c1, H1, rfl, rfl, h0, h1, h2, h3⟩ := DAnswer.un h
  exact ⟨a0, c0, a1, c1, rfl, ‹_›, ‹_›, ⟨H0, ‹_›, hh.left⟩, ⟨H1, ‹_›, hh.right⟩⟩
theorem DAnswer.mk_rd {w : World} {x : DAnswer} {a0 : Option Addr} {c0 : Nat} {a1 : Option Addr} {c1 : Nat} (h0 : I64 x.code) (h1 : I64 x.rev) (h2 : RdS w a0 c0 x.text) (h3 : RdS w a1 c1 x.list) : Rd w [.int .i64 x.code, .int .i64 x.rev, .slice a0 x.text.length c0, .slice a1 x.list.length c1] x := by
  obtain ⟨H0, k0, m0⟩ := h2
  obtain ⟨H1, k1, m1⟩ := h3
  exact ⟨_, DAnswer.re ‹_› ‹_› ‹_› ‹_›, (m0.append m1)⟩
theorem RdS.DAnswer {w : World} {a : Option Addr} {cap : Nat} {l : List DAnswer} (h : RdS w a cap l) {i : Nat} (hi : i < l.length) : ∃ (a0 : Option Addr) (c0 : Nat) (a1 : Option Addr) (c1 : Nat), Holds w (cellsAt (blk a) (ofs a + i * 4) [.int .i64 l[i].code, .int .i64 l[i].rev, .slice a0 l[i].text.length c0, .slice a1 l[i].list.length c1]) ∧ I64 l[i].code ∧ I64 l[i].rev ∧ RdS w a0 c0 l[i].text ∧ RdS w a1 c1 l[i].list := by
  obtain ⟨c, h1, h2⟩ := h.el hi
  obtain ⟨a0, c0, a1, c1, rfl, h10, h11, h12, h13⟩ := DAnswer.rd h2
  exact ⟨a0, c0, a1, c1, h1, h10, h11, h12, h13⟩

structure DTask where
  c : DCall
  pc : Int
  inv : Int
  lin : Int
  res : Int
  a : DAnswer
  deriving DecidableEq
instance : Rep DTask where
  size := 15
  rep c x H := ∃ (d0 : List Value) (H0 : Hp) (d1 : List Value) (H1 : Hp), c = d0 ++ [.int .i64 x.pc, .int .i64 x.inv, .int .i64 x.lin, .int .i64 x.res] ++ d1 ∧ H0 ++ H1 = H ∧ rep d0 x.c H0 ∧ I64 x.pc ∧ I64 x.inv ∧ I64 x.lin ∧ I64 x.res ∧ rep d1 x.a H1
  len := by
    rintro c x H ⟨d0, H0, d1, H1, rfl, rfl, r0, _, _, _, _, r1⟩
    simp [Rep.len r0, Rep.len r1, Rep.size]
  one := by
    rintro c x H ⟨d0, H0, d1, H1, rfl, rfl, r0, _, _, _, _, r1⟩
    exact (one_app (one_app (Rep.one r0) (by intro v hv; simp only [List.mem_cons, List.mem_nil_iff, or_false] at hv; rcases hv with rfl | rfl | rfl | rfl <;> rfl)) (Rep.one r1))
theorem DTask.un {c : List Value} {x : DTask} {H : Hp} (h : rep c x H) : ∃ (a0 : Option Addr) (c0 : Nat) (H0 : Hp) (a1 : Option Addr) (c1 : Nat) (H1 : Hp) (a2 : Option Addr) (c2 : Nat) (H2 : Hp) (a3 : Option Addr) (c3 : Nat) (H3 : Hp), c = [.int .i64 x.c.kind, .string x.c.doc, .int .i64 x.c.client, .int .i64 x.c.seq, .int .i64 x.c.n, .slice a0 x.c.o.length c0, .slice a1 x.c.text.length c1, .int .i64 x.pc, .int .i64 x.inv, .int .i64 x.lin, .int .i64 x.res, .int .i64 x.a.code, .int .i64 x.a.rev, .slice a2 x.a.text.length c2, .slice a3 x.a.list.length c3] ∧ (H0 ++ H1) ++ (H2 ++ H3) = H ∧ I64 x.c.kind ∧ SB x.c.doc ∧ I64 x.c.client ∧ I64 x.c.seq ∧ I64 x.c.n ∧ Slc a0 c0 x.c.o H0 ∧ Slc a1 c1 x.c.text H1 ∧ I64 x.pc ∧ I64 x.inv ∧ I64 x.lin ∧ I64 x.res ∧ I64 x.a.code ∧ I64 x.a.rev ∧ Slc a2 c2 x.a.text H2 ∧ Slc a3 c3 x.a.list H3 := by
  obtain ⟨e0, K0, e1, K1, rfl, rfl, r0, i0, i1, i2, i3, r1⟩ := h
  obtain ⟨a0, c0, H0, a1, c1, H1, rfl, rfl, i4, i5, i6, i7, i8, s0, s1⟩ := r0
  obtain ⟨a2, c2, H2, a3, c3, H3, rfl, rfl, i9, i10, s2, s3⟩ := r1
  exact ⟨a0, c0, H0, a1, c1, H1, a2, c2, H2, a3, c3, H3, rfl, rfl, ‹_›, ‹_›, ‹_›, ‹_›, ‹_›, ‹_›, ‹_›, ‹_›, ‹_›, ‹_›, ‹_›, ‹_›, ‹_›, ‹_›, ‹_›⟩
theorem DTask.re {x : DTask} {a0 : Option Addr} {c0 : Nat} {H0 : Hp} {a1 : Option Addr} {c1 : Nat} {H1 : Hp} {a2 : Option Addr} {c2 : Nat} {H2 : Hp} {a3 : Option Addr} {c3 : Nat} {H3 : Hp} (h0 : I64 x.c.kind) (h1 : SB x.c.doc) (h2 : I64 x.c.client) (h3 : I64 x.c.seq) (h4 : I64 x.c.n) (h5 : Slc a0 c0 x.c.o H0) (h6 : Slc a1 c1 x.c.text H1) (h7 : I64 x.pc) (h8 : I64 x.inv) (h9 : I64 x.lin) (h10 : I64 x.res) (h11 : I64 x.a.code) (h12 : I64 x.a.rev) (h13 : Slc a2 c2 x.a.text H2) (h14 : Slc a3 c3 x.a.list H3) : rep [.int .i64 x.c.kind, .string x.c.doc, .int .i64 x.c.client, .int .i64 x.c.seq, .int .i64 x.c.n, .slice a0 x.c.o.length c0, .slice a1 x.c.text.length c1, .int .i64 x.pc, .int .i64 x.inv, .int .i64 x.lin, .int .i64 x.res, .int .i64 x.a.code, .int .i64 x.a.rev, .slice a2 x.a.text.length c2, .slice a3 x.a.list.length c3] x ((H0 ++ H1) ++ (H2 ++ H3)) :=
  ⟨_, _, _, _, rfl, rfl, ⟨_, _, _, _, _, _, rfl, rfl, ‹_›, ‹_›, ‹_›, ‹_›, ‹_›, ‹_›, ‹_›⟩, ‹_›, ‹_›, ‹_›, ‹_›, ⟨_, _, _, _, _, _, rfl, rfl, ‹_›, ‹_›, ‹_›, ‹_›⟩⟩
theorem DTask.rd {w : World} {c : List Value} {x : DTask} (h : Rd w c x) : ∃ (a0 : Option Addr) (c0 : Nat) (a1 : Option Addr) (c1 : Nat) (a2 : Option Addr) (c2 : Nat) (a3 : Option Addr) (c3 : Nat), c = [.int .i64 x.c.kind, .string x.c.doc, .int .i64 x.c.client, .int .i64 x.c.seq, .int .i64 x.c.n, .slice a0 x.c.o.length c0, .slice a1 x.c.text.length c1, .int .i64 x.pc, .int .i64 x.inv, .int .i64 x.lin, .int .i64 x.res, .int .i64 x.a.code, .int .i64 x.a.rev, .slice a2 x.a.text.length c2, .slice a3 x.a.list.length c3] ∧ I64 x.c.kind ∧ SB x.c.doc ∧ I64 x.c.client ∧ I64 x.c.seq ∧ I64 x.c.n ∧ RdS w a0 c0 x.c.o ∧ RdS w a1 c1 x.c.text ∧ I64 x.pc ∧ I64 x.inv ∧ I64 x.lin ∧ I64 x.res ∧ I64 x.a.code ∧ I64 x.a.rev ∧ RdS w a2 c2 x.a.text ∧ RdS w a3 c3 x.a.list := by
  obtain ⟨H, h, hh⟩ := h
  obtain ⟨a0, c0, H0, a1, c1, H1, a2, c2, H2, a3, c3, H3, rfl, rfl, h0, h1, h2, h3, h4, h5, h6, h7, h8, h9, h10, h11, h12, h13, h14⟩ := DTask.un h
  exact ⟨a0, c0, a1, c1, a2, c2, a3, c3, rfl, ‹_›, ‹_›, ‹_›, ‹_›, ‹_›, ⟨H0, ‹_›, hh.left.left⟩, ⟨H1, ‹_›, hh.left.right⟩, ‹_›, ‹_›, ‹_›, ‹_›, ‹_›, ‹_›, ⟨H2, ‹_›, hh.right.left⟩, ⟨H3, ‹_›, hh.right.right⟩⟩
theorem DTask.mk_rd {w : World} {x : DTask} {a0 : Option Addr} {c0 : Nat} {a1 : Option Addr} {c1 : Nat} {a2 : Option Addr} {c2 : Nat} {a3 : Option Addr} {c3 : Nat} (h0 : I64 x.c.kind) (h1 : SB x.c.doc) (h2 : I64 x.c.client) (h3 : I64 x.c.seq) (h4 : I64 x.c.n) (h5 : RdS w a0 c0 x.c.o) (h6 : RdS w a1 c1 x.c.text) (h7 : I64 x.pc) (h8 : I64 x.inv) (h9 : I64 x.lin) (h10 : I64 x.res) (h11 : I64 x.a.code) (h12 : I64 x.a.rev) (h13 : RdS w a2 c2 x.a.text) (h14 : RdS w a3 c3 x.a.list) : Rd w [.int .i64 x.c.kind, .string x.c.doc, .int .i64 x.c.client, .int .i64 x.c.seq, .int .i64 x.c.n, .slice a0 x.c.o.length c0, .slice a1 x.c.text.length c1, .int .i64 x.pc, .int .i64 x.inv, .int .i64 x.lin, .int .i64 x.res, .int .i64 x.a.code, .int .i64 x.a.rev, .slice a2 x.a.text.length c2, .slice a3 x.a.list.length c3] x := by
  obtain ⟨H0, k0, m0⟩ := h5
  obtain ⟨H1, k1, m1⟩ := h6
  obtain ⟨H2, k2, m2⟩ := h13
  obtain ⟨H3, k3, m3⟩ := h14
  exact ⟨_, DTask.re ‹_› ‹_› ‹_› ‹_› ‹_› ‹_› ‹_› ‹_› ‹_› ‹_› ‹_› ‹_› ‹_› ‹_› ‹_›, ((m0.append m1).append (m2.append m3))⟩
theorem RdS.DTask {w : World} {a : Option Addr} {cap : Nat} {l : List DTask} (h : RdS w a cap l) {i : Nat} (hi : i < l.length) : ∃ (a0 : Option Addr) (c0 : Nat) (a1 : Option Addr) (c1 : Nat) (a2 : Option Addr) (c2 : Nat) (a3 : Option Addr) (c3 : Nat), Holds w (cellsAt (blk a) (ofs a + i * 15) [.int .i64 l[i].c.kind, .string l[i].c.doc, .int .i64 l[i].c.client, .int .i64 l[i].c.seq, .int .i64 l[i].c.n, .slice a0 l[i].c.o.length c0, .slice a1 l[i].c.text.length c1, .int .i64 l[i].pc, .int .i64 l[i].inv, .int .i64 l[i].lin, .int .i64 l[i].res, .int .i64 l[i].a.code, .int .i64 l[i].a.rev, .slice a2 l[i].a.text.length c2, .slice a3 l[i].a.list.length c3]) ∧ I64 l[i].c.kind ∧ SB l[i].c.doc ∧ I64 l[i].c.client ∧ I64 l[i].c.seq ∧ I64 l[i].c.n ∧ RdS w a0 c0 l[i].c.o ∧ RdS w a1 c1 l[i].c.text ∧ I64 l[i].pc ∧ I64 l[i].inv ∧ I64 l[i].lin ∧ I64 l[i].res ∧ I64 l[i].a.code ∧ I64 l[i].a.rev ∧ RdS w a2 c2 l[i].a.text ∧ RdS w a3 c3 l[i].a.list := by
  obtain ⟨c, h1, h2⟩ := h.el hi
  obtain ⟨a0, c0, a1, c1, a2, c2, a3, c3, rfl, h10, h11, h12, h13, h14, h15, h16, h17, h18, h19, h20, h21, h22, h23, h24⟩ := DTask.rd h2
  exact ⟨a0, c0, a1, c1, a2, c2, a3, c3, h1, h10, h11, h12, h13, h14, h15, h16, h17, h18, h19, h20, h21, h22, h23, h24⟩

structure DQueue where
  doc : ByteArray
  list : List Int
  deriving DecidableEq
instance : Rep DQueue where
  size := 2
  rep c x H := ∃ (a0 : Option Addr) (c0 : Nat) (H0 : Hp), c = [.string x.doc, .slice a0 x.list.length c0] ∧ H0 = H ∧ SB x.doc ∧ Slc a0 c0 x.list H0
  len := by
    rintro c x H ⟨a0, c0, H0, rfl, rfl, _, _⟩
    rfl
  one := by
    rintro c x H ⟨a0, c0, H0, rfl, rfl, _, _⟩
    intro v hv; simp only [List.mem_cons, List.mem_nil_iff, or_false] at hv; rcases hv with rfl | rfl <;> rfl
theorem DQueue.un {c : List Value} {x : DQueue} {H : Hp} (h : rep c x H) : ∃ (a0 : Option Addr) (c0 : Nat) (H0 : Hp), c = [.string x.doc, .slice a0 x.list.length c0] ∧ H0 = H ∧ SB x.doc ∧ Slc a0 c0 x.list H0 := by
  obtain ⟨a0, c0, H0, rfl, rfl, i0, s0⟩ := h
  exact ⟨a0, c0, H0, rfl, rfl, ‹_›, ‹_›⟩
theorem DQueue.re {x : DQueue} {a0 : Option Addr} {c0 : Nat} {H0 : Hp} (h0 : SB x.doc) (h1 : Slc a0 c0 x.list H0) : rep [.string x.doc, .slice a0 x.list.length c0] x (H0) :=
  ⟨_, _, _, rfl, rfl, ‹_›, ‹_›⟩
theorem DQueue.rd {w : World} {c : List Value} {x : DQueue} (h : Rd w c x) : ∃ (a0 : Option Addr) (c0 : Nat), c = [.string x.doc, .slice a0 x.list.length c0] ∧ SB x.doc ∧ RdS w a0 c0 x.list := by
  obtain ⟨H, h, hh⟩ := h
  obtain ⟨a0, c0, H0, rfl, rfl, h0, h1⟩ := DQueue.un h
  exact ⟨a0, c0, rfl, ‹_›, ⟨H0, ‹_›, hh⟩⟩
theorem DQueue.mk_rd {w : World} {x : DQueue} {a0 : Option Addr} {c0 : Nat} (h0 : SB x.doc) (h1 : RdS w a0 c0 x.list) : Rd w [.string x.doc, .slice a0 x.list.length c0] x := by
  obtain ⟨H0, k0, m0⟩ := h1
  exact ⟨_, DQueue.re ‹_› ‹_›, m0⟩
theorem RdS.DQueue {w : World} {a : Option Addr} {cap : Nat} {l : List DQueue} (h : RdS w a cap l) {i : Nat} (hi : i < l.length) : ∃ (a0 : Option Addr) (c0 : Nat), Holds w (cellsAt (blk a) (ofs a + i * 2) [.string l[i].doc, .slice a0 l[i].list.length c0]) ∧ SB l[i].doc ∧ RdS w a0 c0 l[i].list := by
  obtain ⟨c, h1, h2⟩ := h.el hi
  obtain ⟨a0, c0, rfl, h10, h11⟩ := DQueue.rd h2
  exact ⟨a0, c0, h1, h10, h11⟩

structure DWorld where
  h : DHub
  locks : List Int
  queues : List DQueue
  tasks : List DTask
  step : Int
  deriving DecidableEq
instance : Rep DWorld where
  size := 8
  rep c x H := ∃ (d0 : List Value) (H0 : Hp) (a1 : Option Addr) (c1 : Nat) (H1 : Hp) (a2 : Option Addr) (c2 : Nat) (H2 : Hp) (a3 : Option Addr) (c3 : Nat) (H3 : Hp), c = d0 ++ [.slice a1 x.locks.length c1, .slice a2 x.queues.length c2, .slice a3 x.tasks.length c3, .int .i64 x.step] ∧ H0 ++ H1 ++ H2 ++ H3 = H ∧ rep d0 x.h H0 ∧ Slc a1 c1 x.locks H1 ∧ Slc a2 c2 x.queues H2 ∧ Slc a3 c3 x.tasks H3 ∧ I64 x.step
  len := by
    rintro c x H ⟨d0, H0, a1, c1, H1, a2, c2, H2, a3, c3, H3, rfl, rfl, r0, _, _, _, _⟩
    simp [Rep.len r0, Rep.size]
  one := by
    rintro c x H ⟨d0, H0, a1, c1, H1, a2, c2, H2, a3, c3, H3, rfl, rfl, r0, _, _, _, _⟩
    exact (one_app (Rep.one r0) (by intro v hv; simp only [List.mem_cons, List.mem_nil_iff, or_false] at hv; rcases hv with rfl | rfl | rfl | rfl <;> rfl))
theorem DWorld.un {c : List Value} {x : DWorld} {H : Hp} (h : rep c x H) : ∃ (a0 : Option Addr) (c0 : Nat) (H0 : Hp) (a1 : Option Addr) (c1 : Nat) (H1 : Hp) (a2 : Option Addr) (c2 : Nat) (H2 : Hp) (a3 : Option Addr) (c3 : Nat) (H3 : Hp) (a4 : Option Addr) (c4 : Nat) (H4 : Hp), c = [.bool x.h.shut, .slice a0 x.h.docs.length c0, .slice a1 x.h.subs.length c1, .int .i64 x.h.last, .slice a2 x.locks.length c2, .slice a3 x.queues.length c3, .slice a4 x.tasks.length c4, .int .i64 x.step] ∧ (H0 ++ H1) ++ H2 ++ H3 ++ H4 = H ∧ Slc a0 c0 x.h.docs H0 ∧ Slc a1 c1 x.h.subs H1 ∧ I64 x.h.last ∧ Slc a2 c2 x.locks H2 ∧ Slc a3 c3 x.queues H3 ∧ Slc a4 c4 x.tasks H4 ∧ I64 x.step := by
  obtain ⟨e0, K0, a2, c2, H2, a3, c3, H3, a4, c4, H4, rfl, rfl, r0, s2, s3, s4, i0⟩ := h
  obtain ⟨a0, c0, H0, a1, c1, H1, rfl, rfl, s0, s1, i1⟩ := r0
  exact ⟨a0, c0, H0, a1, c1, H1, a2, c2, H2, a3, c3, H3, a4, c4, H4, rfl, rfl, ‹_›, ‹_›, ‹_›, ‹_›, ‹_›, ‹_›, ‹_›⟩
theorem DWorld.re {x : DWorld} {a0 : Option Addr} {c0 : Nat} {H0 : Hp} {a1 : Option Addr} {c1 : Nat} {H1 : Hp} {a2 : Option Addr} {c2 : Nat} {H2 : Hp} {a3 : Option Addr} {c3 : Nat} {H3 : Hp} {a4 : Option Addr} {c4 : Nat} {H4 : Hp} (h0 : Slc a0 c0 x.h.docs H0) (h1 : Slc a1 c1 x.h.subs H1) (h2 : I64 x.h.last) (h3 : Slc a2 c2 x.locks H2) (h4 : Slc a3 c3 x.queues H3) (h5 : Slc a4 c4 x.tasks H4) (h6 : I64 x.step) : rep [.bool x.h.shut, .slice a0 x.h.docs.length c0, .slice a1 x.h.subs.length c1, .int .i64 x.h.last, .slice a2 x.locks.length c2, .slice a3 x.queues.length c3, .slice a4 x.tasks.length c4, .int .i64 x.step] x ((H0 ++ H1) ++ H2 ++ H3 ++ H4) :=
  ⟨_, _, _, _, _, _, _, _, _, _, _, rfl, rfl, ⟨_, _, _, _, _, _, rfl, rfl, ‹_›, ‹_›, ‹_›⟩, ‹_›, ‹_›, ‹_›, ‹_›⟩
theorem DWorld.rd {w : World} {c : List Value} {x : DWorld} (h : Rd w c x) : ∃ (a0 : Option Addr) (c0 : Nat) (a1 : Option Addr) (c1 : Nat) (a2 : Option Addr) (c2 : Nat) (a3 : Option Addr) (c3 : Nat) (a4 : Option Addr) (c4 : Nat), c = [.bool x.h.shut, .slice a0 x.h.docs.length c0, .slice a1 x.h.subs.length c1, .int .i64 x.h.last, .slice a2 x.locks.length c2, .slice a3 x.queues.length c3, .slice a4 x.tasks.length c4, .int .i64 x.step] ∧ RdS w a0 c0 x.h.docs ∧ RdS w a1 c1 x.h.subs ∧ I64 x.h.last ∧ RdS w a2 c2 x.locks ∧ RdS w a3 c3 x.queues ∧ RdS w a4 c4 x.tasks ∧ I64 x.step := by
  obtain ⟨H, h, hh⟩ := h
  obtain ⟨a0, c0, H0, a1, c1, H1, a2, c2, H2, a3, c3, H3, a4, c4, H4, rfl, rfl, h0, h1, h2, h3, h4, h5, h6⟩ := DWorld.un h
  exact ⟨a0, c0, a1, c1, a2, c2, a3, c3, a4, c4, rfl, ⟨H0, ‹_›, hh.left.left.left.left⟩, ⟨H1, ‹_›, hh.left.left.left.right⟩, ‹_›, ⟨H2, ‹_›, hh.left.left.right⟩, ⟨H3, ‹_›, hh.left.right⟩, ⟨H4, ‹_›, hh.right⟩, ‹_›⟩
theorem DWorld.mk_rd {w : World} {x : DWorld} {a0 : Option Addr} {c0 : Nat} {a1 : Option Addr} {c1 : Nat} {a2 : Option Addr} {c2 : Nat} {a3 : Option Addr} {c3 : Nat} {a4 : Option Addr} {c4 : Nat} (h0 : RdS w a0 c0 x.h.docs) (h1 : RdS w a1 c1 x.h.subs) (h2 : I64 x.h.last) (h3 : RdS w a2 c2 x.locks) (h4 : RdS w a3 c3 x.queues) (h5 : RdS w a4 c4 x.tasks) (h6 : I64 x.step) : Rd w [.bool x.h.shut, .slice a0 x.h.docs.length c0, .slice a1 x.h.subs.length c1, .int .i64 x.h.last, .slice a2 x.locks.length c2, .slice a3 x.queues.length c3, .slice a4 x.tasks.length c4, .int .i64 x.step] x := by
  obtain ⟨H0, k0, m0⟩ := h0
  obtain ⟨H1, k1, m1⟩ := h1
  obtain ⟨H2, k2, m2⟩ := h3
  obtain ⟨H3, k3, m3⟩ := h4
  obtain ⟨H4, k4, m4⟩ := h5
  exact ⟨_, DWorld.re ‹_› ‹_› ‹_› ‹_› ‹_› ‹_› ‹_›, ((((m0.append m1).append m2).append m3).append m4)⟩
theorem RdS.DWorld {w : World} {a : Option Addr} {cap : Nat} {l : List DWorld} (h : RdS w a cap l) {i : Nat} (hi : i < l.length) : ∃ (a0 : Option Addr) (c0 : Nat) (a1 : Option Addr) (c1 : Nat) (a2 : Option Addr) (c2 : Nat) (a3 : Option Addr) (c3 : Nat) (a4 : Option Addr) (c4 : Nat), Holds w (cellsAt (blk a) (ofs a + i * 8) [.bool l[i].h.shut, .slice a0 l[i].h.docs.length c0, .slice a1 l[i].h.subs.length c1, .int .i64 l[i].h.last, .slice a2 l[i].locks.length c2, .slice a3 l[i].queues.length c3, .slice a4 l[i].tasks.length c4, .int .i64 l[i].step]) ∧ RdS w a0 c0 l[i].h.docs ∧ RdS w a1 c1 l[i].h.subs ∧ I64 l[i].h.last ∧ RdS w a2 c2 l[i].locks ∧ RdS w a3 c3 l[i].queues ∧ RdS w a4 c4 l[i].tasks ∧ I64 l[i].step := by
  obtain ⟨c, h1, h2⟩ := h.el hi
  obtain ⟨a0, c0, a1, c1, a2, c2, a3, c3, a4, c4, rfl, h10, h11, h12, h13, h14, h15, h16⟩ := DWorld.rd h2
  exact ⟨a0, c0, a1, c1, a2, c2, a3, c3, a4, c4, h1, h10, h11, h12, h13, h14, h15, h16⟩

structure DRep where
  client : Int
  seq : Int
  rev : Int
  text : List Int
  has : Bool
  sent : List DPart
  buf : List DPart
  deriving DecidableEq
instance : Rep DRep where
  size := 7
  rep c x H := ∃ (a0 : Option Addr) (c0 : Nat) (H0 : Hp) (a1 : Option Addr) (c1 : Nat) (H1 : Hp) (a2 : Option Addr) (c2 : Nat) (H2 : Hp), c = [.int .i64 x.client, .int .i64 x.seq, .int .i64 x.rev, .slice a0 x.text.length c0, .bool x.has, .slice a1 x.sent.length c1, .slice a2 x.buf.length c2] ∧ H0 ++ H1 ++ H2 = H ∧ I64 x.client ∧ I64 x.seq ∧ I64 x.rev ∧ Slc a0 c0 x.text H0 ∧ Slc a1 c1 x.sent H1 ∧ Slc a2 c2 x.buf H2
  len := by
    rintro c x H ⟨a0, c0, H0, a1, c1, H1, a2, c2, H2, rfl, rfl, _, _, _, _, _, _⟩
    rfl
  one := by
    rintro c x H ⟨a0, c0, H0, a1, c1, H1, a2, c2, H2, rfl, rfl, _, _, _, _, _, _⟩
    intro v hv; simp only [List.mem_cons, List.mem_nil_iff, or_false] at hv; rcases hv with rfl | rfl | rfl | rfl | rfl | rfl | rfl <;> rfl
theorem DRep.un {c : List Value} {x : DRep} {H : Hp} (h : rep c x H) : ∃ (a0 : Option Addr) (c0 : Nat) (H0 : Hp) (a1 : Option Addr) (c1 : Nat) (H1 : Hp) (a2 : Option Addr) (c2 : Nat) (H2 : Hp), c = [.int .i64 x.client, .int .i64 x.seq, .int .i64 x.rev, .slice a0 x.text.length c0, .bool x.has, .slice a1 x.sent.length c1, .slice a2 x.buf.length c2] ∧ H0 ++ H1 ++ H2 = H ∧ I64 x.client ∧ I64 x.seq ∧ I64 x.rev ∧ Slc a0 c0 x.text H0 ∧ Slc a1 c1 x.sent H1 ∧ Slc a2 c2 x.buf H2 := by
  obtain ⟨a0, c0, H0, a1, c1, H1, a2, c2, H2, rfl, rfl, i0, i1, i2, s0, s1, s2⟩ := h
  exact ⟨a0, c0, H0, a1, c1, H1, a2, c2, H2, rfl, rfl, ‹_›, ‹_›, ‹_›, ‹_›, ‹_›, ‹_›⟩
theorem DRep.re {x : DRep} {a0 : Option Addr} {c0 : Nat} {H0 : Hp} {a1 : Option Addr} {c1 : Nat} {H1 : Hp} {a2 : Option Addr} {c2 : Nat} {H2 : Hp} (h0 : I64 x.client) (h1 : I64 x.seq) (h2 : I64 x.rev) (h3 : Slc a0 c0 x.text H0) (h4 : Slc a1 c1 x.sent H1) (h5 : Slc a2 c2 x.buf H2) : rep [.int .i64 x.client, .int .i64 x.seq, .int .i64 x.rev, .slice a0 x.text.length c0, .bool x.has, .slice a1 x.sent.length c1, .slice a2 x.buf.length c2] x (H0 ++ H1 ++ H2) :=
  ⟨_, _, _, _, _, _, _, _, _, rfl, rfl, ‹_›, ‹_›, ‹_›, ‹_›, ‹_›, ‹_›⟩
theorem DRep.rd {w : World} {c : List Value} {x : DRep} (h : Rd w c x) : ∃ (a0 : Option Addr) (c0 : Nat) (a1 : Option Addr) (c1 : Nat) (a2 : Option Addr) (c2 : Nat), c = [.int .i64 x.client, .int .i64 x.seq, .int .i64 x.rev, .slice a0 x.text.length c0, .bool x.has, .slice a1 x.sent.length c1, .slice a2 x.buf.length c2] ∧ I64 x.client ∧ I64 x.seq ∧ I64 x.rev ∧ RdS w a0 c0 x.text ∧ RdS w a1 c1 x.sent ∧ RdS w a2 c2 x.buf := by
  obtain ⟨H, h, hh⟩ := h
  obtain ⟨a0, c0, H0, a1, c1, H1, a2, c2, H2, rfl, rfl, h0, h1, h2, h3, h4, h5⟩ := DRep.un h
  exact ⟨a0, c0, a1, c1, a2, c2, rfl, ‹_›, ‹_›, ‹_›, ⟨H0, ‹_›, hh.left.left⟩, ⟨H1, ‹_›, hh.left.right⟩, ⟨H2, ‹_›, hh.right⟩⟩
theorem DRep.mk_rd {w : World} {x : DRep} {a0 : Option Addr} {c0 : Nat} {a1 : Option Addr} {c1 : Nat} {a2 : Option Addr} {c2 : Nat} (h0 : I64 x.client) (h1 : I64 x.seq) (h2 : I64 x.rev) (h3 : RdS w a0 c0 x.text) (h4 : RdS w a1 c1 x.sent) (h5 : RdS w a2 c2 x.buf) : Rd w [.int .i64 x.client, .int .i64 x.seq, .int .i64 x.rev, .slice a0 x.text.length c0, .bool x.has, .slice a1 x.sent.length c1, .slice a2 x.buf.length c2] x := by
  obtain ⟨H0, k0, m0⟩ := h3
  obtain ⟨H1, k1, m1⟩ := h4
  obtain ⟨H2, k2, m2⟩ := h5
  exact ⟨_, DRep.re ‹_› ‹_› ‹_› ‹_› ‹_› ‹_›, ((m0.append m1).append m2)⟩
theorem RdS.DRep {w : World} {a : Option Addr} {cap : Nat} {l : List DRep} (h : RdS w a cap l) {i : Nat} (hi : i < l.length) : ∃ (a0 : Option Addr) (c0 : Nat) (a1 : Option Addr) (c1 : Nat) (a2 : Option Addr) (c2 : Nat), Holds w (cellsAt (blk a) (ofs a + i * 7) [.int .i64 l[i].client, .int .i64 l[i].seq, .int .i64 l[i].rev, .slice a0 l[i].text.length c0, .bool l[i].has, .slice a1 l[i].sent.length c1, .slice a2 l[i].buf.length c2]) ∧ I64 l[i].client ∧ I64 l[i].seq ∧ I64 l[i].rev ∧ RdS w a0 c0 l[i].text ∧ RdS w a1 c1 l[i].sent ∧ RdS w a2 c2 l[i].buf := by
  obtain ⟨c, h1, h2⟩ := h.el hi
  obtain ⟨a0, c0, a1, c1, a2, c2, rfl, h10, h11, h12, h13, h14, h15⟩ := DRep.rd h2
  exact ⟨a0, c0, a1, c1, a2, c2, h1, h10, h11, h12, h13, h14, h15⟩

structure DNet where
  d : DDoc
  reps : List DRep
  deriving DecidableEq
instance : Rep DNet where
  size := 6
  rep c x H := ∃ (d0 : List Value) (H0 : Hp) (a1 : Option Addr) (c1 : Nat) (H1 : Hp), c = d0 ++ [.slice a1 x.reps.length c1] ∧ H0 ++ H1 = H ∧ rep d0 x.d H0 ∧ Slc a1 c1 x.reps H1
  len := by
    rintro c x H ⟨d0, H0, a1, c1, H1, rfl, rfl, r0, _⟩
    simp [Rep.len r0, Rep.size]
  one := by
    rintro c x H ⟨d0, H0, a1, c1, H1, rfl, rfl, r0, _⟩
    exact (one_app (Rep.one r0) (by intro v hv; simp only [List.mem_cons, List.mem_nil_iff, or_false] at hv; subst hv; rfl))
theorem DNet.un {c : List Value} {x : DNet} {H : Hp} (h : rep c x H) : ∃ (a0 : Option Addr) (c0 : Nat) (H0 : Hp) (a1 : Option Addr) (c1 : Nat) (H1 : Hp) (a2 : Option Addr) (c2 : Nat) (H2 : Hp) (a3 : Option Addr) (c3 : Nat) (H3 : Hp), c = [.string x.d.name, .int .i64 x.d.frm, .slice a0 x.d.text.length c0, .slice a1 x.d.list.length c1, .slice a2 x.d.seen.length c2, .slice a3 x.reps.length c3] ∧ (H0 ++ H1 ++ H2) ++ H3 = H ∧ SB x.d.name ∧ I64 x.d.frm ∧ Slc a0 c0 x.d.text H0 ∧ Slc a1 c1 x.d.list H1 ∧ Slc a2 c2 x.d.seen H2 ∧ Slc a3 c3 x.reps H3 := by
  obtain ⟨e0, K0, a3, c3, H3, rfl, rfl, r0, s3⟩ := h
  obtain ⟨a0, c0, H0, a1, c1, H1, a2, c2, H2, rfl, rfl, i0, i1, s0, s1, s2⟩ := r0
  exact ⟨a0, c0, H0, a1, c1, H1, a2, c2, H2, a3, c3, H3, rfl, rfl, ‹_›, ‹_›, ‹_›, ‹_›, ‹_›, ‹_›⟩
theorem DNet.re {x : DNet} {a0 : Option Addr} {c0 : Nat} {H0 : Hp} {a1 : Option Addr} {c1 : Nat} {H1 : Hp} {a2 : Option Addr} {c2 : Nat} {H2 : Hp} {a3 : Option Addr} {c3 : Nat} {H3 : Hp} (h0 : SB x.d.name) (h1 : I64 x.d.frm) (h2 : Slc a0 c0 x.d.text H0) (h3 : Slc a1 c1 x.d.list H1) (h4 : Slc a2 c2 x.d.seen H2) (h5 : Slc a3 c3 x.reps H3) : rep [.string x.d.name, .int .i64 x.d.frm, .slice a0 x.d.text.length c0, .slice a1 x.d.list.length c1, .slice a2 x.d.seen.length c2, .slice a3 x.reps.length c3] x ((H0 ++ H1 ++ H2) ++ H3) :=
  ⟨_, _, _, _, _, rfl, rfl, ⟨_, _, _, _, _, _, _, _, _, rfl, rfl, ‹_›, ‹_›, ‹_›, ‹_›, ‹_›⟩, ‹_›⟩
theorem DNet.rd {w : World} {c : List Value} {x : DNet} (h : Rd w c x) : ∃ (a0 : Option Addr) (c0 : Nat) (a1 : Option Addr) (c1 : Nat) (a2 : Option Addr) (c2 : Nat) (a3 : Option Addr) (c3 : Nat), c = [.string x.d.name, .int .i64 x.d.frm, .slice a0 x.d.text.length c0, .slice a1 x.d.list.length c1, .slice a2 x.d.seen.length c2, .slice a3 x.reps.length c3] ∧ SB x.d.name ∧ I64 x.d.frm ∧ RdS w a0 c0 x.d.text ∧ RdS w a1 c1 x.d.list ∧ RdS w a2 c2 x.d.seen ∧ RdS w a3 c3 x.reps := by
  obtain ⟨H, h, hh⟩ := h
  obtain ⟨a0, c0, H0, a1, c1, H1, a2, c2, H2, a3, c3, H3, rfl, rfl, h0, h1, h2, h3, h4, h5⟩ := DNet.un h
  exact ⟨a0, c0, a1, c1, a2, c2, a3, c3, rfl, ‹_›, ‹_›, ⟨H0, ‹_›, hh.left.left.left⟩, ⟨H1, ‹_›, hh.left.left.right⟩, ⟨H2, ‹_›, hh.left.right⟩, ⟨H3, ‹_›, hh.right⟩⟩
theorem DNet.mk_rd {w : World} {x : DNet} {a0 : Option Addr} {c0 : Nat} {a1 : Option Addr} {c1 : Nat} {a2 : Option Addr} {c2 : Nat} {a3 : Option Addr} {c3 : Nat} (h0 : SB x.d.name) (h1 : I64 x.d.frm) (h2 : RdS w a0 c0 x.d.text) (h3 : RdS w a1 c1 x.d.list) (h4 : RdS w a2 c2 x.d.seen) (h5 : RdS w a3 c3 x.reps) : Rd w [.string x.d.name, .int .i64 x.d.frm, .slice a0 x.d.text.length c0, .slice a1 x.d.list.length c1, .slice a2 x.d.seen.length c2, .slice a3 x.reps.length c3] x := by
  obtain ⟨H0, k0, m0⟩ := h2
  obtain ⟨H1, k1, m1⟩ := h3
  obtain ⟨H2, k2, m2⟩ := h4
  obtain ⟨H3, k3, m3⟩ := h5
  exact ⟨_, DNet.re ‹_› ‹_› ‹_› ‹_› ‹_› ‹_›, (((m0.append m1).append m2).append m3)⟩
theorem RdS.DNet {w : World} {a : Option Addr} {cap : Nat} {l : List DNet} (h : RdS w a cap l) {i : Nat} (hi : i < l.length) : ∃ (a0 : Option Addr) (c0 : Nat) (a1 : Option Addr) (c1 : Nat) (a2 : Option Addr) (c2 : Nat) (a3 : Option Addr) (c3 : Nat), Holds w (cellsAt (blk a) (ofs a + i * 6) [.string l[i].d.name, .int .i64 l[i].d.frm, .slice a0 l[i].d.text.length c0, .slice a1 l[i].d.list.length c1, .slice a2 l[i].d.seen.length c2, .slice a3 l[i].reps.length c3]) ∧ SB l[i].d.name ∧ I64 l[i].d.frm ∧ RdS w a0 c0 l[i].d.text ∧ RdS w a1 c1 l[i].d.list ∧ RdS w a2 c2 l[i].d.seen ∧ RdS w a3 c3 l[i].reps := by
  obtain ⟨c, h1, h2⟩ := h.el hi
  obtain ⟨a0, c0, a1, c1, a2, c2, a3, c3, rfl, h10, h11, h12, h13, h14, h15⟩ := DNet.rd h2
  exact ⟨a0, c0, a1, c1, a2, c2, a3, c3, h1, h10, h11, h12, h13, h14, h15⟩

structure DEvent where
  kind : Int
  who : Int
  n : Int
  o : List DPart
  deriving DecidableEq
instance : Rep DEvent where
  size := 4
  rep c x H := ∃ (a0 : Option Addr) (c0 : Nat) (H0 : Hp), c = [.int .i64 x.kind, .int .i64 x.who, .int .i64 x.n, .slice a0 x.o.length c0] ∧ H0 = H ∧ I64 x.kind ∧ I64 x.who ∧ I64 x.n ∧ Slc a0 c0 x.o H0
  len := by
    rintro c x H ⟨a0, c0, H0, rfl, rfl, _, _, _, _⟩
    rfl
  one := by
    rintro c x H ⟨a0, c0, H0, rfl, rfl, _, _, _, _⟩
    intro v hv; simp only [List.mem_cons, List.mem_nil_iff, or_false] at hv; rcases hv with rfl | rfl | rfl | rfl <;> rfl
theorem DEvent.un {c : List Value} {x : DEvent} {H : Hp} (h : rep c x H) : ∃ (a0 : Option Addr) (c0 : Nat) (H0 : Hp), c = [.int .i64 x.kind, .int .i64 x.who, .int .i64 x.n, .slice a0 x.o.length c0] ∧ H0 = H ∧ I64 x.kind ∧ I64 x.who ∧ I64 x.n ∧ Slc a0 c0 x.o H0 := by
  obtain ⟨a0, c0, H0, rfl, rfl, i0, i1, i2, s0⟩ := h
  exact ⟨a0, c0, H0, rfl, rfl, ‹_›, ‹_›, ‹_›, ‹_›⟩
theorem DEvent.re {x : DEvent} {a0 : Option Addr} {c0 : Nat} {H0 : Hp} (h0 : I64 x.kind) (h1 : I64 x.who) (h2 : I64 x.n) (h3 : Slc a0 c0 x.o H0) : rep [.int .i64 x.kind, .int .i64 x.who, .int .i64 x.n, .slice a0 x.o.length c0] x (H0) :=
  ⟨_, _, _, rfl, rfl, ‹_›, ‹_›, ‹_›, ‹_›⟩
theorem DEvent.rd {w : World} {c : List Value} {x : DEvent} (h : Rd w c x) : ∃ (a0 : Option Addr) (c0 : Nat), c = [.int .i64 x.kind, .int .i64 x.who, .int .i64 x.n, .slice a0 x.o.length c0] ∧ I64 x.kind ∧ I64 x.who ∧ I64 x.n ∧ RdS w a0 c0 x.o := by
  obtain ⟨H, h, hh⟩ := h
  obtain ⟨a0, c0, H0, rfl, rfl, h0, h1, h2, h3⟩ := DEvent.un h
  exact ⟨a0, c0, rfl, ‹_›, ‹_›, ‹_›, ⟨H0, ‹_›, hh⟩⟩
theorem DEvent.mk_rd {w : World} {x : DEvent} {a0 : Option Addr} {c0 : Nat} (h0 : I64 x.kind) (h1 : I64 x.who) (h2 : I64 x.n) (h3 : RdS w a0 c0 x.o) : Rd w [.int .i64 x.kind, .int .i64 x.who, .int .i64 x.n, .slice a0 x.o.length c0] x := by
  obtain ⟨H0, k0, m0⟩ := h3
  exact ⟨_, DEvent.re ‹_› ‹_› ‹_› ‹_›, m0⟩
theorem RdS.DEvent {w : World} {a : Option Addr} {cap : Nat} {l : List DEvent} (h : RdS w a cap l) {i : Nat} (hi : i < l.length) : ∃ (a0 : Option Addr) (c0 : Nat), Holds w (cellsAt (blk a) (ofs a + i * 4) [.int .i64 l[i].kind, .int .i64 l[i].who, .int .i64 l[i].n, .slice a0 l[i].o.length c0]) ∧ I64 l[i].kind ∧ I64 l[i].who ∧ I64 l[i].n ∧ RdS w a0 c0 l[i].o := by
  obtain ⟨c, h1, h2⟩ := h.el hi
  obtain ⟨a0, c0, rfl, h10, h11, h12, h13⟩ := DEvent.rd h2
  exact ⟨a0, c0, h1, h10, h11, h12, h13⟩

structure DDesk where
  h : DHub
  n : DNet
  deriving DecidableEq
instance : Rep DDesk where
  size := 10
  rep c x H := ∃ (d0 : List Value) (H0 : Hp) (d1 : List Value) (H1 : Hp), c = d0 ++ d1 ∧ H0 ++ H1 = H ∧ rep d0 x.h H0 ∧ rep d1 x.n H1
  len := by
    rintro c x H ⟨d0, H0, d1, H1, rfl, rfl, r0, r1⟩
    simp [Rep.len r0, Rep.len r1, Rep.size]
  one := by
    rintro c x H ⟨d0, H0, d1, H1, rfl, rfl, r0, r1⟩
    exact (one_app (Rep.one r0) (Rep.one r1))
theorem DDesk.un {c : List Value} {x : DDesk} {H : Hp} (h : rep c x H) : ∃ (a0 : Option Addr) (c0 : Nat) (H0 : Hp) (a1 : Option Addr) (c1 : Nat) (H1 : Hp) (a2 : Option Addr) (c2 : Nat) (H2 : Hp) (a3 : Option Addr) (c3 : Nat) (H3 : Hp) (a4 : Option Addr) (c4 : Nat) (H4 : Hp) (a5 : Option Addr) (c5 : Nat) (H5 : Hp), c = [.bool x.h.shut, .slice a0 x.h.docs.length c0, .slice a1 x.h.subs.length c1, .int .i64 x.h.last, .string x.n.d.name, .int .i64 x.n.d.frm, .slice a2 x.n.d.text.length c2, .slice a3 x.n.d.list.length c3, .slice a4 x.n.d.seen.length c4, .slice a5 x.n.reps.length c5] ∧ (H0 ++ H1) ++ ((H2 ++ H3 ++ H4) ++ H5) = H ∧ Slc a0 c0 x.h.docs H0 ∧ Slc a1 c1 x.h.subs H1 ∧ I64 x.h.last ∧ SB x.n.d.name ∧ I64 x.n.d.frm ∧ Slc a2 c2 x.n.d.text H2 ∧ Slc a3 c3 x.n.d.list H3 ∧ Slc a4 c4 x.n.d.seen H4 ∧ Slc a5 c5 x.n.reps H5 := by
  obtain ⟨e0, K0, e1, K1, rfl, rfl, r0, r1⟩ := h
  obtain ⟨a0, c0, H0, a1, c1, H1, rfl, rfl, s0, s1, i0⟩ := r0
  obtain ⟨e2, K2, a5, c5, H5, rfl, rfl, r2, s5⟩ := r1
  obtain ⟨a2, c2, H2, a3, c3, H3, a4, c4, H4, rfl, rfl, i1, i2, s2, s3, s4⟩ := r2
  exact ⟨a0, c0, H0, a1, c1, H1, a2, c2, H2, a3, c3, H3, a4, c4, H4, a5, c5, H5, rfl, rfl, ‹_›, ‹_›, ‹_›, ‹_›, ‹_›, ‹_›, ‹_›, ‹_›, ‹_›⟩
theorem DDesk.re {x : DDesk} {a0 : Option Addr} {c0 : Nat} {H0 : Hp} {a1 : Option Addr} {c1 : Nat} {H1 : Hp} {a2 : Option Addr} {c2 : Nat} {H2 : Hp} {a3 : Option Addr} {c3 : Nat} {H3 : Hp} {a4 : Option Addr} {c4 : Nat} {H4 : Hp} {a5 : Option Addr} {c5 : Nat} {H5 : Hp} (h0 : Slc a0 c0 x.h.docs H0) (h1 : Slc a1 c1 x.h.subs H1) (h2 : I64 x.h.last) (h3 : SB x.n.d.name) (h4 : I64 x.n.d.frm) (h5 : Slc a2 c2 x.n.d.text H2) (h6 : Slc a3 c3 x.n.d.list H3) (h7 : Slc a4 c4 x.n.d.seen H4) (h8 : Slc a5 c5 x.n.reps H5) : rep [.bool x.h.shut, .slice a0 x.h.docs.length c0, .slice a1 x.h.subs.length c1, .int .i64 x.h.last, .string x.n.d.name, .int .i64 x.n.d.frm, .slice a2 x.n.d.text.length c2, .slice a3 x.n.d.list.length c3, .slice a4 x.n.d.seen.length c4, .slice a5 x.n.reps.length c5] x ((H0 ++ H1) ++ ((H2 ++ H3 ++ H4) ++ H5)) :=
  ⟨_, _, _, _, rfl, rfl, ⟨_, _, _, _, _, _, rfl, rfl, ‹_›, ‹_›, ‹_›⟩, ⟨_, _, _, _, _, rfl, rfl, ⟨_, _, _, _, _, _, _, _, _, rfl, rfl, ‹_›, ‹_›, ‹_›, ‹_›, ‹_›⟩, ‹_›⟩⟩
theorem DDesk.rd {w : World} {c : List Value} {x : DDesk} (h : Rd w c x) : ∃ (a0 : Option Addr) (c0 : Nat) (a1 : Option Addr) (c1 : Nat) (a2 : Option Addr) (c2 : Nat) (a3 : Option Addr) (c3 : Nat) (a4 : Option Addr) (c4 : Nat) (a5 : Option Addr) (c5 : Nat), c = [.bool x.h.shut, .slice a0 x.h.docs.length c0, .slice a1 x.h.subs.length c1, .int .i64 x.h.last, .string x.n.d.name, .int .i64 x.n.d.frm, .slice a2 x.n.d.text.length c2, .slice a3 x.n.d.list.length c3, .slice a4 x.n.d.seen.length c4, .slice a5 x.n.reps.length c5] ∧ RdS w a0 c0 x.h.docs ∧ RdS w a1 c1 x.h.subs ∧ I64 x.h.last ∧ SB x.n.d.name ∧ I64 x.n.d.frm ∧ RdS w a2 c2 x.n.d.text ∧ RdS w a3 c3 x.n.d.list ∧ RdS w a4 c4 x.n.d.seen ∧ RdS w a5 c5 x.n.reps := by
  obtain ⟨H, h, hh⟩ := h
  obtain ⟨a0, c0, H0, a1, c1, H1, a2, c2, H2, a3, c3, H3, a4, c4, H4, a5, c5, H5, rfl, rfl, h0, h1, h2, h3, h4, h5, h6, h7, h8⟩ := DDesk.un h
  exact ⟨a0, c0, a1, c1, a2, c2, a3, c3, a4, c4, a5, c5, rfl, ⟨H0, ‹_›, hh.left.left⟩, ⟨H1, ‹_›, hh.left.right⟩, ‹_›, ‹_›, ‹_›, ⟨H2, ‹_›, hh.right.left.left.left⟩, ⟨H3, ‹_›, hh.right.left.left.right⟩, ⟨H4, ‹_›, hh.right.left.right⟩, ⟨H5, ‹_›, hh.right.right⟩⟩
theorem DDesk.mk_rd {w : World} {x : DDesk} {a0 : Option Addr} {c0 : Nat} {a1 : Option Addr} {c1 : Nat} {a2 : Option Addr} {c2 : Nat} {a3 : Option Addr} {c3 : Nat} {a4 : Option Addr} {c4 : Nat} {a5 : Option Addr} {c5 : Nat} (h0 : RdS w a0 c0 x.h.docs) (h1 : RdS w a1 c1 x.h.subs) (h2 : I64 x.h.last) (h3 : SB x.n.d.name) (h4 : I64 x.n.d.frm) (h5 : RdS w a2 c2 x.n.d.text) (h6 : RdS w a3 c3 x.n.d.list) (h7 : RdS w a4 c4 x.n.d.seen) (h8 : RdS w a5 c5 x.n.reps) : Rd w [.bool x.h.shut, .slice a0 x.h.docs.length c0, .slice a1 x.h.subs.length c1, .int .i64 x.h.last, .string x.n.d.name, .int .i64 x.n.d.frm, .slice a2 x.n.d.text.length c2, .slice a3 x.n.d.list.length c3, .slice a4 x.n.d.seen.length c4, .slice a5 x.n.reps.length c5] x := by
  obtain ⟨H0, k0, m0⟩ := h0
  obtain ⟨H1, k1, m1⟩ := h1
  obtain ⟨H2, k2, m2⟩ := h5
  obtain ⟨H3, k3, m3⟩ := h6
  obtain ⟨H4, k4, m4⟩ := h7
  obtain ⟨H5, k5, m5⟩ := h8
  exact ⟨_, DDesk.re ‹_› ‹_› ‹_› ‹_› ‹_› ‹_› ‹_› ‹_› ‹_›, ((m0.append m1).append (((m2.append m3).append m4).append m5))⟩
theorem RdS.DDesk {w : World} {a : Option Addr} {cap : Nat} {l : List DDesk} (h : RdS w a cap l) {i : Nat} (hi : i < l.length) : ∃ (a0 : Option Addr) (c0 : Nat) (a1 : Option Addr) (c1 : Nat) (a2 : Option Addr) (c2 : Nat) (a3 : Option Addr) (c3 : Nat) (a4 : Option Addr) (c4 : Nat) (a5 : Option Addr) (c5 : Nat), Holds w (cellsAt (blk a) (ofs a + i * 10) [.bool l[i].h.shut, .slice a0 l[i].h.docs.length c0, .slice a1 l[i].h.subs.length c1, .int .i64 l[i].h.last, .string l[i].n.d.name, .int .i64 l[i].n.d.frm, .slice a2 l[i].n.d.text.length c2, .slice a3 l[i].n.d.list.length c3, .slice a4 l[i].n.d.seen.length c4, .slice a5 l[i].n.reps.length c5]) ∧ RdS w a0 c0 l[i].h.docs ∧ RdS w a1 c1 l[i].h.subs ∧ I64 l[i].h.last ∧ SB l[i].n.d.name ∧ I64 l[i].n.d.frm ∧ RdS w a2 c2 l[i].n.d.text ∧ RdS w a3 c3 l[i].n.d.list ∧ RdS w a4 c4 l[i].n.d.seen ∧ RdS w a5 c5 l[i].n.reps := by
  obtain ⟨c, h1, h2⟩ := h.el hi
  obtain ⟨a0, c0, a1, c1, a2, c2, a3, c3, a4, c4, a5, c5, rfl, h10, h11, h12, h13, h14, h15, h16, h17, h18⟩ := DDesk.rd h2
  exact ⟨a0, c0, a1, c1, a2, c2, a3, c3, a4, c4, a5, c5, h1, h10, h11, h12, h13, h14, h15, h16, h17, h18⟩

end Go.Proofs.YtiobmbicldjikaaGreatDoor
