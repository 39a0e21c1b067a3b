/- New slices of zero elements; whole elements stored. No condition. -/
import Derived.Test.YtiobmbicldjikaaGreatDoorRun

set_option linter.unusedVariables false

namespace Go.Proofs.YtiobmbicldjikaaGreatDoor

open Go.RowKit (Below)

theorem Elems.zeros {α : Type} [Rep α] {z : Array Value} {x : α} (hz : rep z.toList x []) : ∀ k, Elems (madeCells z (k * z.size)).toList (List.replicate k x) []
  | 0 => by simpa [madeCells] using (Elems.nil (α := α))
  | k + 1 => by
    have h := (Elems.zeros hz k).append (Elems.single hz)
    rw [List.replicate_succ']
    have e : (madeCells z ((k + 1) * z.size)).toList = (madeCells z (k * z.size)).toList ++ z.toList := by
      simp only [madeCells, Array.toList_map, Array.toList_range]
      rw [Nat.add_mul, Nat.one_mul, List.range_add, List.map_append, List.map_map]
      congr 1
      apply List.ext_getElem
      · simp
      · intro i h1 h2
        have hi : i < z.size := by simpa using h1
        simp only [List.getElem_map, List.getElem_range, Function.comp]
        have hm : (k * z.size + i) % z.size = i := by rw [Nat.add_comm, Nat.add_mul_mod_self_right, Nat.mod_eq_of_lt hi]
        rw [hm, getElem!_pos z i hi, Array.getElem_toList]
    rw [e]
    simpa using h
section

variable {P : Program} {ops : Array Oper} {Q : Exit → Act → World → Prop} {W : World} {n : Nat} {rest : List Oper} {e : Env} {L : List Hp} {o : Oper}

/-- 'make([]T, m)'. -/
theorem j_make {α : Type} [Rep α] (x : α) {d : Nat} {t el : TypeId} {bts sz : Nat} {zv : Value} [ht : ApT P t el sz bts zv] {s c : Operand} {m : Nat} (hx : rep zv.cells.toList x []) (hm : m ≤ 2147483648)
    (h : ∀ b H, Slc (some ⟨b, 0, none⟩) m (List.replicate m x) H → J P ops Q W n rest ((d, .slice (some ⟨b, 0, none⟩) m m) :: e) (H :: L))
    (hd : o.dst = some d := by rfl) (ho : o.op = .makeSlice t s c := by rfl) (hs : e.ev s = some (.int .i64 (m : Int)) := by rfl) (hc : e.ev c = some (.int .i64 (m : Int)) := by rfl)
    (hn : Nat.blt d n = true := by rfl) (hg : Wants ops e o.guard := by first | exact .none | exact .some rfl rfl rfl rfl | exact .some rfl rfl rfl (by assumption) | fail) : J P ops Q W n (o :: rest) e L := by
  obtain ⟨i, hi, hz, hsz, hbt⟩ := ht.parts
  have hlen : zv.cells.size = sz := ht.zsz
  have hb : i.bytes * m ≤ 281474976710656 := by rw [hbt]; have h1 := ht.small; have := Nat.mul_le_mul h1 hm; omega
  have hS : ∀ b, Slc (some ⟨b, 0, none⟩) m (List.replicate m x) (cellsAt b 0 ((madeCells zv.cells (m * zv.cells.size)).toList ++ []) ++ []) := fun b =>
    (.inr ⟨b, 0, _, [], [], rfl, ⟨Nat.le_of_eq (List.length_replicate ..), by omega⟩, (by rw [List.length_replicate, Nat.sub_self, Nat.zero_mul]; rfl), (fun v hv => by cases hv), Elems.zeros hx m, rfl⟩)
  refine j_w (ι := { y : Nat × Hp // Slc (some ⟨y.1, 0, none⟩) m (List.replicate m x) y.2 }) (val := fun y => .slice (some ⟨y.1.1, 0, none⟩) m m) (M := fun y => y.1.2 :: L) hd hn hg (fun ac w ha hw => ?_) (fun y => h _ _ y.2)
  refine ⟨⟨(w.heap.size, _), hS w.heap.size⟩, w.alloc (.cells (madeCells zv.cells (m * zv.cells.size)) el), ?_, ?_⟩
  · have h1 := run_make (P := P) w t el i zv ht.und hi hz .i64 .i64 (m : Int) (m : Int) (by omega) (Int.le_refl _) (by rw [← Int.natCast_mul]; omega) (by omega)
    rw [Int.toNat_natCast, hsz, ← hlen] at h1
    simp only [execOp, ho, ha.ev hs, ha.ev hc, Sem.run_bind, h1, Result.andThen_ok]
    rfl
  · have := hw.alloc (madeCells zv.cells (m * zv.cells.size)).toList el
    simpa using this
/-- A whole element is written over. -/
theorem j_storeEl {α : Type} [Rep α] {t : TypeId} {p x : Operand} {ag : Bool} {v : Value} {a : Option Addr} {cap i sz : Nat} {l : List α} {H Hn : Hp} {c' : List Value} {x' : α} {L1 L2 : List Hp} [ht : TI P t ag (Rep.size α)]
    (hS : Slc a cap l H) (hi : i < l.length) (hx' : rep c' x' Hn)
    (h : ∀ H', Slc a cap (l.set i x') H' → J P ops Q W n rest e (H' :: L2))
    (h1 : Rm H L L1 := by repeat (first | exact .here | exact .e rfl | apply Rm.there)) (h2 : Rm Hn L1 L2 := by repeat (first | exact .here | exact .e rfl | apply Rm.there))
    (hd : o.dst = none := by rfl) (ho : o.op = .store t p x := by rfl) (hp : e.ev p = some (.pointer (some ⟨blk a, (ofs a + i * sz) + 0, none⟩)) := by rfl) (hsz : sz = Rep.size α := by rfl) (hx : e.ev x = some v := by rfl) (hv : v.cells = c'.toArray := by rfl)
    (hg : Wants ops e o.guard := by first | exact .none | exact .some rfl rfl rfl rfl | exact .some rfl rfl rfl (by assumption) | fail) : J P ops Q W n (o :: rest) e L := by
  subst hsz
  obtain ⟨c, Hx, R, hc, op, cl⟩ := hS.opj hi
  obtain ⟨H', hS', cl'⟩ := cl c' x' Hn hx'
  have hlc := Rep.len hc
  have hlc' := Rep.len hx'
  refine j_s (L' := H' :: L2) hd hg (fun ac w ha hw => ?_) (h H' hS')
  have hw1 : St W w (H :: Hn :: L2) := (hw.rm h1).perm (by simp only [List.flatten_cons]; exact (List.Perm.refl H).append h2.perm)
  have hw2 := op _ _ _ hw1
  have hrp : Rp 0 c' c c' := by
    have : ∀ (c' c : List Value), c'.length = c.length → Rp 0 c' c c' := by
      intro c'
      induction c' with
      | nil => intro c h; obtain rfl := List.eq_nil_of_length_eq_zero h.symm; exact .done
      | cons y c' ih =>
        intro c h
        cases c with
        | nil => simp at h
        | cons z c => exact .put (ih c (by simpa using h))
    exact this c' c (by rw [hlc, hlc'])
  obtain ⟨w', hrun, hs'⟩ := hw2.store (P := P) (k := 0) (.here) hrp (Rep.one hx')
  have hs3 : St W w' (Hx :: cellsAt (blk a) (ofs a + i * Rep.size α) c' :: Hn :: R :: L2) := hs'.perm (by
    simp only [List.flatten_cons]
    refine (List.perm_append_comm_assoc _ _ _).trans ((List.Perm.refl Hx).append ((List.Perm.refl _).append ?_))
    exact List.perm_append_comm_assoc _ _ _)
  refine ⟨w', ?_, cl' _ _ _ hs3.drop⟩
  have hne : ¬ c'.toArray.size ≠ Rep.size α := by simp [hlc']
  simp only [execOp, ho, ha.ev hp, ha.ev hx, Instr.storeAt, Instr.sureAddr, storeVar, Sem.run_bind, Sem.run_pure, Result.andThen_ok, ht.size, if_neg hne, hv, hrun]
end

theorem set_tk {α : Type} (l : List α) (z : α) {k : Nat} (h : k < l.length) : (l.take k ++ List.replicate (l.length - k) z).set k l[k] = l.take (k + 1) ++ List.replicate (l.length - (k + 1)) z := by
  rw [List.set_append_right _ _ (by simp; omega)]
  rw [show k - (List.take k l).length = 0 by simp; omega]
  rw [show l.length - k = (l.length - (k + 1)) + 1 by omega, List.replicate_succ, List.set_cons_zero, List.take_succ_eq_append_getElem h, List.append_assoc, List.singleton_append]
theorem len_tk {α : Type} (l : List α) (z : α) {k : Nat} (h : k ≤ l.length) : (l.take k ++ List.replicate (l.length - k) z).length = l.length := by simp; omega
theorem St.flat {W w : World} {L L' : List Hp} (h : St W w L) (hf : L.flatten = L'.flatten) : St W w L' := h.perm (hf ▸ List.Perm.refl _)
/-- A return of values, with pieces that are one piece for the caller. -/
theorem jx_rmf {P : Program} {W : World} {e : Env} {L : List Hp} {n : Nat} {fn : Func} {rs : List ResultVar} {vs : List Value} {R : Value → List Hp → Prop} (M M' : List Hp) (h : R (resV vs) M') (hm : M.flatten = M'.flatten := by simp) (hs : Sel M L := by repeat (first | exact .nil | apply Sel.cons (by repeat (first | exact .here | exact .e rfl | apply Rm.there)))) (hf : fn.results = rs.toArray := by rfl)
    (hr : ResL P W e L rs vs := by repeat (first | exact .nil | apply ResL.tmp rfl | apply ResL.cell rfl (by first | exact src_box (by repeat (first | exact .here | apply InL.there)) | exact src_old (by assumption) | exact src_sub (by assumption) (by repeat (first | exact .here | apply InL.there)) | fail) (by repeat constructor) (by constructor))) : JX (bodyPost P fn (RetR R W)) .ret W n e L := by
  have k : JX (bodyPost P fn (RetR (fun v L' => v = resV vs ∧ L' = L) W)) .ret W n e L := jx_rt ⟨rfl, rfl⟩ hf hr
  refine ⟨fun a w ha hw => ?_⟩
  obtain ⟨h1, v, h2, v', M1, h3, h4, h5, h6⟩ := k.run a w ha hw
  subst h6
  cases h3
  subst h5
  exact ⟨h1, _, h2, _, M', rfl, (h4.sel hs).flat hm, h⟩
structure TIx where
  k : Nat
  H : Hp
theorem ret_i {x y : Int} (h : x = y) : resV [Value.int .i64 x] = Value.int .i64 y := by rw [h]; rfl
theorem ret_b {x y : Bool} (h : x = y) : resV [Value.bool x] = Value.bool y := by rw [h]; rfl
theorem take_ne {α : Type} {a b : List α} {k : Nat} (ha : k < a.length) (hb : k < b.length) (h : a[k] ≠ b[k]) : a ≠ b := fun e => by subst e; exact h rfl
theorem take_eq_succ {α : Type} {a b : List α} {k : Nat} (ha : k < a.length) (hb : k < b.length) (ht : a.take k = b.take k) (h : a[k] = b[k]) : a.take (k + 1) = b.take (k + 1) := by
  rw [List.take_succ_eq_append_getElem ha, List.take_succ_eq_append_getElem hb, ht, h]
theorem take_eq_all {α : Type} {a b : List α} {k : Nat} (hl : a.length = b.length) (ha : ¬ k < a.length) (ht : a.take k = b.take k) : a = b := by
  rwa [List.take_of_length_le (by omega), List.take_of_length_le (by omega)] at ht
end Go.Proofs.YtiobmbicldjikaaGreatDoor
