/- Operations that build, append, make functions; functions that change their caller's memory. No condition. -/
import Derived.Test.YtiobmbicldjikaaGreatDoorOps
set_option linter.unusedVariables false
namespace Go.Proofs.YtiobmbicldjikaaGreatDoor
open Go.RowKit (Below)

/-! ### Structs out of their parts -/
class BdT (P : Program) (t : TypeId) (pl : outParam (List (Nat × Nat))) (z : outParam (List Value)) : Prop where
  ok : ∀ w parts cs, Instr.fill (fun i => pl[i]?) z.toArray parts = some cs → (Instr.build t parts.toArray).run P w = .ok (.agg cs) w
theorem bdT_of {P : Program} {t : TypeId} {fs : Array Field} {pl : List (Nat × Nat)} {z : List Value} {zv : Value} (hu : P.underlying t = some (.struct fs)) (hz : ∀ w, (zeroValue t).run P w = .ok zv w) (hzc : zv.cells = z.toArray)
    (hp : ∀ w, (fs.mapM (m := Sem) fun f => do pure (f.offset, ← sizeOf f.type)).run P w = .ok pl.toArray w) : BdT P t pl z := ⟨fun w parts cs h => by
  have e : (fun (i : Nat) => pl.toArray[i]?) = (fun (i : Nat) => pl[i]?) := by funext i; simp
  simp only [Instr.build, Sem.run_bind, hz, Result.andThen_ok, run_underlying hu, hp, hzc, e, h, Sem.run_pure]⟩
theorem rp_fold {k : Nat} {ns vs us : List Value} (h : Rp k ns vs us) : (ns.toArray.zipIdx.foldl (fun cs (c, j) => cs.setIfInBounds (k + j) c) vs.toArray) = us.toArray := by
  obtain ⟨old, pre, post, rfl, rfl, rfl, h4⟩ := h.spec
  have key : ∀ (ns old pre post : List Value) (o : Nat), old.length = ns.length → ((ns.zipIdx o).foldl (fun (cs : Array Value) (x : Value × Nat) => cs.setIfInBounds (pre.length + x.2) x.1) (pre ++ (List.replicate 0 undef) ++ post).toArray) = ((ns.zipIdx o).foldl (fun (cs : Array Value) (x : Value × Nat) => cs.setIfInBounds (pre.length + x.2) x.1) (pre ++ post).toArray) := by intros; simp
  have main : ∀ (ns old : List Value) (pre post : List Value) (o : Nat) (a : Nat), old.length = ns.length → a + o = pre.length → ((ns.zipIdx o).foldl (fun (cs : Array Value) (x : Value × Nat) => cs.setIfInBounds (a + x.2) x.1) (pre ++ old ++ post).toArray) = (pre ++ ns ++ post).toArray := by
    intro ns
    induction ns with
    | nil => intro old pre post o a hl _; obtain rfl := List.eq_nil_of_length_eq_zero (by simpa using hl); simp
    | cons x ns ih =>
      intro old pre post o a hl ha
      cases old with
      | nil => simp at hl
      | cons y old =>
        have h1 := ih old (pre ++ [x]) post (o + 1) a (by simpa using hl) (by simp; omega)
        simp only [List.zipIdx_cons, List.foldl_cons]
        have : (pre ++ (y :: old) ++ post).toArray.setIfInBounds (a + o) x = (pre ++ [x] ++ old ++ post).toArray := by
          rw [ha]; simp
        rw [this, h1]; simp
  have := main ns old pre post 0 pre.length h4 (by simp)
  simpa using this
/-- What the parts make of the zero value's cells. -/
inductive Bld (pl : List (Nat × Nat)) (e : Env) : List (Nat × Operand) → List Value → List Value → Prop
  | nil {z} : Bld pl e [] z z
  | cons {f x v ns off m z z1 z2 rest} : pl[f]? = some (off, m) → e.ev x = some v → v.cells = ns.toArray → ns.length = m → Rp off ns z z1 → Bld pl e rest z1 z2 → Bld pl e ((f, x) :: rest) z z2
section
variable {P : Program} {ops : Array Oper} {Q : Exit → Act → World → Prop} {W : World} {n : Nat} {rest : List Oper} {e : Env} {L : List Hp} {o : Oper}
theorem Bld.fill {pl : List (Nat × Nat)} {a : Act} (ha : Agree n e a) {parts : List (Nat × Operand)} {z cs : List Value} (h : Bld pl e parts z cs) : Instr.fill (fun i => pl[i]?) z.toArray (parts.map fun (i, x) => (i, a.eval x)) = some cs.toArray := by
  induction h with
  | nil => rfl
  | @cons f x v ns off m z z1 z2 rest hp hx hv hm hr _ ih =>
    simp only [List.map_cons, ha.ev hx, Instr.fill, hp]
    have hl : (decide (v.cells.size ≠ m) || decide (off + v.cells.size > z.toArray.size)) = false := by
      obtain ⟨old, pre, post, rfl, rfl, rfl, h4⟩ := hr.spec
      simp [hv, hm]; omega
    rw [hl, hv, rp_fold hr]
    exact ih
theorem q_build {t : TypeId} {ps : List (Nat × Operand)} {pl : List (Nat × Nat)} {z cs : List Value} (ho : o.op = .build t ps.toArray) [h : BdT P t pl z] (hb : Bld pl e ps z cs) : QOp P o W n e L (.agg cs.toArray) := .mk fun a w ha hs => by
  have h1 := h.ok w (ps.map fun (i, x) => (i, a.eval x)) _ (hb.fill ha)
  simp [execOp, ho, h1]
theorem j_build {d : Nat} {v : Value} (h : J P ops Q W n rest ((d, v) :: e) L) (hd : o.dst = some d := by rfl)
    (hq : QOp P o W n e L v := by first | (show QOp _ ⟨_, .build _ _, _, _, _, _⟩ _ _ _ _ _; exact q_build rfl (by repeat (first | exact .nil | apply Bld.cons rfl rfl rfl rfl (by repeat constructor) | fail))) | fail) (hn : Nat.blt d n = true := by rfl) (hg : Wants ops e o.guard := by first | exact .none | exact .some rfl rfl rfl rfl | exact .some rfl rfl rfl (by assumption) | fail) : J P ops Q W n (o :: rest) e L :=
  j_q h hq hd hn hg

/-! ### Slices out of their elements -/
/-- The elements, each written out. -/
inductive Els (m : Nat) (e : Env) : Nat → List (Nat × Operand) → List Value → Prop
  | nil {k} : Els m e k [] []
  | cons {k x v ns rest cs} : e.ev x = some v → v.cells = ns.toArray → ns.length = m → Els m e (k + 1) rest cs → Els m e k ((k, x) :: rest) (ns ++ cs)
theorem Els.len {m : Nat} {k : Nat} {ps : List (Nat × Operand)} {cs : List Value} (h : Els m e k ps cs) : cs.length = ps.length * m := by
  induction h with
  | nil => simp
  | cons _ _ hl _ ih => simp [hl, ih, Nat.add_mul, Nat.add_comm]
theorem Els.fill {m : Nat} {a : Act} (ha : Agree n e a) {k : Nat} {ps : List (Nat × Operand)} {cs : List Value} (h : Els m e k ps cs) : ∀ (pre old : List Value), pre.length = k * m → old.length = cs.length →
    Instr.fill (fun i => some (i * m, m)) (pre ++ old).toArray (ps.map fun (i, x) => (i, a.eval x)) = some (pre ++ cs).toArray := by
  induction h with
  | nil => intro pre old _ hl; obtain rfl := List.eq_nil_of_length_eq_zero (by simpa using hl); rfl
  | @cons k x v ns rest cs hx hv hm _ ih =>
    intro pre old hp hl
    simp only [List.map_cons, ha.ev hx, Instr.fill]
    have hsz : v.cells.size = m := by simp [hv, hm]
    have hle : (decide (v.cells.size ≠ m) || decide (k * m + v.cells.size > (pre ++ old).toArray.size)) = false := by
      simp [hsz, hp, hl, hm]; try omega
    rw [hle, hv]
    have hrp : Rp (k * m) ns (pre ++ old) ((pre ++ ns) ++ old.drop m) := by
      rw [← hp]
      have : ∀ (pre : List Value), Rp pre.length ns (pre ++ old) (pre ++ (ns ++ old.drop m)) := by
        intro pre
        induction pre with
        | nil =>
          simp only [List.nil_append, List.length_nil]
          have hm' : ns.length ≤ old.length := by rw [hl]; simp
          rw [← hm]
          clear hl hp ih hle hsz hv hx hm
          induction ns generalizing old with
          | nil => simpa using Rp.done
          | cons y ns ih2 =>
            cases old with
            | nil => simp at hm'
            | cons z old => simpa using Rp.put (ih2 old (by simpa using hm'))
        | cons y pre ih2 => exact .skip ih2
      simpa using this pre
    rw [rp_fold hrp]
    simp only [Bool.false_eq_true, if_false]
    have := ih (pre ++ ns) (old.drop m) (by simp [hp, hm, Nat.add_mul]) (by simp [hl, hm])
    simpa using this
class ApT (P : Program) (t : TypeId) (el : outParam TypeId) (sz : outParam Nat) (bts : outParam Nat) (zv : outParam Value) : Prop where
  und : P.underlying t = some (.slice el)
  info : (P.info? el).map (fun i => (i.zero, i.size, i.bytes)) = some (some zv, sz, bts)
  zsz : zv.cells.size = sz
  one : zv.cells.toList.all Value.oneCell' = true
  small : bts ≤ 65536
theorem ApT.parts {P : Program} {t el : TypeId} {sz bts : Nat} {zv : Value} (h : ApT P t el sz bts zv) : ∃ i, P.info? el = some i ∧ i.zero = some zv ∧ i.size = sz ∧ i.bytes = bts := by
  have := h.info
  cases hi : P.info? el with
  | none => simp [hi] at this
  | some i => simp [hi] at this; exact ⟨i, rfl, this⟩
structure BSl (P : Program) (o : Oper) (e : Env) (len : Nat) (cs : List Value) : Prop where
  ex : ∃ t el sz bts zv ps, ApT P t el sz bts zv ∧ o.op = .buildSlice t len (List.toArray ps) ∧ ps.length = len ∧ Nat.ble (len * sz) 16777216 = true ∧ Els sz e 0 ps cs
theorem bsl_mk {t el : TypeId} {len : Nat} {ps : List (Nat × Operand)} {sz bts : Nat} {zv : Value} {cs : List Value} (ho : o.op = .buildSlice t len ps.toArray) [ht : ApT P t el sz bts zv] (hl : ps.length = len) (hsm : Nat.ble (len * sz) 16777216 = true) (he : Els sz e 0 ps cs) : BSl P o e len cs :=
  ⟨t, el, sz, bts, zv, ps, ht, ho, hl, hsm, he⟩
theorem j_buildSlice {d : Nat} {len : Nat} {cs : List Value} (h : ∀ b, J P ops Q W n rest ((d, .slice (some ⟨b, 0, none⟩) len len) :: e) (cellsAt b 0 cs :: L)) (hd : o.dst = some d := by rfl)
    (hB : BSl P o e len cs := by first | (show BSl _ ⟨_, .buildSlice _ _ _, _, _, _, _⟩ _ _ _; exact bsl_mk rfl rfl rfl (by repeat (first | exact .nil | apply Els.cons (by rfl) (by rfl) (by rfl) | fail))) | fail) (hn : Nat.blt d n = true := by rfl) (hg : Wants ops e o.guard := by first | exact .none | exact .some rfl rfl rfl rfl | exact .some rfl rfl rfl (by assumption) | fail) : J P ops Q W n (o :: rest) e L := by
  obtain ⟨t, el, sz, bts, zv, ps, ht, ho, hl, hsm, he⟩ := hB
  refine j_w (ι := Nat) (val := fun b => .slice (some ⟨b, 0, none⟩) len len) (M := fun b => cellsAt b 0 cs :: L) hd hn hg (fun a w ha hs => ?_) h
  obtain ⟨i, hi, hz, hsz, _⟩ := ht.parts
  refine ⟨w.heap.size, w.alloc (.cells cs.toArray el), ?_, hs.alloc cs el⟩
  have hlen := he.len
  have hsm' : ¬ len * sz > 2 ^ 24 := by have := Nat.le_of_ble_eq_true hsm; omega
  have hsize : ∀ w, (sizeOf el).run P w = .ok sz w := fun w => by simp [sizeOf, typeInfo, hi, hsz]
  have hzero : ∀ w, (zeroValue el).run P w = .ok zv w := fun w => by simp [zeroValue, typeInfo, hi, hz]
  by_cases h0 : len * sz = 0
  · have hf := he.fill ha [] ((Array.range (len * sz)).map ((#[] : Array Value)[· % (#[] : Array Value).size]!)).toList (by simp) (by simp [hlen, hl])
    simp only [List.nil_append, Array.toArray_toList] at hf
    simp only [execOp, ho, Instr.buildSlice, Sem.run_bind, run_underlying ht.und, Result.andThen_ok, hsize, if_neg hsm', if_pos h0, Sem.run_pure, List.map_toArray, hf, newRow, run_newObj, World.alloc_eq]
  · have hf := he.fill ha [] ((Array.range (len * sz)).map (zv.cells[· % zv.cells.size]!)).toList (by simp) (by simp [hlen, hl])
    simp only [List.nil_append, Array.toArray_toList] at hf
    simp only [execOp, ho, Instr.buildSlice, Sem.run_bind, run_underlying ht.und, Result.andThen_ok, hsize, hzero, if_neg hsm', if_neg h0, Sem.run_pure, List.map_toArray, hf, newRow, run_newObj, World.alloc_eq]

/-! ### Append -/
/-- A slice's own cells: 'cs' up to its length; 'H' is its block, the spare places too. -/
def Raw (sz : Nat) (a : Option Addr) (len cap : Nat) (cs : List Value) (H : Hp) : Prop :=
  (len = 0 ∧ cap = 0 ∧ cs = [] ∧ H = []) ∨
  ∃ b off sp, a = some ⟨b, off, none⟩ ∧ (len ≤ cap ∧ cap ≤ 9223372036854775807) ∧ cs.length = len * sz ∧ sp.length = (cap - len) * sz ∧ (∀ v ∈ sp, v.oneCell' = true) ∧ H = cellsAt b off (cs ++ sp)
theorem Elems.nil_inv {α : Type} [Rep α] {cs : List Value} {H : Hp} (h : Elems cs ([] : List α) H) : cs = [] ∧ H = [] := by cases h; exact ⟨rfl, rfl⟩
theorem Raw.of_slc {α : Type} [Rep α] {a : Option Addr} {cap : Nat} {l : List α} {H : Hp} (h : Slc a cap l H) : ∃ cs Hr He, Raw (Rep.size α) a l.length cap cs Hr ∧ Elems cs l He ∧ H = Hr ++ He := by
  rcases h with ⟨rfl, rfl, rfl⟩ | ⟨b, off, cs, sp, He, rfl, h1, h2, h3, he, rfl⟩
  · exact ⟨[], [], [], .inl ⟨rfl, rfl, rfl, rfl⟩, .nil, rfl⟩
  · exact ⟨cs, _, He, .inr ⟨b, off, sp, rfl, h1, he.len, h2, h3, rfl⟩, he, rfl⟩
theorem Raw.slc {α : Type} [Rep α] {a : Option Addr} {cap : Nat} {l : List α} {cs : List Value} {Hr He : Hp} (h : Raw (Rep.size α) a l.length cap cs Hr) (he : Elems cs l He) : Slc a cap l (Hr ++ He) := by
  rcases h with ⟨h1, rfl, rfl, rfl⟩ | ⟨b, off, sp, rfl, h1, h2, h3, h4, rfl⟩
  · obtain rfl := List.eq_nil_of_length_eq_zero h1
    obtain ⟨_, rfl⟩ := Elems.nil_inv he
    exact .inl ⟨rfl, rfl, rfl⟩
  · exact .inr ⟨b, off, cs, sp, He, rfl, h1, h3, h4, he, rfl⟩
theorem zeroCells_len (z : Array Value) (k : Nat) : (Builtin.zeroCells z k).toList.length = k * z.size := by simp [Builtin.zeroCells]
theorem zeroCells_one {z : Array Value} (hz : ∀ v ∈ z.toList, v.oneCell' = true) (k : Nat) : ∀ v ∈ (Builtin.zeroCells z k).toList, v.oneCell' = true := by
  intro v hv
  simp only [Builtin.zeroCells, Array.toList_map, List.mem_map, Array.toList_range, List.mem_range] at hv
  obtain ⟨i, hi, rfl⟩ := hv
  have hpos : 0 < z.size := by
    rcases Nat.eq_zero_or_pos z.size with h | h
    · rw [h] at hi; omega
    · exact h
  have hlt : i % z.size < z.size := Nat.mod_lt _ hpos
  rw [getElem!_pos z _ hlt]
  exact hz _ (by simp)
/-- The operand's cells, as they may be read. -/
def News (w : World) (m : Nat) (sz : Nat) (x : Value) (news : List Value) : Prop := news.length = m * sz ∧ ((∃ a c, x = .slice a m c ∧ m = 0) ∨ ∃ b o c, x = .slice (some ⟨b, o, none⟩) m c ∧ Holds w (cellsAt b o news))
theorem news_none {w : World} {sz c : Nat} : News w 0 sz (.slice none 0 c) [] := ⟨by simp, .inl ⟨none, c, rfl, rfl⟩⟩
theorem append_st {t ty el : TypeId} {sz bts : Nat} {zv : Value} (ht : ApT P t el sz bts zv) {w : World} {H : Hp} {a : Option Addr} {len cap m : Nat} {cs news : List Value} {x : Value}
    (hs : St W w (H :: L)) (hR : Raw sz a len cap cs H) (hN : News w m sz x news) (h1 : ∀ v ∈ news, v.oneCell' = true) (hb : (len + m) * bts ≤ 140737488355328) (h63 : len + m ≤ 9223372036854775807) :
    ∃ a' cap' H' w', (Builtin.append_ #[t, t] ty #[.slice a len cap, x]).run P w = .ok (.slice a' (len + m) cap') w' ∧ Raw sz a' (len + m) cap' (cs ++ news) H' ∧ St W w' (H' :: L) := by
  have hz1 : ∀ v ∈ zv.cells.toList, v.oneCell' = true := List.all_eq_true.1 ht.one
  obtain ⟨i, hi, hz, rfl, rfl⟩ := ht.parts
  obtain ⟨hnl, hN⟩ := hN
  -- a new block
  have grow : ∀ (c0 : Nat) (olds : List Value), olds = cs → c0 ≤ 9223372036854775807 → len + m ≤ c0 → cs.length = len * i.size →
      Raw i.size (some ⟨w.heap.size, 0, none⟩) (len + m) c0 (cs ++ news) (cellsAt w.heap.size 0 (cs ++ news ++ (Builtin.zeroCells zv.cells (c0 - (len + m))).toList)) ∧
      St W (w.drew.alloc (.cells (cs.toArray ++ news.toArray ++ Builtin.zeroCells zv.cells (c0 - (len + m))) el)) (cellsAt w.heap.size 0 (cs ++ news ++ (Builtin.zeroCells zv.cells (c0 - (len + m))).toList) :: L) := by
    intro c0 olds _ hc0 hle hcl
    refine ⟨.inr ⟨_, _, _, rfl, ⟨hle, hc0⟩, by simp [hcl, hnl, Nat.add_mul], by rw [zeroCells_len, ht.zsz], zeroCells_one hz1 _, rfl⟩, ?_⟩
    have := hs.drop.drew.alloc (cs ++ news ++ (Builtin.zeroCells zv.cells (c0 - (len + m))).toList) el
    have e : (cs ++ news ++ (Builtin.zeroCells zv.cells (c0 - (len + m))).toList).toArray = cs.toArray ++ news.toArray ++ Builtin.zeroCells zv.cells (c0 - (len + m)) := by
      apply Array.ext'; simp
    rw [e] at this
    exact this
  have hmod : ∀ old, grownCap w (len + m) old el ≤ 9223372036854775807 := fun old => by
    have := grownCap_le_maxLen w (len + m) old el (by simpa [maxLen] using h63)
    simpa [maxLen] using this
  rcases hR with ⟨rfl, rfl, rfl, rfl⟩ | ⟨b, off, sp, rfl, ⟨hlc, hcm⟩, hcl, hsl, hs1, rfl⟩
  · -- nothing there
    by_cases hm : m = 0
    · subst hm
      obtain rfl := List.eq_nil_of_length_eq_zero (by simpa using hnl)
      have hx : ∃ a2 c2, x = .slice a2 0 c2 := by
        rcases hN with ⟨a2, c, rfl, _⟩ | ⟨b2, o2, c2, rfl, hh⟩
        · exact ⟨a2, c, rfl⟩
        · exact ⟨_, c2, rfl⟩
      obtain ⟨a2, c2, rfl⟩ := hx
      refine ⟨a, 0, [], w, ?_, .inl ⟨rfl, rfl, rfl, rfl⟩, hs⟩
      cases a <;> cases a2 <;> simp [Builtin.append_, run_underlying ht.und, sizeOf, typeInfo, hi, Builtin.lenOf, Builtin.firstCells, loadCells, loadCellsFrom, storeCells]
    · rcases hN with ⟨a2, c, rfl, h0⟩ | ⟨b2, o2, c2, rfl, hh⟩
      · exact absurd h0 hm
      have hnews : ∀ j u, news[j]? = some u → w.cell? ((⟨b2, o2, none⟩ : Addr).add j) = some u := fun j u hu => by
        rw [Addr.add_lit]; exact hh (b2, o2 + j) u (mem_cellsAt.2 ⟨j, hu, rfl⟩)
      have hg := grow (grownCap w m 0 el) [] rfl (by have := hmod 0; simpa using this) (by simpa using grownCap_ge w m 0 el) (by simp)
      simp only [Nat.zero_add, List.nil_append] at hg ⊢
      have h2 := hg.2
      simp only [Array.empty_append] at h2
      cases a with
      | none =>
        have hr := run_append_nil (P := P) w t ty el i zv ht.und hi hz ⟨b2, o2, none⟩ m c2 news hnl hnews (by omega) (by omega) (by simp only [Nat.zero_add] at hb; omega)
        exact ⟨_, _, _, _, hr, hg.1, h2⟩
      | some p =>
        have hr := run_append_grow (P := P) w t ty el i zv ht.und hi hz p 0 0 [] (by simp) (fun j v hj => by simp at hj) ⟨b2, o2, none⟩ m c2 news hnl hnews (by omega) (by omega) (growslice_fits (by omega) (by simpa using hb))
        simp only [Nat.zero_add, Array.empty_append] at hr
        exact ⟨_, _, _, _, hr, hg.1, h2⟩
  · -- a block of its own
    have hold : ∀ j u, cs[j]? = some u → w.cell? ((⟨b, off, none⟩ : Addr).add j) = some u := fun j u hu => by
      rw [Addr.add_lit]
      refine hs.first.sat.holds (b, off + j) u (by simp only [List.flatten_cons, List.flatten_nil, List.append_nil]; exact mem_cellsAt.2 ⟨j, by rw [List.getElem?_append_left (List.getElem?_eq_some_iff.1 hu).1]; exact hu, rfl⟩)
    obtain ⟨ad, c2, rfl, hnews, hfc⟩ : ∃ ad c2, x = .slice ad m c2 ∧ (∀ j u, news[j]? = some u → ∃ p, ad = some p ∧ w.cell? (p.add j) = some u) ∧ (∀ w', (∀ p v, w.cell? p = some v → w'.cell? p = some v) → (Builtin.firstCells i.size m (.slice ad m c2)).run P w' = .ok news.toArray w') := by
      rcases hN with ⟨a2, c, rfl, rfl⟩ | ⟨b2, o2, c2, rfl, hh⟩
      · obtain rfl := List.eq_nil_of_length_eq_zero (by simpa using hnl)
        exact ⟨a2, c, rfl, fun j u h => by simp at h, fun w' _ => by cases a2 <;> simp [Builtin.firstCells, loadCells, loadCellsFrom]⟩
      · have hn : ∀ j u, news[j]? = some u → w.cell? ((⟨b2, o2, none⟩ : Addr).add j) = some u := fun j u hu => by
          rw [Addr.add_lit]; exact hh (b2, o2 + j) u (mem_cellsAt.2 ⟨j, hu, rfl⟩)
        exact ⟨some ⟨b2, o2, none⟩, c2, rfl, fun j u h => ⟨_, rfl, hn j u h⟩, fun w' hw' => run_firstCells_some (P := P) w' i.size m ⟨b2, o2, none⟩ m c2 news hnl (fun j u hu => hw' _ _ (hn j u hu))⟩
    by_cases hroom : len + m ≤ cap
    · -- room
      have hsp : sp = sp.take (m * i.size) ++ sp.drop (m * i.size) := (List.take_append_drop _ _).symm
      have hmle : m * i.size ≤ sp.length := by rw [hsl]; exact Nat.mul_le_mul_right _ (by omega)
      have htl : (sp.take (m * i.size)).length = news.length := by rw [List.length_take_of_le hmle, hnl]
      have hsat := hs.sat
      simp only [List.flatten_cons] at hsat
      rw [show cs ++ sp = cs ++ sp.take (m * i.size) ++ sp.drop (m * i.size) by rw [List.append_assoc, List.take_append_drop]] at hsat
      obtain ⟨w', hrun, hsat', hz', hbel⟩ := run_storeCells_sat (P := P) news (sp.take (m * i.size)) w off cs.length cs (sp.drop (m * i.size)) h1 htl rfl hsat 0 ⟨b, off + cs.length, none⟩ (by simp [Addr.add_lit]) (fun k => by simp [Addr.add_lit])
      refine ⟨some ⟨b, off, none⟩, cap, cellsAt b off ((cs ++ news) ++ sp.drop (m * i.size)), w', ?_, .inr ⟨b, off, _, rfl, ⟨hroom, hcm⟩, by simp [hcl, hnl, Nat.add_mul], ?_, fun v hv => hs1 v (List.mem_of_mem_drop hv), rfl⟩, ?_⟩
      · simp only [Builtin.append_, Sem.run_bind, run_underlying ht.und, sizeOf, typeInfo, run_program, hi, Result.andThen_ok, Sem.run_pure, Builtin.lenOf, List.getElem?_toArray, List.getElem?_cons_zero, List.getElem?_cons_succ]
        simp [hroom, hfc w (fun _ _ h => h), Addr.add_lit, ← hcl, hrun]
      · rw [List.length_drop, hsl, ← Nat.sub_mul]
        congr 1; omega
      · by_cases hne : news = []
        · subst hne
          refine ⟨?_, by simpa using hsat'⟩
          simp [storeCells] at hrun
          subst hrun; exact hs.below
        · refine ⟨hs.below.trans (hbel.mono ?_), by simpa using hsat'⟩
          have hpos : 0 < (sp.take (m * i.size)).length := by rw [htl]; exact List.length_pos_iff.2 hne
          refine hsat.own (b, off + (cs.length + 0)) (sp.take (m * i.size))[0] (List.mem_append_left _ (mem_cellsAt.2 ⟨cs.length + 0, ?_, rfl⟩))
          rw [List.append_assoc, List.getElem?_append_right (by omega)]
          simp only [Nat.add_zero, Nat.sub_self]
          rw [List.getElem?_append_left hpos, List.getElem?_eq_getElem hpos]
    · -- no room
      have hmp : 0 < m := by omega
      cases ad with
      | none => exfalso; have := hnews; rcases hN with ⟨a2, c, hx, hm0⟩ | ⟨b2, o2, c3, hx, _⟩
                · omega
                · cases hx
      | some p =>
        have hn2 : ∀ j u, news[j]? = some u → w.cell? (p.add j) = some u := fun j u hu => by obtain ⟨q, hq, h⟩ := hnews j u hu; cases hq; exact h
        have hr := run_append_grow (P := P) w t ty el i zv ht.und hi hz ⟨b, off, none⟩ len cap cs hcl hold p m c2 news hnl hn2 (by omega) (by omega) (growslice_fits (by omega) hb)
        have hg := grow (grownCap w (len + m) cap el) cs rfl (hmod cap) (grownCap_ge w (len + m) cap el) hcl
        exact ⟨_, _, _, _, hr, hg.1, hg.2⟩

theorem run_append_op {t : TypeId} {s x : Operand} (ho : o.op = .call { callee := .builtin .append, args := #[s, x], argTypes := #[t, t] }) {a : Act} {w w' : World} {u v r : Value} (hs : a.eval s = u) (hx : a.eval x = v)
    (h : (Builtin.append_ #[t, t] o.type #[u, v]).run P w = .ok r w') : (execOp a.eval o).run P w = .ok (.value r) w' := by
  simp [execOp, ho, resolve, invoke, builtin, hs, hx, h]
/-- Append to a slice that is ours; what is appended brings the memory 'Hn' with it. -/
theorem j_append1 {α : Type} [Rep α] {d : Nat} {t el : TypeId} {bts : Nat} {zv : Value} [ht : ApT P t el (Rep.size α) bts zv] {s x : Operand} {a : Option Addr} {cap : Nat} {xs ys : List α} {H Hn : Hp} {news : List Value} {xv : Value} {L1 L2 : List Hp}
    (hS : Slc a cap xs H) (hE : Elems news ys Hn) (hN : ∀ w, St W w L → News w ys.length (Rep.size α) xv news) (hlen : xs.length + ys.length ≤ 2147483648)
    (h : ∀ a' cap' H', Slc a' cap' (xs ++ ys) H' → J P ops Q W n rest ((d, .slice a' (xs ++ ys).length cap') :: e) (H' :: L2))
    (h1 : Rm H L L1 := by repeat (first | exact .here | exact .e rfl | apply Rm.there)) (h2 : Rm Hn L1 L2 := by repeat (first | exact .here | exact .e rfl | apply Rm.there))
    (hd : o.dst = some d := by rfl) (ho : o.op = .call { callee := .builtin .append, args := #[s, x], argTypes := #[t, t] } := by rfl) (hv : e.ev s = some (.slice a xs.length cap) := by rfl) (hx : e.ev x = some xv := by rfl)
    (hn : Nat.blt d n = true := by rfl) (hg : Wants ops e o.guard := by first | exact .none | exact .some rfl rfl rfl rfl | exact .some rfl rfl rfl (by assumption) | fail) : J P ops Q W n (o :: rest) e L := by
  have hb : (xs.length + ys.length) * bts ≤ 140737488355328 := by have := Nat.mul_le_mul hlen ht.small; omega
  have h63 : xs.length + ys.length ≤ 9223372036854775807 := by omega
  refine j_w (ι := { y : Option Addr × Nat × Hp // Slc y.1 y.2.1 (xs ++ ys) y.2.2 }) (val := fun y => .slice y.1.1 (xs ++ ys).length y.1.2.1) (M := fun y => y.1.2.2 :: L2) hd hn hg (fun ac w ha hs => ?_) (fun y => h _ _ _ y.2)
  obtain ⟨cs, Hr, He, hR, hEx, rfl⟩ := Raw.of_slc hS
  have hs1 : St W w (Hr :: He :: Hn :: L2) := by
    have := hs.rm h1
    refine this.perm ?_
    simp only [List.flatten_cons, List.append_assoc]
    exact (List.Perm.refl Hr).append ((List.Perm.refl He).append h2.perm)
  obtain ⟨a', cap', H', w', hrun, hR', hs'⟩ := append_st (P := P) (ty := o.type) ht hs1 hR (hN w hs) hE.one hb h63
  have hl : xs.length + ys.length = (xs ++ ys).length := by simp
  rw [hl] at hR' hrun
  refine ⟨⟨(a', cap', H' ++ (He ++ Hn)), hR'.slc (hEx.append hE)⟩, w', run_append_op ho (ha.ev hv) (ha.ev hx) hrun, hs'.perm (by simp)⟩
/-- Append to a slice that is ours of elements that have no memory of their own. -/
theorem j_append0 {α : Type} [Rep α] {d : Nat} {t el : TypeId} {bts : Nat} {zv : Value} [ht : ApT P t el (Rep.size α) bts zv] {s x : Operand} {a : Option Addr} {cap : Nat} {xs ys : List α} {H : Hp} {news : List Value} {xv : Value} {L1 : List Hp}
    (hS : Slc a cap xs H) (hE : Elems news ys []) (hN : ∀ w, St W w L → News w ys.length (Rep.size α) xv news) (hlen : xs.length + ys.length ≤ 2147483648)
    (h : ∀ a' cap' H', Slc a' cap' (xs ++ ys) H' → J P ops Q W n rest ((d, .slice a' (xs ++ ys).length cap') :: e) (H' :: L1))
    (h1 : Rm H L L1 := by repeat (first | exact .here | exact .e rfl | apply Rm.there))
    (hd : o.dst = some d := by rfl) (ho : o.op = .call { callee := .builtin .append, args := #[s, x], argTypes := #[t, t] } := by rfl) (hv : e.ev s = some (.slice a xs.length cap) := by rfl) (hx : e.ev x = some xv := by rfl)
    (hn : Nat.blt d n = true := by rfl) (hg : Wants ops e o.guard := by first | exact .none | exact .some rfl rfl rfl rfl | exact .some rfl rfl rfl (by assumption) | fail) : J P ops Q W n (o :: rest) e L := by
  have hb : (xs.length + ys.length) * bts ≤ 140737488355328 := by have := Nat.mul_le_mul hlen ht.small; omega
  have h63 : xs.length + ys.length ≤ 9223372036854775807 := by omega
  refine j_w (ι := { y : Option Addr × Nat × Hp // Slc y.1 y.2.1 (xs ++ ys) y.2.2 }) (val := fun y => .slice y.1.1 (xs ++ ys).length y.1.2.1) (M := fun y => y.1.2.2 :: L1) hd hn hg (fun ac w ha hs => ?_) (fun y => h _ _ _ y.2)
  obtain ⟨cs, Hr, He, hR, hEx, rfl⟩ := Raw.of_slc hS
  have hs1 : St W w (Hr :: He :: L1) := (hs.rm h1).perm (by simp)
  obtain ⟨a', cap', H', w', hrun, hR', hs'⟩ := append_st (P := P) (ty := o.type) ht hs1 hR (hN w hs) hE.one hb h63
  have hl : xs.length + ys.length = (xs ++ ys).length := by simp
  rw [hl] at hR' hrun
  refine ⟨⟨(a', cap', H' ++ (He ++ [])), hR'.slc (hEx.append hE)⟩, w', run_append_op ho (ha.ev hv) (ha.ev hx) hrun, hs'.perm (by simp)⟩
/-- Cells that a piece holds, as an operand of append. -/
theorem news_src {b o m sz c : Nat} {news : List Value} (h : Src W L b o news) (hl : news.length = m * sz) : ∀ w, St W w L → News w m sz (.slice (some ⟨b, o, none⟩) m c) news := fun w hs => ⟨hl, .inr ⟨b, o, c, rfl, h w hs⟩⟩
/-- A slice that is only read, as an operand of append: its cells. -/
theorem RdS.news {α : Type} [Rep α] {w : World} {a : Option Addr} {cap : Nat} {l : List α} (h : RdS w a cap l) : ∃ cs He, Elems cs l He ∧ Holds w He ∧ News w l.length (Rep.size α) (.slice a l.length cap) cs := by
  obtain ⟨H, h1 | ⟨b, off, cs, sp, He, rfl, h1, h2, h3, he, rfl⟩, hh⟩ := h
  · obtain ⟨rfl, rfl, rfl⟩ := h1
    exact ⟨[], [], .nil, Holds.nil, by simp, .inl ⟨a, 0, rfl, rfl⟩⟩
  · refine ⟨cs, He, he, hh.right, he.len, .inr ⟨b, off, cap, rfl, ?_⟩⟩
    rw [cellsAt_append] at hh
    exact hh.left.left

/-! ### Function values -/
theorem q_makeFunc {fn : Fn} {xs ys : List Operand} {us vs : List Value} (ho : o.op = .makeFunc fn xs.toArray ys.toArray) (hx : e.evs xs = some us) (hy : e.evs ys = some vs) : QOp P o W n e L (.func fn us.toArray vs.toArray) := .mk fun a w ha hs => by
  simp [execOp, ho, Instr.makeFunc, ← ha.evs hx, ← ha.evs hy]
theorem j_makeFunc {d : Nat} {fn : Fn} {xs ys : List Operand} {us vs : List Value} (h : J P ops Q W n rest ((d, .func fn us.toArray vs.toArray) :: e) L) (hd : o.dst = some d := by rfl) (ho : o.op = .makeFunc fn xs.toArray ys.toArray := by rfl) (hx : e.evs xs = some us := by rfl) (hy : e.evs ys = some vs := by rfl)
    (hn : Nat.blt d n = true := by rfl) (hg : Wants ops e o.guard := by first | exact .none | exact .some rfl rfl rfl rfl | exact .some rfl rfl rfl (by assumption) | fail) : J P ops Q W n (o :: rest) e L :=
  j_q h (q_makeFunc ho hx hy) hd hn hg

/-! ### Functions that change pieces of their caller's -/
/-- All of the first list are in the second; the third is what is left. -/
inductive Rms : List Hp → List Hp → List Hp → Prop
  | nil {L : List Hp} : Rms [] L L
  | cons {c : Hp} {L L1 F cs : List Hp} : Rm c L L1 → Rms cs L1 F → Rms (c :: cs) L F
theorem Rms.perm {cs F L : List Hp} (h : Rms cs L F) : L.flatten.Perm ((cs ++ F).flatten) := by
  induction h with
  | nil => simp
  | cons h _ ih => simp only [List.cons_append, List.flatten_cons]; exact h.perm.trans ((List.Perm.refl _).append ih)
/-- What such a call hands back: beside the frame 'F', new pieces. -/
def RetM (W : World) (F : List Hp) (R : Value → List Hp → Prop) (x : Ending) (w' : World) : Prop := ∃ v M, x = .returned v ∧ St W w' (M ++ F) ∧ R v M
structure CM (P : Program) (f : FuncId) (args : List Value) (W : World) (Lp F : List Hp) (R : Value → List Hp → Prop) : Prop where
  run : ∀ w, St W w (Lp ++ F) → Calls P f args.toArray w (RetM W F R)
theorem callsm_j {f : FuncId} {fn : Func} {c : Code} {args : List Value} {F Lp : List Hp} {R : Value → List Hp → Prop} (hf : P.funcs[f]? = some fn) (hb : fn.body = some c) (hn : fn.ntmps = n) (hl : Nat.ble args.length n = true)
    (h : JC P c (bodyPost P fn (RetM W F R)) W n (argEnv 0 args) (Lp ++ F)) : CM P f args W Lp F R := by
  have hl' : args.length ≤ n := by simpa using hl
  refine ⟨fun w hs => calls_of_wp hf hb (h.run _ _ ⟨by simp [hn]; omega, rfl, fun t v ht => by
    obtain ⟨_, h2⟩ := argEnv_get ht
    simp only [Nat.sub_zero] at h2
    have hlt : t < args.length := (List.getElem?_eq_some_iff.1 h2).1
    rw [Array.getElem?_append_left (by simpa using hlt)]
    simpa using h2⟩ hs)⟩
theorem j_callm {d : Nat} {f : FuncId} {xs : List Operand} {tys : Array TypeId} {vs : List Value} {R : Value → List Hp → Prop} {Lp F : List Hp} [hf : CallT P f]
    (hc : CM P f vs W Lp F R) (h : ∀ v M, R v M → J P ops Q W n rest ((d, v) :: e) (M ++ F))
    (hr : Rms Lp L F := by repeat (first | exact .nil | apply Rms.cons (by repeat (first | exact .here | exact .e rfl | apply Rm.there)))) (hd : o.dst = some d := by rfl) (ho : o.op = .call { callee := .value (.func f), args := xs.toArray, argTypes := tys } := by rfl) (hv : e.evs xs = some vs := by rfl) (hn : Nat.blt d n = true := by rfl)
    (hg : Wants ops e o.guard := by first | exact .none | exact .some rfl rfl rfl rfl | exact .some rfl rfl rfl (by assumption) | fail) : J P ops Q W n (o :: rest) e L := by
  refine ⟨fun a w ha hs => wpList_wanted (hg.ok ha) fun K hK => ?_⟩
  have hrun : (execOp a.eval o).run P w = .ok (.enter f vs.toArray) w := by
    simp [execOp, ho, resolve, invoke, Act.eval, Deferred.ofValue, ← ha.evs hv, hf.ok]
  unfold Oper.wp
  rw [hrun, Oper.upon_enter]
  refine (hc.run w (hs.perm hr.perm)).mono ?_
  rintro x w' ⟨v, M, rfl, hs', hR⟩
  rw [hd]
  exact hK _ _ ((h v M hR).run _ _ (ha.put (by simpa using hn) v) hs')
/-- A call through a function value that the body made. -/
theorem j_callv {d : Nat} {f : FuncId} {fv : Operand} {xs : List Operand} {tys : Array TypeId} {us cap vs args : List Value} {R : Value → List Hp → Prop} {Lp F : List Hp} [hf : CallT P f]
    (hc : CM P f args W Lp F R) (h : ∀ v M, R v M → J P ops Q W n rest ((d, v) :: e) (M ++ F))
    (hr : Rms Lp L F := by repeat (first | exact .nil | apply Rms.cons (by repeat (first | exact .here | exact .e rfl | apply Rm.there)))) (hd : o.dst = some d := by rfl) (ho : o.op = .call { callee := .value fv, args := xs.toArray, argTypes := tys } := by rfl)
    (hfv : e.ev fv = some (.func (.func f) us.toArray cap.toArray) := by rfl) (hv : e.evs xs = some vs := by rfl) (hargs : us ++ vs ++ cap = args := by rfl) (hn : Nat.blt d n = true := by rfl)
    (hg : Wants ops e o.guard := by first | exact .none | exact .some rfl rfl rfl rfl | exact .some rfl rfl rfl (by assumption) | fail) : J P ops Q W n (o :: rest) e L := by
  subst hargs
  refine ⟨fun a w ha hs => wpList_wanted (hg.ok ha) fun K hK => ?_⟩
  have hrun : (execOp a.eval o).run P w = .ok (.enter f (us ++ vs ++ cap).toArray) w := by
    simp [execOp, ho, resolve, invoke, ha.ev hfv, Deferred.ofValue, ← ha.evs hv, hf.ok]
  unfold Oper.wp
  rw [hrun, Oper.upon_enter]
  refine (hc.run w (hs.perm hr.perm)).mono ?_
  rintro x w' ⟨v, M, rfl, hs', hR⟩
  rw [hd]
  exact hK _ _ ((h v M hR).run _ _ (ha.put (by simpa using hn) v) hs')
end
/-- The list 'L' ends in 'F'. -/
inductive Tail (F : List Hp) : List Hp → Prop
  | here : Tail F F
  | there {c L} : Tail F L → Tail F (c :: L)
theorem Tail.perm {F L : List Hp} (h : Tail F L) : ∃ R, L.flatten.Perm (F.flatten ++ R) := by
  induction h with
  | here => exact ⟨[], by simp⟩
  | @there c L _ ih =>
    obtain ⟨R, h⟩ := ih
    refine ⟨c ++ R, ?_⟩
    simp only [List.flatten_cons]
    exact ((List.Perm.refl c).append h).trans (by rw [← List.append_assoc, ← List.append_assoc]; exact List.perm_append_comm.append_right R)
theorem St.keep {W w : World} {L M L1 F : List Hp} (hs : St W w L) (h : Rms M L L1) (ht : Tail F L1) : St W w (M ++ F) := by
  obtain ⟨R, hp⟩ := ht.perm
  refine ⟨hs.below, Sat.left (H' := R) (hs.sat.perm (h.perm.trans ?_))⟩
  rw [List.flatten_append, List.flatten_append, List.append_assoc]
  exact (List.Perm.refl _).append hp
/-- The end of a function that changes its caller's pieces. -/
theorem jx_endm {P : Program} {W : World} {e : Env} {L L1 F : List Hp} {n : Nat} {fn : Func} {R : Value → List Hp → Prop} {x : Exit} (hx : x = .ret ∨ x = .normal) {rs : List ResultVar} {vs : List Value} (M : List Hp) (h : R (resV vs) M)
    (hs : Rms M L L1 := by repeat (first | exact .nil | apply Rms.cons (by repeat (first | exact .here | exact .e rfl | apply Rm.there)))) (ht : Tail F L1 := by repeat (first | exact .here | apply Tail.there)) (hf : fn.results = rs.toArray := by rfl)
    (hr : ResL P W e L rs vs := by repeat (first | exact .nil | apply ResL.tmp rfl | apply ResL.cell rfl (by first | exact src_box (by repeat (first | exact .here | apply InL.there)) | exact src_old (by assumption) | fail) (by repeat constructor) (by constructor))) :
    JX (bodyPost P fn (RetM W F R)) x W n e L := by
  refine ⟨fun a w ha hw => ?_⟩
  have hrun := hr.run ha hw
  have key : a.defers = [] ∧ ∃ v, (results fn a.tmps).run P w = .ok v w ∧ RetM W F R (.returned v) w := by
    refine ⟨ha.defers, resV vs, ?_, resV vs, M, rfl, hw.keep hs ht, h⟩
    rw [results_eq, hf, List.mapM_toArray]
    simp only [Sem.run_bind, Sem.run_map, hrun, Result.andThen_ok, Sem.run_pure]
    congr 1
    match vs with
    | [] => simp [resV]
    | [v] => simp [resV]
    | u :: v :: vs => simp [resV]
  rcases hx with rfl | rfl <;> exact key

end Go.Proofs.YtiobmbicldjikaaGreatDoor
