/- The texts of calls. No condition. -/
import Derived.Test.YtiobmbicldjikaaGreatDoorCallOk

set_option linter.unusedVariables false

set_option linter.unusedSimpArgs false

namespace Go.Proofs.YtiobmbicldjikaaGreatDoor

theorem l19Has_c (W : World) (k : Int) : CR Tryz.prog 33 [.int .i64 k] W (Is (.tuple #[.bool (hasWho k), .bool (decide (k = 2)), .bool (hasN k)])) := by
  have d4 := hasWho.eq_1 k
  have d5 := hasN.eq_1 k
  by_cases h2 : k = 2
  · subst h2
    exact calls_j Tryz.func33 rfl rfl rfl r0
  by_cases h6 : k = 6
  · subst h6
    exact calls_j Tryz.func33 rfl rfl rfl r0
  by_cases h3 : k = 3
  · subst h3
    exact calls_j Tryz.func33 rfl rfl rfl r0
  by_cases h5 : k = 5
  · subst h5
    exact calls_j Tryz.func33 rfl rfl rfl r0
  by_cases h7 : k = 7
  · subst h7
    exact calls_j Tryz.func33 rfl rfl rfl r0
  · exact calls_j Tryz.func33 rfl rfl rfl r0
/-- The first k words, joined by one space. -/
def jw (l : List ByteArray) (k : Nat) : List UInt8 := Lib.join ((l.take k).map nameL) [32]
theorem jw_zero (l : List ByteArray) : jw l 0 = [] := rfl
theorem jw_one {l : List ByteArray} (h : 0 < l.length) : jw l (0 + 1) = nameL l[0] := by
  unfold jw; rw [map_take_succ _ h]; simp [join_one]
theorem jw_succ {l : List ByteArray} {k : Nat} (h0 : 0 < k) (h : k < l.length) : jw l (k + 1) = jw l k ++ [32] ++ nameL l[k] := by
  unfold jw
  rw [map_take_succ _ h, join_snoc]
  intro h1
  have := congrArg List.length h1
  rw [List.length_map, List.length_take_of_le (by omega), List.length_nil] at this
  omega
theorem jw_len {l : List ByteArray} (hb : ∀ x ∈ l, x.size ≤ 3000000000) : ∀ {k : Nat}, k ≤ l.length → (jw l k).length ≤ k * 3000000001
  | 0, _ => by simp [jw_zero]
  | k + 1, hk => by
    have ih := jw_len hb (k := k) (by omega)
    have hs : (nameL l[k]).length ≤ 3000000000 := hb l[k] (List.getElem_mem _)
    rcases Nat.eq_zero_or_pos k with rfl | h0
    · rw [jw_one (by omega)]; omega
    · rw [jw_succ h0 (by omega)]; simp only [List.length_append, List.length_cons, List.length_nil]; omega
theorem sJoin_c (W : World) {a : Option Addr} {cap : Nat} {l : List ByteArray} (hl : RdS W a cap l) (hn : l.length ≤ 1000) (hb : ∀ x ∈ l, x.size ≤ 3000000000) : CR Tryz.prog 38 [.slice a l.length cap] W (Is (.string (str (Lib.join (l.map nameL) [32])))) := by
  have hadr := hl.adr
  refine calls_j Tryz.func38 rfl rfl rfl (r1 ?_)
  refine jc_loop (fun k : Nat => [(3, .string (str (jw l k))), (6, .slice a l.length cap), (7, .int .i64 l.length), (8, .int .i64 k)]) (fun _ => []) (fun k => k ≤ l.length) (fun k => l.length - k) 0 (by omega) ⟨rfl, rfl, rfl, rfl, trivial⟩ (fun w => St.sel .nil) ?_
  intro k hk
  have hjl := jw_len hb hk
  by_cases h : k < l.length
  · have hi := hl.str h
    have hs := hb l[k] (List.getElem_mem _)
    refine r2 ?_ ?_
    · intros
      refine jx_round (k + 1) (by omega) (by omega) ⟨?_, rfl, rfl, rfl, trivial⟩ (fun w => St.sel .nil)
      show some (Value.string ((str (jw l k) ++ str [32]) ++ l[k])) = _
      rw [jw_succ (by omega) h, str_append, ← str_nameL l[k], str_append]; rfl
    · intros
      refine jx_round (k + 1) (by omega) (by omega) ⟨?_, rfl, rfl, rfl, trivial⟩ (fun w => St.sel .nil)
      have h0 : k = 0 := by omega
      subst h0
      show some (Value.string (str (jw l 0) ++ l[0])) = _
      rw [jw_one h, jw_zero, ← str_nameL l[0], str_append]; rfl
  · have hk : k = l.length := by omega
    have e : jw l k = Lib.join (l.map nameL) [32] := by unfold jw; rw [List.take_of_length_le (by omega)]
    rw [← e]
    exact r0
/-! The words of a call, joined. -/

theorem str_join1 (a : List UInt8) : str (Lib.join [a] [32]) = str a := by rw [join_one]
theorem str_join2 (a b : List UInt8) (l : List (List UInt8)) : str (Lib.join (a :: b :: l) [32]) = str a ++ (⟨#[32]⟩ ++ str (Lib.join (b :: l) [32])) := by
  rw [join_two, ← str_append, ← str_append, ByteArray.append_assoc]; rfl
theorem callGood_parts {x : DCall} (h : callGood x = true) : callOk x = true ∧ opOk x.o = true ∧ inR x.client 0 1000000000 = true ∧ inR x.seq 0 1000000000 = true ∧ inR x.n 0 1000000000 = true ∧ (onDoc x.kind = true → nameOk x.doc = true) ∧ inR x.kind 1 8 = true ∧ x.doc.size ≤ 8 ∧ x.text.length ≤ 200 := by
  have hk := (clGood h).k
  simp only [callGood, callOk, textOk, Bool.and_eq_true, Bool.or_eq_true, Bool.not_eq_true', decide_eq_true_eq] at h
  obtain ⟨⟨⟨⟨⟨⟨⟨⟨⟨_, h1⟩, h2⟩, ⟨h9, h3⟩⟩, hu⟩, h4⟩, hc⟩, hs⟩, hn⟩, hdoc⟩ := h
  refine ⟨?_, h4, hc, hs, hn, fun e => ?_, hk, by omega, by omega⟩
  · simp only [callOk, textOk, Bool.and_eq_true, decide_eq_true_eq]; exact ⟨⟨⟨⟨hk, h1⟩, h2⟩, ⟨h9, h3⟩⟩, hu⟩
  · rcases hdoc with h | h
    · rw [e] at h; cases h
    · exact h
end Go.Proofs.YtiobmbicldjikaaGreatDoor
