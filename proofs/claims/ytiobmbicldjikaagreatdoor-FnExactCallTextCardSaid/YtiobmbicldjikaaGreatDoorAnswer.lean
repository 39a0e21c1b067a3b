/- The text of an answer. No condition. -/
import Derived.Test.YtiobmbicldjikaaGreatDoorTexts

set_option linter.unusedVariables false

namespace Go.Proofs.YtiobmbicldjikaaGreatDoor

def listT (l : List DEntry) (k : Nat) : List UInt8 := ((l.take k).map fun x => 32 :: entryT x).flatten
def answerT (x : DAnswer) : ByteArray := if x.code = 0 then str ([111, 107, 32] ++ numT x.rev ++ [32] ++ signT x.text ++ listT x.list x.list.length) else otName x.code
theorem listT_succ {l : List DEntry} {k : Nat} (h : k < l.length) : listT l (k + 1) = listT l k ++ (32 :: entryT l[k]) := by
  unfold listT; rw [map_take_succ _ h]; simp
theorem entryT_len (x : DEntry) : (entryT x).length ≤ 2800002022 := by
  have n1 := numT_len x.client
  have n2 := numT_len x.seq
  have n3 := opW_len x.o
  unfold entryT
  simp only [List.length_append, List.length_cons, List.length_nil]
  omega
theorem listT_len (l : List DEntry) : ∀ k, k ≤ l.length → (listT l k).length ≤ k * 2800002023
  | 0, _ => by simp [listT]
  | k + 1, hk => by
    have ih := listT_len l k (by omega)
    have he := entryT_len l[k]
    rw [listT_succ (by omega)]
    simp only [List.length_append, List.length_cons]
    omega
theorem otName_zero : otName 0 = ⟨#[111, 107]⟩ := by decide
theorem otName_ok {z : Int} : otName z = ⟨#[111, 107]⟩ ↔ z = 0 := by
  constructor
  · intro h
    by_cases hr : inR z 0 12 = true
    · have hr' := hr
      simp only [inR, Bool.and_eq_true, decide_eq_true_eq] at hr'
      have : z = 0 ∨ z = 1 ∨ z = 2 ∨ z = 3 ∨ z = 4 ∨ z = 5 ∨ z = 6 ∨ z = 7 ∨ z = 8 ∨ z = 9 ∨ z = 10 ∨ z = 11 ∨ z = 12 := by omega
      rcases this with rfl | rfl | rfl | rfl | rfl | rfl | rfl | rfl | rfl | rfl | rfl | rfl | rfl <;> first | rfl | exact absurd h (by decide)
    · rw [otName_no (Bool.eq_false_iff.2 hr)] at h
      exact absurd h (by decide)
  · rintro rfl; exact otName_zero
def ansHead (x : DAnswer) : List UInt8 := [111, 107, 32] ++ numT x.rev ++ [32] ++ signT x.text
end Go.Proofs.YtiobmbicldjikaaGreatDoor
