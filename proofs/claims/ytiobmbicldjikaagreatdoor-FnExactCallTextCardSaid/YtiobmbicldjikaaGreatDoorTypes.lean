/- The facts on the program's types that the rules for operations ask for, printed by program. No condition. -/
import Derived.Test.YtiobmbicldjikaaGreatDoorChecked
import Derived.Test.YtiobmbicldjikaaGreatDoorMem
import Derived.KernelRfl
set_option linter.unusedSimpArgs false
namespace Go.Proofs.YtiobmbicldjikaaGreatDoor

theorem run_field_of {P : Program} {s : TypeId} {fs : Array Field} {f : Nat} {fd : Field} {ag : Bool} {m : Nat} (hu : P.underlying s = some (.struct fs)) (hf : fs[f]? = some fd)
    (ha : ∀ w, (isAgg fd.type).run P w = .ok ag w) (hz : ∀ w, (sizeOf fd.type).run P w = .ok m w) {w : World} {cs r : List Value} {v : Value} (ht : Tk fd.offset m cs r) (hv : LdV ag r v) :
    (Instr.field s (.agg cs.toArray) f).run P w = .ok v w := by
  have hl := ht.spec.1
  cases hv with
  | agg =>
    have e : (cs.toArray.extract fd.offset (fd.offset + m)) = r.toArray := by
      apply Array.ext'
      simp only [Array.toList_extract, List.extract_eq_take_drop]
      apply List.ext_getElem?
      intro j
      rw [List.getElem?_take]
      split
      · rename_i hj
        rw [List.getElem?_drop]
        obtain ⟨v, hv⟩ : ∃ v, r[j]? = some v := ⟨r[j]'(by omega), by rw [List.getElem?_eq_getElem (by omega)]⟩
        rw [hv]; simpa using ht.spec.2 j v hv
      · rw [List.getElem?_eq_none (by omega)]
    simp only [Instr.field, Sem.run_bind, run_underlying hu, Result.andThen_ok, hf, asAgg, Sem.run_pure, part, ha, hz, if_true, e]
  | one =>
    have := ht.spec.2 0 v rfl
    simp only [Nat.add_zero] at this
    simp [Instr.field, run_underlying hu, hf, asAgg, part, ha, this]

theorem run_fieldAt_of {P : Program} {s : TypeId} {fs : Array Field} {f : Nat} {fd : Field} {m : Nat} (hu : P.underlying s = some (.struct fs)) (hf : fs[f]? = some fd)
    (hz : ∀ w, (sizeOf fd.type).run P w = .ok m w) (hm : m ≠ 0) (w : World) (b o : Nat) :
    (Instr.fieldAt s (.pointer (some ⟨b, o, none⟩)) f).run P w = .ok (.pointer (some ⟨b, o + fd.offset, none⟩)) w := by
  simp only [Instr.fieldAt, Sem.run_bind, run_underlying hu, Result.andThen_ok, hf, Instr.sureAddr, Sem.run_pure, fieldPlace, hz, if_neg hm, Addr.add_lit]

instance : TI Tryz.prog 1 false 1 := ⟨Tryz.isAgg1, Tryz.sizeOf1⟩
instance : TI Tryz.prog 2 false 1 := ⟨Tryz.isAgg2, Tryz.sizeOf2⟩
instance : ZeroT Tryz.prog 2 [.int .i64 0] := ⟨fun w => ⟨_, Tryz.zeroValue2 w, rfl⟩⟩
instance : IntT Tryz.prog 2 .i64 := ⟨Tryz.underlying2⟩
instance : TI Tryz.prog 3 false 1 := ⟨Tryz.isAgg3, Tryz.sizeOf3⟩
instance : ZeroT Tryz.prog 3 [.int .i64 0] := ⟨fun w => ⟨_, Tryz.zeroValue3 w, rfl⟩⟩
instance : IntT Tryz.prog 3 .i64 := ⟨Tryz.underlying3⟩
instance : TI Tryz.prog 4 false 1 := ⟨Tryz.isAgg4, Tryz.sizeOf4⟩
instance : ZeroT Tryz.prog 4 [.bool false] := ⟨fun w => ⟨_, Tryz.zeroValue4 w, rfl⟩⟩
instance : BoolT Tryz.prog 4 := ⟨Tryz.underlying4⟩
instance : TI Tryz.prog 5 false 1 := ⟨Tryz.isAgg5, Tryz.sizeOf5⟩
instance : ZeroT Tryz.prog 5 [.int .u8 0] := ⟨fun w => ⟨_, Tryz.zeroValue5 w, rfl⟩⟩
instance : IntT Tryz.prog 5 .u8 := ⟨Tryz.underlying5⟩
instance : TI Tryz.prog 6 false 1 := ⟨Tryz.isAgg6, Tryz.sizeOf6⟩
instance : ZeroT Tryz.prog 6 [.int .u8 0] := ⟨fun w => ⟨_, Tryz.zeroValue6 w, rfl⟩⟩
instance : IntT Tryz.prog 6 .u8 := ⟨Tryz.underlying6⟩
instance : TI Tryz.prog 7 true 4 := ⟨Tryz.isAgg7, Tryz.sizeOf7⟩
instance : ZeroT Tryz.prog 7 [.int .i64 0, .int .i64 0, .bool false, .int .u8 0] := ⟨fun w => ⟨_, Tryz.zeroValue7 w, rfl⟩⟩
instance : FdT Tryz.prog 7 0 0 := ⟨fun w b o => by have h := run_fieldAt_of (f := 0) Tryz.underlying7 rfl Tryz.sizeOf2 (by decide) w b o; exact h⟩
instance : FlT Tryz.prog 7 0 0 false 1 := ⟨fun w cs r v ht hv => by have h := @run_field_of _ _ _ 0 _ _ _ Tryz.underlying7 rfl Tryz.isAgg2 Tryz.sizeOf2 w cs r v; exact h ht hv⟩
instance : FdT Tryz.prog 7 1 1 := ⟨fun w b o => by have h := run_fieldAt_of (f := 1) Tryz.underlying7 rfl Tryz.sizeOf3 (by decide) w b o; exact h⟩
instance : FlT Tryz.prog 7 1 1 false 1 := ⟨fun w cs r v ht hv => by have h := @run_field_of _ _ _ 1 _ _ _ Tryz.underlying7 rfl Tryz.isAgg3 Tryz.sizeOf3 w cs r v; exact h ht hv⟩
instance : FdT Tryz.prog 7 2 2 := ⟨fun w b o => by have h := run_fieldAt_of (f := 2) Tryz.underlying7 rfl Tryz.sizeOf4 (by decide) w b o; exact h⟩
instance : FlT Tryz.prog 7 2 2 false 1 := ⟨fun w cs r v ht hv => by have h := @run_field_of _ _ _ 2 _ _ _ Tryz.underlying7 rfl Tryz.isAgg4 Tryz.sizeOf4 w cs r v; exact h ht hv⟩
instance : FdT Tryz.prog 7 3 3 := ⟨fun w b o => by have h := run_fieldAt_of (f := 3) Tryz.underlying7 rfl Tryz.sizeOf6 (by decide) w b o; exact h⟩
instance : FlT Tryz.prog 7 3 3 false 1 := ⟨fun w cs r v ht hv => by have h := @run_field_of _ _ _ 3 _ _ _ Tryz.underlying7 rfl Tryz.isAgg6 Tryz.sizeOf6 w cs r v; exact h ht hv⟩
instance : TI Tryz.prog 8 true 4 := ⟨Tryz.isAgg8, Tryz.sizeOf8⟩
instance : ZeroT Tryz.prog 8 [.int .i64 0, .int .i64 0, .bool false, .int .u8 0] := ⟨fun w => ⟨_, Tryz.zeroValue8 w, rfl⟩⟩
instance : FdT Tryz.prog 8 0 0 := ⟨fun w b o => by have h := run_fieldAt_of (f := 0) Tryz.underlying8 rfl Tryz.sizeOf2 (by decide) w b o; exact h⟩
instance : FlT Tryz.prog 8 0 0 false 1 := ⟨fun w cs r v ht hv => by have h := @run_field_of _ _ _ 0 _ _ _ Tryz.underlying8 rfl Tryz.isAgg2 Tryz.sizeOf2 w cs r v; exact h ht hv⟩
instance : FdT Tryz.prog 8 1 1 := ⟨fun w b o => by have h := run_fieldAt_of (f := 1) Tryz.underlying8 rfl Tryz.sizeOf3 (by decide) w b o; exact h⟩
instance : FlT Tryz.prog 8 1 1 false 1 := ⟨fun w cs r v ht hv => by have h := @run_field_of _ _ _ 1 _ _ _ Tryz.underlying8 rfl Tryz.isAgg3 Tryz.sizeOf3 w cs r v; exact h ht hv⟩
instance : FdT Tryz.prog 8 2 2 := ⟨fun w b o => by have h := run_fieldAt_of (f := 2) Tryz.underlying8 rfl Tryz.sizeOf4 (by decide) w b o; exact h⟩
instance : FlT Tryz.prog 8 2 2 false 1 := ⟨fun w cs r v ht hv => by have h := @run_field_of _ _ _ 2 _ _ _ Tryz.underlying8 rfl Tryz.isAgg4 Tryz.sizeOf4 w cs r v; exact h ht hv⟩
instance : FdT Tryz.prog 8 3 3 := ⟨fun w b o => by have h := run_fieldAt_of (f := 3) Tryz.underlying8 rfl Tryz.sizeOf6 (by decide) w b o; exact h⟩
instance : FlT Tryz.prog 8 3 3 false 1 := ⟨fun w cs r v ht hv => by have h := @run_field_of _ _ _ 3 _ _ _ Tryz.underlying8 rfl Tryz.isAgg6 Tryz.sizeOf6 w cs r v; exact h ht hv⟩
instance : TI Tryz.prog 9 false 1 := ⟨Tryz.isAgg9, Tryz.sizeOf9⟩
instance : ZeroT Tryz.prog 9 [.string ⟨#[]⟩] := ⟨fun w => ⟨_, Tryz.zeroValue9 w, rfl⟩⟩
instance : StrT Tryz.prog 9 := ⟨Tryz.underlying9⟩
instance : TI Tryz.prog 10 false 1 := ⟨Tryz.isAgg10, Tryz.sizeOf10⟩
instance : ZeroT Tryz.prog 10 [.string ⟨#[]⟩] := ⟨fun w => ⟨_, Tryz.zeroValue10 w, rfl⟩⟩
instance : StrT Tryz.prog 10 := ⟨Tryz.underlying10⟩
instance : TI Tryz.prog 11 false 1 := ⟨Tryz.isAgg11, Tryz.sizeOf11⟩
instance : ZeroT Tryz.prog 11 [.string ⟨#[]⟩] := ⟨fun w => ⟨_, Tryz.zeroValue11 w, rfl⟩⟩
instance : StrT Tryz.prog 11 := ⟨Tryz.underlying11⟩
instance : TI Tryz.prog 12 false 1 := ⟨Tryz.isAgg12, Tryz.sizeOf12⟩
instance : ZeroT Tryz.prog 12 [.int .u64 0] := ⟨fun w => ⟨_, Tryz.zeroValue12 w, rfl⟩⟩
instance : IntT Tryz.prog 12 .u64 := ⟨Tryz.underlying12⟩
instance : TI Tryz.prog 13 true 2 := ⟨Tryz.isAgg13, Tryz.sizeOf13⟩
instance : ZeroT Tryz.prog 13 [.string ⟨#[]⟩, .int .u64 0] := ⟨fun w => ⟨_, Tryz.zeroValue13 w, rfl⟩⟩
instance : FdT Tryz.prog 13 0 0 := ⟨fun w b o => by have h := run_fieldAt_of (f := 0) Tryz.underlying13 rfl Tryz.sizeOf9 (by decide) w b o; exact h⟩
instance : FlT Tryz.prog 13 0 0 false 1 := ⟨fun w cs r v ht hv => by have h := @run_field_of _ _ _ 0 _ _ _ Tryz.underlying13 rfl Tryz.isAgg9 Tryz.sizeOf9 w cs r v; exact h ht hv⟩
instance : FdT Tryz.prog 13 1 1 := ⟨fun w b o => by have h := run_fieldAt_of (f := 1) Tryz.underlying13 rfl Tryz.sizeOf12 (by decide) w b o; exact h⟩
instance : FlT Tryz.prog 13 1 1 false 1 := ⟨fun w cs r v ht hv => by have h := @run_field_of _ _ _ 1 _ _ _ Tryz.underlying13 rfl Tryz.isAgg12 Tryz.sizeOf12 w cs r v; exact h ht hv⟩
instance : TI Tryz.prog 14 true 2 := ⟨Tryz.isAgg14, Tryz.sizeOf14⟩
instance : ZeroT Tryz.prog 14 [.string ⟨#[]⟩, .int .u64 0] := ⟨fun w => ⟨_, Tryz.zeroValue14 w, rfl⟩⟩
instance : FdT Tryz.prog 14 0 0 := ⟨fun w b o => by have h := run_fieldAt_of (f := 0) Tryz.underlying14 rfl Tryz.sizeOf9 (by decide) w b o; exact h⟩
instance : FlT Tryz.prog 14 0 0 false 1 := ⟨fun w cs r v ht hv => by have h := @run_field_of _ _ _ 0 _ _ _ Tryz.underlying14 rfl Tryz.isAgg9 Tryz.sizeOf9 w cs r v; exact h ht hv⟩
instance : FdT Tryz.prog 14 1 1 := ⟨fun w b o => by have h := run_fieldAt_of (f := 1) Tryz.underlying14 rfl Tryz.sizeOf12 (by decide) w b o; exact h⟩
instance : FlT Tryz.prog 14 1 1 false 1 := ⟨fun w cs r v ht hv => by have h := @run_field_of _ _ _ 1 _ _ _ Tryz.underlying14 rfl Tryz.isAgg12 Tryz.sizeOf12 w cs r v; exact h ht hv⟩
instance : TI Tryz.prog 15 false 1 := ⟨Tryz.isAgg15, Tryz.sizeOf15⟩
instance : TI Tryz.prog 16 false 1 := ⟨Tryz.isAgg16, Tryz.sizeOf16⟩
instance : TI Tryz.prog 17 false 1 := ⟨Tryz.isAgg17, Tryz.sizeOf17⟩
instance : TI Tryz.prog 18 true 1 := ⟨Tryz.isAgg18, Tryz.sizeOf18⟩
instance : FdT Tryz.prog 18 0 0 := ⟨fun w b o => by have h := run_fieldAt_of (f := 0) Tryz.underlying18 rfl Tryz.sizeOf17 (by decide) w b o; exact h⟩
instance : FlT Tryz.prog 18 0 0 false 1 := ⟨fun w cs r v ht hv => by have h := @run_field_of _ _ _ 0 _ _ _ Tryz.underlying18 rfl Tryz.isAgg17 Tryz.sizeOf17 w cs r v; exact h ht hv⟩
instance : TI Tryz.prog 19 true 1 := ⟨Tryz.isAgg19, Tryz.sizeOf19⟩
instance : FdT Tryz.prog 19 0 0 := ⟨fun w b o => by have h := run_fieldAt_of (f := 0) Tryz.underlying19 rfl Tryz.sizeOf17 (by decide) w b o; exact h⟩
instance : FlT Tryz.prog 19 0 0 false 1 := ⟨fun w cs r v ht hv => by have h := @run_field_of _ _ _ 0 _ _ _ Tryz.underlying19 rfl Tryz.isAgg17 Tryz.sizeOf17 w cs r v; exact h ht hv⟩
instance : TI Tryz.prog 20 false 1 := ⟨Tryz.isAgg20, Tryz.sizeOf20⟩
instance : TI Tryz.prog 21 false 1 := ⟨Tryz.isAgg21, Tryz.sizeOf21⟩
instance : ZeroT Tryz.prog 21 [.int .i32 0] := ⟨fun w => ⟨_, Tryz.zeroValue21 w, rfl⟩⟩
instance : IntT Tryz.prog 21 .i32 := ⟨Tryz.underlying21⟩
instance : TI Tryz.prog 22 false 1 := ⟨Tryz.isAgg22, Tryz.sizeOf22⟩
instance : ZeroT Tryz.prog 22 [.slice none 0 0] := ⟨fun w => ⟨_, Tryz.zeroValue22 w, rfl⟩⟩
instance : SlT Tryz.prog 22 102 3 := ⟨Tryz.underlying22, Tryz.sizeOf102⟩
instance : ApT Tryz.prog 22 102 3 40 (.agg #[.int .i64 0, .int .i64 0, .slice none 0 0]) := ⟨Tryz.underlying22, by kernel_rfl, rfl, rfl, by decide⟩
instance : TI Tryz.prog 23 false 1 := ⟨Tryz.isAgg23, Tryz.sizeOf23⟩
instance : ZeroT Tryz.prog 23 [.slice none 0 0] := ⟨fun w => ⟨_, Tryz.zeroValue23 w, rfl⟩⟩
instance : SlT Tryz.prog 23 3 1 := ⟨Tryz.underlying23, Tryz.sizeOf3⟩
instance : ApT Tryz.prog 23 3 1 8 (.int .i64 0) := ⟨Tryz.underlying23, by kernel_rfl, rfl, rfl, by decide⟩
instance : TI Tryz.prog 24 true 7 := ⟨Tryz.isAgg24, Tryz.sizeOf24⟩
instance : ZeroT Tryz.prog 24 [.int .i64 0, .string ⟨#[]⟩, .int .i64 0, .int .i64 0, .int .i64 0, .slice none 0 0, .slice none 0 0] := ⟨fun w => ⟨_, Tryz.zeroValue24 w, rfl⟩⟩
instance : FdT Tryz.prog 24 0 0 := ⟨fun w b o => by have h := run_fieldAt_of (f := 0) Tryz.underlying24 rfl Tryz.sizeOf3 (by decide) w b o; exact h⟩
instance : FlT Tryz.prog 24 0 0 false 1 := ⟨fun w cs r v ht hv => by have h := @run_field_of _ _ _ 0 _ _ _ Tryz.underlying24 rfl Tryz.isAgg3 Tryz.sizeOf3 w cs r v; exact h ht hv⟩
instance : FdT Tryz.prog 24 1 1 := ⟨fun w b o => by have h := run_fieldAt_of (f := 1) Tryz.underlying24 rfl Tryz.sizeOf9 (by decide) w b o; exact h⟩
instance : FlT Tryz.prog 24 1 1 false 1 := ⟨fun w cs r v ht hv => by have h := @run_field_of _ _ _ 1 _ _ _ Tryz.underlying24 rfl Tryz.isAgg9 Tryz.sizeOf9 w cs r v; exact h ht hv⟩
instance : FdT Tryz.prog 24 2 2 := ⟨fun w b o => by have h := run_fieldAt_of (f := 2) Tryz.underlying24 rfl Tryz.sizeOf3 (by decide) w b o; exact h⟩
instance : FlT Tryz.prog 24 2 2 false 1 := ⟨fun w cs r v ht hv => by have h := @run_field_of _ _ _ 2 _ _ _ Tryz.underlying24 rfl Tryz.isAgg3 Tryz.sizeOf3 w cs r v; exact h ht hv⟩
instance : FdT Tryz.prog 24 3 3 := ⟨fun w b o => by have h := run_fieldAt_of (f := 3) Tryz.underlying24 rfl Tryz.sizeOf3 (by decide) w b o; exact h⟩
instance : FlT Tryz.prog 24 3 3 false 1 := ⟨fun w cs r v ht hv => by have h := @run_field_of _ _ _ 3 _ _ _ Tryz.underlying24 rfl Tryz.isAgg3 Tryz.sizeOf3 w cs r v; exact h ht hv⟩
instance : FdT Tryz.prog 24 4 4 := ⟨fun w b o => by have h := run_fieldAt_of (f := 4) Tryz.underlying24 rfl Tryz.sizeOf3 (by decide) w b o; exact h⟩
instance : FlT Tryz.prog 24 4 4 false 1 := ⟨fun w cs r v ht hv => by have h := @run_field_of _ _ _ 4 _ _ _ Tryz.underlying24 rfl Tryz.isAgg3 Tryz.sizeOf3 w cs r v; exact h ht hv⟩
instance : FdT Tryz.prog 24 5 5 := ⟨fun w b o => by have h := run_fieldAt_of (f := 5) Tryz.underlying24 rfl Tryz.sizeOf22 (by decide) w b o; exact h⟩
instance : FlT Tryz.prog 24 5 5 false 1 := ⟨fun w cs r v ht hv => by have h := @run_field_of _ _ _ 5 _ _ _ Tryz.underlying24 rfl Tryz.isAgg22 Tryz.sizeOf22 w cs r v; exact h ht hv⟩
instance : FdT Tryz.prog 24 6 6 := ⟨fun w b o => by have h := run_fieldAt_of (f := 6) Tryz.underlying24 rfl Tryz.sizeOf23 (by decide) w b o; exact h⟩
instance : FlT Tryz.prog 24 6 6 false 1 := ⟨fun w cs r v ht hv => by have h := @run_field_of _ _ _ 6 _ _ _ Tryz.underlying24 rfl Tryz.isAgg23 Tryz.sizeOf23 w cs r v; exact h ht hv⟩
instance : TI Tryz.prog 25 true 7 := ⟨Tryz.isAgg25, Tryz.sizeOf25⟩
instance : ZeroT Tryz.prog 25 [.int .i64 0, .string ⟨#[]⟩, .int .i64 0, .int .i64 0, .int .i64 0, .slice none 0 0, .slice none 0 0] := ⟨fun w => ⟨_, Tryz.zeroValue25 w, rfl⟩⟩
instance : FdT Tryz.prog 25 0 0 := ⟨fun w b o => by have h := run_fieldAt_of (f := 0) Tryz.underlying25 rfl Tryz.sizeOf3 (by decide) w b o; exact h⟩
instance : FlT Tryz.prog 25 0 0 false 1 := ⟨fun w cs r v ht hv => by have h := @run_field_of _ _ _ 0 _ _ _ Tryz.underlying25 rfl Tryz.isAgg3 Tryz.sizeOf3 w cs r v; exact h ht hv⟩
instance : FdT Tryz.prog 25 1 1 := ⟨fun w b o => by have h := run_fieldAt_of (f := 1) Tryz.underlying25 rfl Tryz.sizeOf9 (by decide) w b o; exact h⟩
instance : FlT Tryz.prog 25 1 1 false 1 := ⟨fun w cs r v ht hv => by have h := @run_field_of _ _ _ 1 _ _ _ Tryz.underlying25 rfl Tryz.isAgg9 Tryz.sizeOf9 w cs r v; exact h ht hv⟩
instance : FdT Tryz.prog 25 2 2 := ⟨fun w b o => by have h := run_fieldAt_of (f := 2) Tryz.underlying25 rfl Tryz.sizeOf3 (by decide) w b o; exact h⟩
instance : FlT Tryz.prog 25 2 2 false 1 := ⟨fun w cs r v ht hv => by have h := @run_field_of _ _ _ 2 _ _ _ Tryz.underlying25 rfl Tryz.isAgg3 Tryz.sizeOf3 w cs r v; exact h ht hv⟩
instance : FdT Tryz.prog 25 3 3 := ⟨fun w b o => by have h := run_fieldAt_of (f := 3) Tryz.underlying25 rfl Tryz.sizeOf3 (by decide) w b o; exact h⟩
instance : FlT Tryz.prog 25 3 3 false 1 := ⟨fun w cs r v ht hv => by have h := @run_field_of _ _ _ 3 _ _ _ Tryz.underlying25 rfl Tryz.isAgg3 Tryz.sizeOf3 w cs r v; exact h ht hv⟩
instance : FdT Tryz.prog 25 4 4 := ⟨fun w b o => by have h := run_fieldAt_of (f := 4) Tryz.underlying25 rfl Tryz.sizeOf3 (by decide) w b o; exact h⟩
instance : FlT Tryz.prog 25 4 4 false 1 := ⟨fun w cs r v ht hv => by have h := @run_field_of _ _ _ 4 _ _ _ Tryz.underlying25 rfl Tryz.isAgg3 Tryz.sizeOf3 w cs r v; exact h ht hv⟩
instance : FdT Tryz.prog 25 5 5 := ⟨fun w b o => by have h := run_fieldAt_of (f := 5) Tryz.underlying25 rfl Tryz.sizeOf22 (by decide) w b o; exact h⟩
instance : FlT Tryz.prog 25 5 5 false 1 := ⟨fun w cs r v ht hv => by have h := @run_field_of _ _ _ 5 _ _ _ Tryz.underlying25 rfl Tryz.isAgg22 Tryz.sizeOf22 w cs r v; exact h ht hv⟩
instance : FdT Tryz.prog 25 6 6 := ⟨fun w b o => by have h := run_fieldAt_of (f := 6) Tryz.underlying25 rfl Tryz.sizeOf23 (by decide) w b o; exact h⟩
instance : FlT Tryz.prog 25 6 6 false 1 := ⟨fun w cs r v ht hv => by have h := @run_field_of _ _ _ 6 _ _ _ Tryz.underlying25 rfl Tryz.isAgg23 Tryz.sizeOf23 w cs r v; exact h ht hv⟩
instance : TI Tryz.prog 26 false 1 := ⟨Tryz.isAgg26, Tryz.sizeOf26⟩
instance : TI Tryz.prog 27 false 1 := ⟨Tryz.isAgg27, Tryz.sizeOf27⟩
instance : TI Tryz.prog 28 false 1 := ⟨Tryz.isAgg28, Tryz.sizeOf28⟩
instance : ZeroT Tryz.prog 28 [.slice none 0 0] := ⟨fun w => ⟨_, Tryz.zeroValue28 w, rfl⟩⟩
instance : SlT Tryz.prog 28 105 3 := ⟨Tryz.underlying28, Tryz.sizeOf105⟩
instance : ApT Tryz.prog 28 105 3 40 (.agg #[.int .i64 0, .int .i64 0, .slice none 0 0]) := ⟨Tryz.underlying28, by kernel_rfl, rfl, rfl, by decide⟩
instance : TI Tryz.prog 29 true 7 := ⟨Tryz.isAgg29, Tryz.sizeOf29⟩
instance : ZeroT Tryz.prog 29 [.int .i64 0, .string ⟨#[]⟩, .int .i64 0, .int .i64 0, .int .i64 0, .slice none 0 0, .slice none 0 0] := ⟨fun w => ⟨_, Tryz.zeroValue29 w, rfl⟩⟩
instance : FdT Tryz.prog 29 0 0 := ⟨fun w b o => by have h := run_fieldAt_of (f := 0) Tryz.underlying29 rfl Tryz.sizeOf3 (by decide) w b o; exact h⟩
instance : FlT Tryz.prog 29 0 0 false 1 := ⟨fun w cs r v ht hv => by have h := @run_field_of _ _ _ 0 _ _ _ Tryz.underlying29 rfl Tryz.isAgg3 Tryz.sizeOf3 w cs r v; exact h ht hv⟩
instance : FdT Tryz.prog 29 1 1 := ⟨fun w b o => by have h := run_fieldAt_of (f := 1) Tryz.underlying29 rfl Tryz.sizeOf9 (by decide) w b o; exact h⟩
instance : FlT Tryz.prog 29 1 1 false 1 := ⟨fun w cs r v ht hv => by have h := @run_field_of _ _ _ 1 _ _ _ Tryz.underlying29 rfl Tryz.isAgg9 Tryz.sizeOf9 w cs r v; exact h ht hv⟩
instance : FdT Tryz.prog 29 2 2 := ⟨fun w b o => by have h := run_fieldAt_of (f := 2) Tryz.underlying29 rfl Tryz.sizeOf3 (by decide) w b o; exact h⟩
instance : FlT Tryz.prog 29 2 2 false 1 := ⟨fun w cs r v ht hv => by have h := @run_field_of _ _ _ 2 _ _ _ Tryz.underlying29 rfl Tryz.isAgg3 Tryz.sizeOf3 w cs r v; exact h ht hv⟩
instance : FdT Tryz.prog 29 3 3 := ⟨fun w b o => by have h := run_fieldAt_of (f := 3) Tryz.underlying29 rfl Tryz.sizeOf3 (by decide) w b o; exact h⟩
instance : FlT Tryz.prog 29 3 3 false 1 := ⟨fun w cs r v ht hv => by have h := @run_field_of _ _ _ 3 _ _ _ Tryz.underlying29 rfl Tryz.isAgg3 Tryz.sizeOf3 w cs r v; exact h ht hv⟩
instance : FdT Tryz.prog 29 4 4 := ⟨fun w b o => by have h := run_fieldAt_of (f := 4) Tryz.underlying29 rfl Tryz.sizeOf3 (by decide) w b o; exact h⟩
instance : FlT Tryz.prog 29 4 4 false 1 := ⟨fun w cs r v ht hv => by have h := @run_field_of _ _ _ 4 _ _ _ Tryz.underlying29 rfl Tryz.isAgg3 Tryz.sizeOf3 w cs r v; exact h ht hv⟩
instance : FdT Tryz.prog 29 5 5 := ⟨fun w b o => by have h := run_fieldAt_of (f := 5) Tryz.underlying29 rfl Tryz.sizeOf28 (by decide) w b o; exact h⟩
instance : FlT Tryz.prog 29 5 5 false 1 := ⟨fun w cs r v ht hv => by have h := @run_field_of _ _ _ 5 _ _ _ Tryz.underlying29 rfl Tryz.isAgg28 Tryz.sizeOf28 w cs r v; exact h ht hv⟩
instance : FdT Tryz.prog 29 6 6 := ⟨fun w b o => by have h := run_fieldAt_of (f := 6) Tryz.underlying29 rfl Tryz.sizeOf23 (by decide) w b o; exact h⟩
instance : FlT Tryz.prog 29 6 6 false 1 := ⟨fun w cs r v ht hv => by have h := @run_field_of _ _ _ 6 _ _ _ Tryz.underlying29 rfl Tryz.isAgg23 Tryz.sizeOf23 w cs r v; exact h ht hv⟩
instance : TI Tryz.prog 30 true 7 := ⟨Tryz.isAgg30, Tryz.sizeOf30⟩
instance : ZeroT Tryz.prog 30 [.int .i64 0, .string ⟨#[]⟩, .int .i64 0, .int .i64 0, .int .i64 0, .slice none 0 0, .slice none 0 0] := ⟨fun w => ⟨_, Tryz.zeroValue30 w, rfl⟩⟩
instance : FdT Tryz.prog 30 0 0 := ⟨fun w b o => by have h := run_fieldAt_of (f := 0) Tryz.underlying30 rfl Tryz.sizeOf3 (by decide) w b o; exact h⟩
instance : FlT Tryz.prog 30 0 0 false 1 := ⟨fun w cs r v ht hv => by have h := @run_field_of _ _ _ 0 _ _ _ Tryz.underlying30 rfl Tryz.isAgg3 Tryz.sizeOf3 w cs r v; exact h ht hv⟩
instance : FdT Tryz.prog 30 1 1 := ⟨fun w b o => by have h := run_fieldAt_of (f := 1) Tryz.underlying30 rfl Tryz.sizeOf9 (by decide) w b o; exact h⟩
instance : FlT Tryz.prog 30 1 1 false 1 := ⟨fun w cs r v ht hv => by have h := @run_field_of _ _ _ 1 _ _ _ Tryz.underlying30 rfl Tryz.isAgg9 Tryz.sizeOf9 w cs r v; exact h ht hv⟩
instance : FdT Tryz.prog 30 2 2 := ⟨fun w b o => by have h := run_fieldAt_of (f := 2) Tryz.underlying30 rfl Tryz.sizeOf3 (by decide) w b o; exact h⟩
instance : FlT Tryz.prog 30 2 2 false 1 := ⟨fun w cs r v ht hv => by have h := @run_field_of _ _ _ 2 _ _ _ Tryz.underlying30 rfl Tryz.isAgg3 Tryz.sizeOf3 w cs r v; exact h ht hv⟩
instance : FdT Tryz.prog 30 3 3 := ⟨fun w b o => by have h := run_fieldAt_of (f := 3) Tryz.underlying30 rfl Tryz.sizeOf3 (by decide) w b o; exact h⟩
instance : FlT Tryz.prog 30 3 3 false 1 := ⟨fun w cs r v ht hv => by have h := @run_field_of _ _ _ 3 _ _ _ Tryz.underlying30 rfl Tryz.isAgg3 Tryz.sizeOf3 w cs r v; exact h ht hv⟩
instance : FdT Tryz.prog 30 4 4 := ⟨fun w b o => by have h := run_fieldAt_of (f := 4) Tryz.underlying30 rfl Tryz.sizeOf3 (by decide) w b o; exact h⟩
instance : FlT Tryz.prog 30 4 4 false 1 := ⟨fun w cs r v ht hv => by have h := @run_field_of _ _ _ 4 _ _ _ Tryz.underlying30 rfl Tryz.isAgg3 Tryz.sizeOf3 w cs r v; exact h ht hv⟩
instance : FdT Tryz.prog 30 5 5 := ⟨fun w b o => by have h := run_fieldAt_of (f := 5) Tryz.underlying30 rfl Tryz.sizeOf28 (by decide) w b o; exact h⟩
instance : FlT Tryz.prog 30 5 5 false 1 := ⟨fun w cs r v ht hv => by have h := @run_field_of _ _ _ 5 _ _ _ Tryz.underlying30 rfl Tryz.isAgg28 Tryz.sizeOf28 w cs r v; exact h ht hv⟩
instance : FdT Tryz.prog 30 6 6 := ⟨fun w b o => by have h := run_fieldAt_of (f := 6) Tryz.underlying30 rfl Tryz.sizeOf23 (by decide) w b o; exact h⟩
instance : FlT Tryz.prog 30 6 6 false 1 := ⟨fun w cs r v ht hv => by have h := @run_field_of _ _ _ 6 _ _ _ Tryz.underlying30 rfl Tryz.isAgg23 Tryz.sizeOf23 w cs r v; exact h ht hv⟩
instance : TI Tryz.prog 31 false 1 := ⟨Tryz.isAgg31, Tryz.sizeOf31⟩
instance : TI Tryz.prog 32 false 1 := ⟨Tryz.isAgg32, Tryz.sizeOf32⟩
instance : TI Tryz.prog 33 false 1 := ⟨Tryz.isAgg33, Tryz.sizeOf33⟩
instance : TI Tryz.prog 34 true 4 := ⟨Tryz.isAgg34, Tryz.sizeOf34⟩
instance : ZeroT Tryz.prog 34 [.int .i64 0, .int .i64 0, .int .i64 0, .slice none 0 0] := ⟨fun w => ⟨_, Tryz.zeroValue34 w, rfl⟩⟩
instance : FdT Tryz.prog 34 0 0 := ⟨fun w b o => by have h := run_fieldAt_of (f := 0) Tryz.underlying34 rfl Tryz.sizeOf3 (by decide) w b o; exact h⟩
instance : FlT Tryz.prog 34 0 0 false 1 := ⟨fun w cs r v ht hv => by have h := @run_field_of _ _ _ 0 _ _ _ Tryz.underlying34 rfl Tryz.isAgg3 Tryz.sizeOf3 w cs r v; exact h ht hv⟩
instance : FdT Tryz.prog 34 1 1 := ⟨fun w b o => by have h := run_fieldAt_of (f := 1) Tryz.underlying34 rfl Tryz.sizeOf3 (by decide) w b o; exact h⟩
instance : FlT Tryz.prog 34 1 1 false 1 := ⟨fun w cs r v ht hv => by have h := @run_field_of _ _ _ 1 _ _ _ Tryz.underlying34 rfl Tryz.isAgg3 Tryz.sizeOf3 w cs r v; exact h ht hv⟩
instance : FdT Tryz.prog 34 2 2 := ⟨fun w b o => by have h := run_fieldAt_of (f := 2) Tryz.underlying34 rfl Tryz.sizeOf3 (by decide) w b o; exact h⟩
instance : FlT Tryz.prog 34 2 2 false 1 := ⟨fun w cs r v ht hv => by have h := @run_field_of _ _ _ 2 _ _ _ Tryz.underlying34 rfl Tryz.isAgg3 Tryz.sizeOf3 w cs r v; exact h ht hv⟩
instance : FdT Tryz.prog 34 3 3 := ⟨fun w b o => by have h := run_fieldAt_of (f := 3) Tryz.underlying34 rfl Tryz.sizeOf28 (by decide) w b o; exact h⟩
instance : FlT Tryz.prog 34 3 3 false 1 := ⟨fun w cs r v ht hv => by have h := @run_field_of _ _ _ 3 _ _ _ Tryz.underlying34 rfl Tryz.isAgg28 Tryz.sizeOf28 w cs r v; exact h ht hv⟩
instance : TI Tryz.prog 35 true 4 := ⟨Tryz.isAgg35, Tryz.sizeOf35⟩
instance : ZeroT Tryz.prog 35 [.int .i64 0, .int .i64 0, .int .i64 0, .slice none 0 0] := ⟨fun w => ⟨_, Tryz.zeroValue35 w, rfl⟩⟩
instance : FdT Tryz.prog 35 0 0 := ⟨fun w b o => by have h := run_fieldAt_of (f := 0) Tryz.underlying35 rfl Tryz.sizeOf3 (by decide) w b o; exact h⟩
instance : FlT Tryz.prog 35 0 0 false 1 := ⟨fun w cs r v ht hv => by have h := @run_field_of _ _ _ 0 _ _ _ Tryz.underlying35 rfl Tryz.isAgg3 Tryz.sizeOf3 w cs r v; exact h ht hv⟩
instance : FdT Tryz.prog 35 1 1 := ⟨fun w b o => by have h := run_fieldAt_of (f := 1) Tryz.underlying35 rfl Tryz.sizeOf3 (by decide) w b o; exact h⟩
instance : FlT Tryz.prog 35 1 1 false 1 := ⟨fun w cs r v ht hv => by have h := @run_field_of _ _ _ 1 _ _ _ Tryz.underlying35 rfl Tryz.isAgg3 Tryz.sizeOf3 w cs r v; exact h ht hv⟩
instance : FdT Tryz.prog 35 2 2 := ⟨fun w b o => by have h := run_fieldAt_of (f := 2) Tryz.underlying35 rfl Tryz.sizeOf3 (by decide) w b o; exact h⟩
instance : FlT Tryz.prog 35 2 2 false 1 := ⟨fun w cs r v ht hv => by have h := @run_field_of _ _ _ 2 _ _ _ Tryz.underlying35 rfl Tryz.isAgg3 Tryz.sizeOf3 w cs r v; exact h ht hv⟩
instance : FdT Tryz.prog 35 3 3 := ⟨fun w b o => by have h := run_fieldAt_of (f := 3) Tryz.underlying35 rfl Tryz.sizeOf28 (by decide) w b o; exact h⟩
instance : FlT Tryz.prog 35 3 3 false 1 := ⟨fun w cs r v ht hv => by have h := @run_field_of _ _ _ 3 _ _ _ Tryz.underlying35 rfl Tryz.isAgg28 Tryz.sizeOf28 w cs r v; exact h ht hv⟩
instance : TI Tryz.prog 37 false 1 := ⟨Tryz.isAgg37, Tryz.sizeOf37⟩
instance : TI Tryz.prog 38 false 1 := ⟨Tryz.isAgg38, Tryz.sizeOf38⟩
instance : TI Tryz.prog 39 false 1 := ⟨Tryz.isAgg39, Tryz.sizeOf39⟩
instance : TI Tryz.prog 40 false 1 := ⟨Tryz.isAgg40, Tryz.sizeOf40⟩
instance : TI Tryz.prog 42 false 1 := ⟨Tryz.isAgg42, Tryz.sizeOf42⟩
instance : TI Tryz.prog 43 false 1 := ⟨Tryz.isAgg43, Tryz.sizeOf43⟩
instance : TI Tryz.prog 44 false 1 := ⟨Tryz.isAgg44, Tryz.sizeOf44⟩
instance : ZeroT Tryz.prog 44 [.slice none 0 0] := ⟨fun w => ⟨_, Tryz.zeroValue44 w, rfl⟩⟩
instance : BytT Tryz.prog 44 5 := ⟨Tryz.underlying44, Tryz.underlying5⟩
instance : SlT Tryz.prog 44 5 1 := ⟨Tryz.underlying44, Tryz.sizeOf5⟩
instance : ApT Tryz.prog 44 5 1 1 (.int .u8 0) := ⟨Tryz.underlying44, by kernel_rfl, rfl, rfl, by decide⟩
instance : TI Tryz.prog 45 false 1 := ⟨Tryz.isAgg45, Tryz.sizeOf45⟩
instance : ZeroT Tryz.prog 45 [.slice none 0 0] := ⟨fun w => ⟨_, Tryz.zeroValue45 w, rfl⟩⟩
instance : SlT Tryz.prog 45 55 5 := ⟨Tryz.underlying45, Tryz.sizeOf55⟩
instance : ApT Tryz.prog 45 55 5 96 (.agg #[.string ⟨#[]⟩, .int .i64 0, .slice none 0 0, .slice none 0 0, .slice none 0 0]) := ⟨Tryz.underlying45, by kernel_rfl, rfl, rfl, by decide⟩
instance : TI Tryz.prog 46 false 1 := ⟨Tryz.isAgg46, Tryz.sizeOf46⟩
instance : ZeroT Tryz.prog 46 [.slice none 0 0] := ⟨fun w => ⟨_, Tryz.zeroValue46 w, rfl⟩⟩
instance : SlT Tryz.prog 46 198 6 := ⟨Tryz.underlying46, Tryz.sizeOf198⟩
instance : ApT Tryz.prog 46 198 6 72 (.agg #[.int .i64 0, .string ⟨#[]⟩, .int .i64 0, .int .i64 0, .bool false, .slice none 0 0]) := ⟨Tryz.underlying46, by kernel_rfl, rfl, rfl, by decide⟩
instance : TI Tryz.prog 47 true 4 := ⟨Tryz.isAgg47, Tryz.sizeOf47⟩
instance : ZeroT Tryz.prog 47 [.bool false, .slice none 0 0, .slice none 0 0, .int .i64 0] := ⟨fun w => ⟨_, Tryz.zeroValue47 w, rfl⟩⟩
instance : FdT Tryz.prog 47 0 0 := ⟨fun w b o => by have h := run_fieldAt_of (f := 0) Tryz.underlying47 rfl Tryz.sizeOf4 (by decide) w b o; exact h⟩
instance : FlT Tryz.prog 47 0 0 false 1 := ⟨fun w cs r v ht hv => by have h := @run_field_of _ _ _ 0 _ _ _ Tryz.underlying47 rfl Tryz.isAgg4 Tryz.sizeOf4 w cs r v; exact h ht hv⟩
instance : FdT Tryz.prog 47 1 1 := ⟨fun w b o => by have h := run_fieldAt_of (f := 1) Tryz.underlying47 rfl Tryz.sizeOf45 (by decide) w b o; exact h⟩
instance : FlT Tryz.prog 47 1 1 false 1 := ⟨fun w cs r v ht hv => by have h := @run_field_of _ _ _ 1 _ _ _ Tryz.underlying47 rfl Tryz.isAgg45 Tryz.sizeOf45 w cs r v; exact h ht hv⟩
instance : FdT Tryz.prog 47 2 2 := ⟨fun w b o => by have h := run_fieldAt_of (f := 2) Tryz.underlying47 rfl Tryz.sizeOf46 (by decide) w b o; exact h⟩
instance : FlT Tryz.prog 47 2 2 false 1 := ⟨fun w cs r v ht hv => by have h := @run_field_of _ _ _ 2 _ _ _ Tryz.underlying47 rfl Tryz.isAgg46 Tryz.sizeOf46 w cs r v; exact h ht hv⟩
instance : FdT Tryz.prog 47 3 3 := ⟨fun w b o => by have h := run_fieldAt_of (f := 3) Tryz.underlying47 rfl Tryz.sizeOf3 (by decide) w b o; exact h⟩
instance : FlT Tryz.prog 47 3 3 false 1 := ⟨fun w cs r v ht hv => by have h := @run_field_of _ _ _ 3 _ _ _ Tryz.underlying47 rfl Tryz.isAgg3 Tryz.sizeOf3 w cs r v; exact h ht hv⟩
instance : TI Tryz.prog 48 true 4 := ⟨Tryz.isAgg48, Tryz.sizeOf48⟩
instance : ZeroT Tryz.prog 48 [.bool false, .slice none 0 0, .slice none 0 0, .int .i64 0] := ⟨fun w => ⟨_, Tryz.zeroValue48 w, rfl⟩⟩
instance : FdT Tryz.prog 48 0 0 := ⟨fun w b o => by have h := run_fieldAt_of (f := 0) Tryz.underlying48 rfl Tryz.sizeOf4 (by decide) w b o; exact h⟩
instance : FlT Tryz.prog 48 0 0 false 1 := ⟨fun w cs r v ht hv => by have h := @run_field_of _ _ _ 0 _ _ _ Tryz.underlying48 rfl Tryz.isAgg4 Tryz.sizeOf4 w cs r v; exact h ht hv⟩
instance : FdT Tryz.prog 48 1 1 := ⟨fun w b o => by have h := run_fieldAt_of (f := 1) Tryz.underlying48 rfl Tryz.sizeOf45 (by decide) w b o; exact h⟩
instance : FlT Tryz.prog 48 1 1 false 1 := ⟨fun w cs r v ht hv => by have h := @run_field_of _ _ _ 1 _ _ _ Tryz.underlying48 rfl Tryz.isAgg45 Tryz.sizeOf45 w cs r v; exact h ht hv⟩
instance : FdT Tryz.prog 48 2 2 := ⟨fun w b o => by have h := run_fieldAt_of (f := 2) Tryz.underlying48 rfl Tryz.sizeOf46 (by decide) w b o; exact h⟩
instance : FlT Tryz.prog 48 2 2 false 1 := ⟨fun w cs r v ht hv => by have h := @run_field_of _ _ _ 2 _ _ _ Tryz.underlying48 rfl Tryz.isAgg46 Tryz.sizeOf46 w cs r v; exact h ht hv⟩
instance : FdT Tryz.prog 48 3 3 := ⟨fun w b o => by have h := run_fieldAt_of (f := 3) Tryz.underlying48 rfl Tryz.sizeOf3 (by decide) w b o; exact h⟩
instance : FlT Tryz.prog 48 3 3 false 1 := ⟨fun w cs r v ht hv => by have h := @run_field_of _ _ _ 3 _ _ _ Tryz.underlying48 rfl Tryz.isAgg3 Tryz.sizeOf3 w cs r v; exact h ht hv⟩
instance : TI Tryz.prog 49 false 1 := ⟨Tryz.isAgg49, Tryz.sizeOf49⟩
instance : TI Tryz.prog 50 false 1 := ⟨Tryz.isAgg50, Tryz.sizeOf50⟩
instance : ZeroT Tryz.prog 50 [.slice none 0 0] := ⟨fun w => ⟨_, Tryz.zeroValue50 w, rfl⟩⟩
instance : SlT Tryz.prog 50 30 7 := ⟨Tryz.underlying50, Tryz.sizeOf30⟩
instance : ApT Tryz.prog 50 30 7 96 (.agg #[.int .i64 0, .string ⟨#[]⟩, .int .i64 0, .int .i64 0, .int .i64 0, .slice none 0 0, .slice none 0 0]) := ⟨Tryz.underlying50, by kernel_rfl, rfl, rfl, by decide⟩
instance : TI Tryz.prog 51 false 1 := ⟨Tryz.isAgg51, Tryz.sizeOf51⟩
instance : TI Tryz.prog 52 false 1 := ⟨Tryz.isAgg52, Tryz.sizeOf52⟩
instance : ZeroT Tryz.prog 52 [.slice none 0 0] := ⟨fun w => ⟨_, Tryz.zeroValue52 w, rfl⟩⟩
instance : SlT Tryz.prog 52 214 3 := ⟨Tryz.underlying52, Tryz.sizeOf214⟩
instance : ApT Tryz.prog 52 214 3 40 (.agg #[.int .i64 0, .int .i64 0, .slice none 0 0]) := ⟨Tryz.underlying52, by kernel_rfl, rfl, rfl, by decide⟩
instance : TI Tryz.prog 53 false 1 := ⟨Tryz.isAgg53, Tryz.sizeOf53⟩
instance : ZeroT Tryz.prog 53 [.slice none 0 0] := ⟨fun w => ⟨_, Tryz.zeroValue53 w, rfl⟩⟩
instance : SlT Tryz.prog 53 155 3 := ⟨Tryz.underlying53, Tryz.sizeOf155⟩
instance : ApT Tryz.prog 53 155 3 24 (.agg #[.int .i64 0, .int .i64 0, .int .i64 0]) := ⟨Tryz.underlying53, by kernel_rfl, rfl, rfl, by decide⟩
instance : TI Tryz.prog 54 true 5 := ⟨Tryz.isAgg54, Tryz.sizeOf54⟩
instance : ZeroT Tryz.prog 54 [.string ⟨#[]⟩, .int .i64 0, .slice none 0 0, .slice none 0 0, .slice none 0 0] := ⟨fun w => ⟨_, Tryz.zeroValue54 w, rfl⟩⟩
instance : FdT Tryz.prog 54 0 0 := ⟨fun w b o => by have h := run_fieldAt_of (f := 0) Tryz.underlying54 rfl Tryz.sizeOf9 (by decide) w b o; exact h⟩
instance : FlT Tryz.prog 54 0 0 false 1 := ⟨fun w cs r v ht hv => by have h := @run_field_of _ _ _ 0 _ _ _ Tryz.underlying54 rfl Tryz.isAgg9 Tryz.sizeOf9 w cs r v; exact h ht hv⟩
instance : FdT Tryz.prog 54 1 1 := ⟨fun w b o => by have h := run_fieldAt_of (f := 1) Tryz.underlying54 rfl Tryz.sizeOf3 (by decide) w b o; exact h⟩
instance : FlT Tryz.prog 54 1 1 false 1 := ⟨fun w cs r v ht hv => by have h := @run_field_of _ _ _ 1 _ _ _ Tryz.underlying54 rfl Tryz.isAgg3 Tryz.sizeOf3 w cs r v; exact h ht hv⟩
instance : FdT Tryz.prog 54 2 2 := ⟨fun w b o => by have h := run_fieldAt_of (f := 2) Tryz.underlying54 rfl Tryz.sizeOf23 (by decide) w b o; exact h⟩
instance : FlT Tryz.prog 54 2 2 false 1 := ⟨fun w cs r v ht hv => by have h := @run_field_of _ _ _ 2 _ _ _ Tryz.underlying54 rfl Tryz.isAgg23 Tryz.sizeOf23 w cs r v; exact h ht hv⟩
instance : FdT Tryz.prog 54 3 3 := ⟨fun w b o => by have h := run_fieldAt_of (f := 3) Tryz.underlying54 rfl Tryz.sizeOf52 (by decide) w b o; exact h⟩
instance : FlT Tryz.prog 54 3 3 false 1 := ⟨fun w cs r v ht hv => by have h := @run_field_of _ _ _ 3 _ _ _ Tryz.underlying54 rfl Tryz.isAgg52 Tryz.sizeOf52 w cs r v; exact h ht hv⟩
instance : FdT Tryz.prog 54 4 4 := ⟨fun w b o => by have h := run_fieldAt_of (f := 4) Tryz.underlying54 rfl Tryz.sizeOf53 (by decide) w b o; exact h⟩
instance : FlT Tryz.prog 54 4 4 false 1 := ⟨fun w cs r v ht hv => by have h := @run_field_of _ _ _ 4 _ _ _ Tryz.underlying54 rfl Tryz.isAgg53 Tryz.sizeOf53 w cs r v; exact h ht hv⟩
instance : TI Tryz.prog 55 true 5 := ⟨Tryz.isAgg55, Tryz.sizeOf55⟩
instance : ZeroT Tryz.prog 55 [.string ⟨#[]⟩, .int .i64 0, .slice none 0 0, .slice none 0 0, .slice none 0 0] := ⟨fun w => ⟨_, Tryz.zeroValue55 w, rfl⟩⟩
instance : FdT Tryz.prog 55 0 0 := ⟨fun w b o => by have h := run_fieldAt_of (f := 0) Tryz.underlying55 rfl Tryz.sizeOf9 (by decide) w b o; exact h⟩
instance : FlT Tryz.prog 55 0 0 false 1 := ⟨fun w cs r v ht hv => by have h := @run_field_of _ _ _ 0 _ _ _ Tryz.underlying55 rfl Tryz.isAgg9 Tryz.sizeOf9 w cs r v; exact h ht hv⟩
instance : FdT Tryz.prog 55 1 1 := ⟨fun w b o => by have h := run_fieldAt_of (f := 1) Tryz.underlying55 rfl Tryz.sizeOf3 (by decide) w b o; exact h⟩
instance : FlT Tryz.prog 55 1 1 false 1 := ⟨fun w cs r v ht hv => by have h := @run_field_of _ _ _ 1 _ _ _ Tryz.underlying55 rfl Tryz.isAgg3 Tryz.sizeOf3 w cs r v; exact h ht hv⟩
instance : FdT Tryz.prog 55 2 2 := ⟨fun w b o => by have h := run_fieldAt_of (f := 2) Tryz.underlying55 rfl Tryz.sizeOf23 (by decide) w b o; exact h⟩
instance : FlT Tryz.prog 55 2 2 false 1 := ⟨fun w cs r v ht hv => by have h := @run_field_of _ _ _ 2 _ _ _ Tryz.underlying55 rfl Tryz.isAgg23 Tryz.sizeOf23 w cs r v; exact h ht hv⟩
instance : FdT Tryz.prog 55 3 3 := ⟨fun w b o => by have h := run_fieldAt_of (f := 3) Tryz.underlying55 rfl Tryz.sizeOf52 (by decide) w b o; exact h⟩
instance : FlT Tryz.prog 55 3 3 false 1 := ⟨fun w cs r v ht hv => by have h := @run_field_of _ _ _ 3 _ _ _ Tryz.underlying55 rfl Tryz.isAgg52 Tryz.sizeOf52 w cs r v; exact h ht hv⟩
instance : FdT Tryz.prog 55 4 4 := ⟨fun w b o => by have h := run_fieldAt_of (f := 4) Tryz.underlying55 rfl Tryz.sizeOf53 (by decide) w b o; exact h⟩
instance : FlT Tryz.prog 55 4 4 false 1 := ⟨fun w cs r v ht hv => by have h := @run_field_of _ _ _ 4 _ _ _ Tryz.underlying55 rfl Tryz.isAgg53 Tryz.sizeOf53 w cs r v; exact h ht hv⟩
instance : TI Tryz.prog 56 false 1 := ⟨Tryz.isAgg56, Tryz.sizeOf56⟩
instance : ZeroT Tryz.prog 56 [.slice none 0 0] := ⟨fun w => ⟨_, Tryz.zeroValue56 w, rfl⟩⟩
instance : SlT Tryz.prog 56 129 7 := ⟨Tryz.underlying56, Tryz.sizeOf129⟩
instance : ApT Tryz.prog 56 129 7 104 (.agg #[.int .i64 0, .int .i64 0, .int .i64 0, .slice none 0 0, .bool false, .slice none 0 0, .slice none 0 0]) := ⟨Tryz.underlying56, by kernel_rfl, rfl, rfl, by decide⟩
instance : TI Tryz.prog 57 true 6 := ⟨Tryz.isAgg57, Tryz.sizeOf57⟩
instance : ZeroT Tryz.prog 57 [.string ⟨#[]⟩, .int .i64 0, .slice none 0 0, .slice none 0 0, .slice none 0 0, .slice none 0 0] := ⟨fun w => ⟨_, Tryz.zeroValue57 w, rfl⟩⟩
instance : FdT Tryz.prog 57 0 0 := ⟨fun w b o => by have h := run_fieldAt_of (f := 0) Tryz.underlying57 rfl Tryz.sizeOf55 (by decide) w b o; exact h⟩
instance : FlT Tryz.prog 57 0 0 true 5 := ⟨fun w cs r v ht hv => by have h := @run_field_of _ _ _ 0 _ _ _ Tryz.underlying57 rfl Tryz.isAgg55 Tryz.sizeOf55 w cs r v; exact h ht hv⟩
instance : FdT Tryz.prog 57 1 5 := ⟨fun w b o => by have h := run_fieldAt_of (f := 1) Tryz.underlying57 rfl Tryz.sizeOf56 (by decide) w b o; exact h⟩
instance : FlT Tryz.prog 57 1 5 false 1 := ⟨fun w cs r v ht hv => by have h := @run_field_of _ _ _ 1 _ _ _ Tryz.underlying57 rfl Tryz.isAgg56 Tryz.sizeOf56 w cs r v; exact h ht hv⟩
instance : TI Tryz.prog 58 true 6 := ⟨Tryz.isAgg58, Tryz.sizeOf58⟩
instance : ZeroT Tryz.prog 58 [.string ⟨#[]⟩, .int .i64 0, .slice none 0 0, .slice none 0 0, .slice none 0 0, .slice none 0 0] := ⟨fun w => ⟨_, Tryz.zeroValue58 w, rfl⟩⟩
instance : FdT Tryz.prog 58 0 0 := ⟨fun w b o => by have h := run_fieldAt_of (f := 0) Tryz.underlying58 rfl Tryz.sizeOf55 (by decide) w b o; exact h⟩
instance : FlT Tryz.prog 58 0 0 true 5 := ⟨fun w cs r v ht hv => by have h := @run_field_of _ _ _ 0 _ _ _ Tryz.underlying58 rfl Tryz.isAgg55 Tryz.sizeOf55 w cs r v; exact h ht hv⟩
instance : FdT Tryz.prog 58 1 5 := ⟨fun w b o => by have h := run_fieldAt_of (f := 1) Tryz.underlying58 rfl Tryz.sizeOf56 (by decide) w b o; exact h⟩
instance : FlT Tryz.prog 58 1 5 false 1 := ⟨fun w cs r v ht hv => by have h := @run_field_of _ _ _ 1 _ _ _ Tryz.underlying58 rfl Tryz.isAgg56 Tryz.sizeOf56 w cs r v; exact h ht hv⟩
instance : TI Tryz.prog 59 false 1 := ⟨Tryz.isAgg59, Tryz.sizeOf59⟩
instance : TI Tryz.prog 60 false 1 := ⟨Tryz.isAgg60, Tryz.sizeOf60⟩
instance : TI Tryz.prog 61 false 1 := ⟨Tryz.isAgg61, Tryz.sizeOf61⟩
instance : TI Tryz.prog 62 false 1 := ⟨Tryz.isAgg62, Tryz.sizeOf62⟩
instance : TI Tryz.prog 63 false 1 := ⟨Tryz.isAgg63, Tryz.sizeOf63⟩
instance : TI Tryz.prog 64 false 1 := ⟨Tryz.isAgg64, Tryz.sizeOf64⟩
instance : TI Tryz.prog 65 false 1 := ⟨Tryz.isAgg65, Tryz.sizeOf65⟩
instance : TI Tryz.prog 66 false 1 := ⟨Tryz.isAgg66, Tryz.sizeOf66⟩
instance : TI Tryz.prog 67 false 1 := ⟨Tryz.isAgg67, Tryz.sizeOf67⟩
instance : TI Tryz.prog 68 false 1 := ⟨Tryz.isAgg68, Tryz.sizeOf68⟩
instance : TI Tryz.prog 70 false 1 := ⟨Tryz.isAgg70, Tryz.sizeOf70⟩
instance : TI Tryz.prog 71 false 1 := ⟨Tryz.isAgg71, Tryz.sizeOf71⟩
instance : TI Tryz.prog 72 false 1 := ⟨Tryz.isAgg72, Tryz.sizeOf72⟩
instance : ZeroT Tryz.prog 72 [.slice none 0 0] := ⟨fun w => ⟨_, Tryz.zeroValue72 w, rfl⟩⟩
instance : SlT Tryz.prog 72 9 1 := ⟨Tryz.underlying72, Tryz.sizeOf9⟩
instance : ApT Tryz.prog 72 9 1 16 (.string ⟨#[]⟩) := ⟨Tryz.underlying72, by kernel_rfl, rfl, rfl, by decide⟩
instance : TI Tryz.prog 73 false 1 := ⟨Tryz.isAgg73, Tryz.sizeOf73⟩
instance : TI Tryz.prog 74 false 1 := ⟨Tryz.isAgg74, Tryz.sizeOf74⟩
instance : TI Tryz.prog 75 false 1 := ⟨Tryz.isAgg75, Tryz.sizeOf75⟩
instance : TI Tryz.prog 76 false 1 := ⟨Tryz.isAgg76, Tryz.sizeOf76⟩
instance : TI Tryz.prog 77 false 1 := ⟨Tryz.isAgg77, Tryz.sizeOf77⟩
instance : TI Tryz.prog 78 false 1 := ⟨Tryz.isAgg78, Tryz.sizeOf78⟩
instance : TI Tryz.prog 79 false 1 := ⟨Tryz.isAgg79, Tryz.sizeOf79⟩
instance : TI Tryz.prog 81 false 1 := ⟨Tryz.isAgg81, Tryz.sizeOf81⟩
instance : TI Tryz.prog 82 false 1 := ⟨Tryz.isAgg82, Tryz.sizeOf82⟩
instance : TI Tryz.prog 84 false 1 := ⟨Tryz.isAgg84, Tryz.sizeOf84⟩
instance : TI Tryz.prog 85 false 1 := ⟨Tryz.isAgg85, Tryz.sizeOf85⟩
instance : TI Tryz.prog 86 false 1 := ⟨Tryz.isAgg86, Tryz.sizeOf86⟩
instance : TI Tryz.prog 88 false 1 := ⟨Tryz.isAgg88, Tryz.sizeOf88⟩
instance : TI Tryz.prog 89 false 1 := ⟨Tryz.isAgg89, Tryz.sizeOf89⟩
instance : TI Tryz.prog 91 false 1 := ⟨Tryz.isAgg91, Tryz.sizeOf91⟩
instance : TI Tryz.prog 92 false 1 := ⟨Tryz.isAgg92, Tryz.sizeOf92⟩
instance : TI Tryz.prog 93 false 1 := ⟨Tryz.isAgg93, Tryz.sizeOf93⟩
instance : TI Tryz.prog 94 false 1 := ⟨Tryz.isAgg94, Tryz.sizeOf94⟩
instance : TI Tryz.prog 95 true 3 := ⟨Tryz.isAgg95, Tryz.sizeOf95⟩
instance : ZeroT Tryz.prog 95 [.slice none 0 0, .int .i64 0, .int .i64 0] := ⟨fun w => ⟨_, Tryz.zeroValue95 w, rfl⟩⟩
instance : FdT Tryz.prog 95 0 0 := ⟨fun w b o => by have h := run_fieldAt_of (f := 0) Tryz.underlying95 rfl Tryz.sizeOf44 (by decide) w b o; exact h⟩
instance : FlT Tryz.prog 95 0 0 false 1 := ⟨fun w cs r v ht hv => by have h := @run_field_of _ _ _ 0 _ _ _ Tryz.underlying95 rfl Tryz.isAgg44 Tryz.sizeOf44 w cs r v; exact h ht hv⟩
instance : FdT Tryz.prog 95 1 1 := ⟨fun w b o => by have h := run_fieldAt_of (f := 1) Tryz.underlying95 rfl Tryz.sizeOf3 (by decide) w b o; exact h⟩
instance : FlT Tryz.prog 95 1 1 false 1 := ⟨fun w cs r v ht hv => by have h := @run_field_of _ _ _ 1 _ _ _ Tryz.underlying95 rfl Tryz.isAgg3 Tryz.sizeOf3 w cs r v; exact h ht hv⟩
instance : FdT Tryz.prog 95 2 2 := ⟨fun w b o => by have h := run_fieldAt_of (f := 2) Tryz.underlying95 rfl Tryz.sizeOf3 (by decide) w b o; exact h⟩
instance : FlT Tryz.prog 95 2 2 false 1 := ⟨fun w cs r v ht hv => by have h := @run_field_of _ _ _ 2 _ _ _ Tryz.underlying95 rfl Tryz.isAgg3 Tryz.sizeOf3 w cs r v; exact h ht hv⟩
instance : TI Tryz.prog 96 true 3 := ⟨Tryz.isAgg96, Tryz.sizeOf96⟩
instance : ZeroT Tryz.prog 96 [.slice none 0 0, .int .i64 0, .int .i64 0] := ⟨fun w => ⟨_, Tryz.zeroValue96 w, rfl⟩⟩
instance : FdT Tryz.prog 96 0 0 := ⟨fun w b o => by have h := run_fieldAt_of (f := 0) Tryz.underlying96 rfl Tryz.sizeOf44 (by decide) w b o; exact h⟩
instance : FlT Tryz.prog 96 0 0 false 1 := ⟨fun w cs r v ht hv => by have h := @run_field_of _ _ _ 0 _ _ _ Tryz.underlying96 rfl Tryz.isAgg44 Tryz.sizeOf44 w cs r v; exact h ht hv⟩
instance : FdT Tryz.prog 96 1 1 := ⟨fun w b o => by have h := run_fieldAt_of (f := 1) Tryz.underlying96 rfl Tryz.sizeOf3 (by decide) w b o; exact h⟩
instance : FlT Tryz.prog 96 1 1 false 1 := ⟨fun w cs r v ht hv => by have h := @run_field_of _ _ _ 1 _ _ _ Tryz.underlying96 rfl Tryz.isAgg3 Tryz.sizeOf3 w cs r v; exact h ht hv⟩
instance : FdT Tryz.prog 96 2 2 := ⟨fun w b o => by have h := run_fieldAt_of (f := 2) Tryz.underlying96 rfl Tryz.sizeOf3 (by decide) w b o; exact h⟩
instance : FlT Tryz.prog 96 2 2 false 1 := ⟨fun w cs r v ht hv => by have h := @run_field_of _ _ _ 2 _ _ _ Tryz.underlying96 rfl Tryz.isAgg3 Tryz.sizeOf3 w cs r v; exact h ht hv⟩
instance : TI Tryz.prog 97 false 1 := ⟨Tryz.isAgg97, Tryz.sizeOf97⟩
instance : TI Tryz.prog 98 false 1 := ⟨Tryz.isAgg98, Tryz.sizeOf98⟩
instance : TI Tryz.prog 99 false 1 := ⟨Tryz.isAgg99, Tryz.sizeOf99⟩
instance : TI Tryz.prog 100 false 1 := ⟨Tryz.isAgg100, Tryz.sizeOf100⟩
instance : TI Tryz.prog 101 true 3 := ⟨Tryz.isAgg101, Tryz.sizeOf101⟩
instance : ZeroT Tryz.prog 101 [.int .i64 0, .int .i64 0, .slice none 0 0] := ⟨fun w => ⟨_, Tryz.zeroValue101 w, rfl⟩⟩
instance : FdT Tryz.prog 101 0 0 := ⟨fun w b o => by have h := run_fieldAt_of (f := 0) Tryz.underlying101 rfl Tryz.sizeOf3 (by decide) w b o; exact h⟩
instance : FlT Tryz.prog 101 0 0 false 1 := ⟨fun w cs r v ht hv => by have h := @run_field_of _ _ _ 0 _ _ _ Tryz.underlying101 rfl Tryz.isAgg3 Tryz.sizeOf3 w cs r v; exact h ht hv⟩
instance : FdT Tryz.prog 101 1 1 := ⟨fun w b o => by have h := run_fieldAt_of (f := 1) Tryz.underlying101 rfl Tryz.sizeOf3 (by decide) w b o; exact h⟩
instance : FlT Tryz.prog 101 1 1 false 1 := ⟨fun w cs r v ht hv => by have h := @run_field_of _ _ _ 1 _ _ _ Tryz.underlying101 rfl Tryz.isAgg3 Tryz.sizeOf3 w cs r v; exact h ht hv⟩
instance : FdT Tryz.prog 101 2 2 := ⟨fun w b o => by have h := run_fieldAt_of (f := 2) Tryz.underlying101 rfl Tryz.sizeOf23 (by decide) w b o; exact h⟩
instance : FlT Tryz.prog 101 2 2 false 1 := ⟨fun w cs r v ht hv => by have h := @run_field_of _ _ _ 2 _ _ _ Tryz.underlying101 rfl Tryz.isAgg23 Tryz.sizeOf23 w cs r v; exact h ht hv⟩
instance : TI Tryz.prog 102 true 3 := ⟨Tryz.isAgg102, Tryz.sizeOf102⟩
instance : ZeroT Tryz.prog 102 [.int .i64 0, .int .i64 0, .slice none 0 0] := ⟨fun w => ⟨_, Tryz.zeroValue102 w, rfl⟩⟩
instance : FdT Tryz.prog 102 0 0 := ⟨fun w b o => by have h := run_fieldAt_of (f := 0) Tryz.underlying102 rfl Tryz.sizeOf3 (by decide) w b o; exact h⟩
instance : FlT Tryz.prog 102 0 0 false 1 := ⟨fun w cs r v ht hv => by have h := @run_field_of _ _ _ 0 _ _ _ Tryz.underlying102 rfl Tryz.isAgg3 Tryz.sizeOf3 w cs r v; exact h ht hv⟩
instance : FdT Tryz.prog 102 1 1 := ⟨fun w b o => by have h := run_fieldAt_of (f := 1) Tryz.underlying102 rfl Tryz.sizeOf3 (by decide) w b o; exact h⟩
instance : FlT Tryz.prog 102 1 1 false 1 := ⟨fun w cs r v ht hv => by have h := @run_field_of _ _ _ 1 _ _ _ Tryz.underlying102 rfl Tryz.isAgg3 Tryz.sizeOf3 w cs r v; exact h ht hv⟩
instance : FdT Tryz.prog 102 2 2 := ⟨fun w b o => by have h := run_fieldAt_of (f := 2) Tryz.underlying102 rfl Tryz.sizeOf23 (by decide) w b o; exact h⟩
instance : FlT Tryz.prog 102 2 2 false 1 := ⟨fun w cs r v ht hv => by have h := @run_field_of _ _ _ 2 _ _ _ Tryz.underlying102 rfl Tryz.isAgg23 Tryz.sizeOf23 w cs r v; exact h ht hv⟩
instance : TI Tryz.prog 103 false 1 := ⟨Tryz.isAgg103, Tryz.sizeOf103⟩
instance : TI Tryz.prog 104 false 1 := ⟨Tryz.isAgg104, Tryz.sizeOf104⟩
instance : TI Tryz.prog 105 true 3 := ⟨Tryz.isAgg105, Tryz.sizeOf105⟩
instance : ZeroT Tryz.prog 105 [.int .i64 0, .int .i64 0, .slice none 0 0] := ⟨fun w => ⟨_, Tryz.zeroValue105 w, rfl⟩⟩
instance : FdT Tryz.prog 105 0 0 := ⟨fun w b o => by have h := run_fieldAt_of (f := 0) Tryz.underlying105 rfl Tryz.sizeOf3 (by decide) w b o; exact h⟩
instance : FlT Tryz.prog 105 0 0 false 1 := ⟨fun w cs r v ht hv => by have h := @run_field_of _ _ _ 0 _ _ _ Tryz.underlying105 rfl Tryz.isAgg3 Tryz.sizeOf3 w cs r v; exact h ht hv⟩
instance : FdT Tryz.prog 105 1 1 := ⟨fun w b o => by have h := run_fieldAt_of (f := 1) Tryz.underlying105 rfl Tryz.sizeOf3 (by decide) w b o; exact h⟩
instance : FlT Tryz.prog 105 1 1 false 1 := ⟨fun w cs r v ht hv => by have h := @run_field_of _ _ _ 1 _ _ _ Tryz.underlying105 rfl Tryz.isAgg3 Tryz.sizeOf3 w cs r v; exact h ht hv⟩
instance : FdT Tryz.prog 105 2 2 := ⟨fun w b o => by have h := run_fieldAt_of (f := 2) Tryz.underlying105 rfl Tryz.sizeOf23 (by decide) w b o; exact h⟩
instance : FlT Tryz.prog 105 2 2 false 1 := ⟨fun w cs r v ht hv => by have h := @run_field_of _ _ _ 2 _ _ _ Tryz.underlying105 rfl Tryz.isAgg23 Tryz.sizeOf23 w cs r v; exact h ht hv⟩
instance : TI Tryz.prog 106 false 1 := ⟨Tryz.isAgg106, Tryz.sizeOf106⟩
instance : TI Tryz.prog 107 false 1 := ⟨Tryz.isAgg107, Tryz.sizeOf107⟩
instance : TI Tryz.prog 108 false 1 := ⟨Tryz.isAgg108, Tryz.sizeOf108⟩
instance : TI Tryz.prog 109 false 1 := ⟨Tryz.isAgg109, Tryz.sizeOf109⟩
instance : TI Tryz.prog 110 false 1 := ⟨Tryz.isAgg110, Tryz.sizeOf110⟩
instance : TI Tryz.prog 111 false 1 := ⟨Tryz.isAgg111, Tryz.sizeOf111⟩
instance : TI Tryz.prog 113 false 1 := ⟨Tryz.isAgg113, Tryz.sizeOf113⟩
instance : TI Tryz.prog 114 false 1 := ⟨Tryz.isAgg114, Tryz.sizeOf114⟩
instance : TI Tryz.prog 115 false 1 := ⟨Tryz.isAgg115, Tryz.sizeOf115⟩
instance : TI Tryz.prog 116 false 1 := ⟨Tryz.isAgg116, Tryz.sizeOf116⟩
instance : TI Tryz.prog 117 false 1 := ⟨Tryz.isAgg117, Tryz.sizeOf117⟩
instance : TI Tryz.prog 118 false 1 := ⟨Tryz.isAgg118, Tryz.sizeOf118⟩
instance : TI Tryz.prog 119 true 4 := ⟨Tryz.isAgg119, Tryz.sizeOf119⟩
instance : ZeroT Tryz.prog 119 [.int .i64 0, .int .i64 0, .slice none 0 0, .slice none 0 0] := ⟨fun w => ⟨_, Tryz.zeroValue119 w, rfl⟩⟩
instance : FdT Tryz.prog 119 0 0 := ⟨fun w b o => by have h := run_fieldAt_of (f := 0) Tryz.underlying119 rfl Tryz.sizeOf3 (by decide) w b o; exact h⟩
instance : FlT Tryz.prog 119 0 0 false 1 := ⟨fun w cs r v ht hv => by have h := @run_field_of _ _ _ 0 _ _ _ Tryz.underlying119 rfl Tryz.isAgg3 Tryz.sizeOf3 w cs r v; exact h ht hv⟩
instance : FdT Tryz.prog 119 1 1 := ⟨fun w b o => by have h := run_fieldAt_of (f := 1) Tryz.underlying119 rfl Tryz.sizeOf3 (by decide) w b o; exact h⟩
instance : FlT Tryz.prog 119 1 1 false 1 := ⟨fun w cs r v ht hv => by have h := @run_field_of _ _ _ 1 _ _ _ Tryz.underlying119 rfl Tryz.isAgg3 Tryz.sizeOf3 w cs r v; exact h ht hv⟩
instance : FdT Tryz.prog 119 2 2 := ⟨fun w b o => by have h := run_fieldAt_of (f := 2) Tryz.underlying119 rfl Tryz.sizeOf23 (by decide) w b o; exact h⟩
instance : FlT Tryz.prog 119 2 2 false 1 := ⟨fun w cs r v ht hv => by have h := @run_field_of _ _ _ 2 _ _ _ Tryz.underlying119 rfl Tryz.isAgg23 Tryz.sizeOf23 w cs r v; exact h ht hv⟩
instance : FdT Tryz.prog 119 3 3 := ⟨fun w b o => by have h := run_fieldAt_of (f := 3) Tryz.underlying119 rfl Tryz.sizeOf52 (by decide) w b o; exact h⟩
instance : FlT Tryz.prog 119 3 3 false 1 := ⟨fun w cs r v ht hv => by have h := @run_field_of _ _ _ 3 _ _ _ Tryz.underlying119 rfl Tryz.isAgg52 Tryz.sizeOf52 w cs r v; exact h ht hv⟩
instance : TI Tryz.prog 120 true 4 := ⟨Tryz.isAgg120, Tryz.sizeOf120⟩
instance : ZeroT Tryz.prog 120 [.int .i64 0, .int .i64 0, .slice none 0 0, .slice none 0 0] := ⟨fun w => ⟨_, Tryz.zeroValue120 w, rfl⟩⟩
instance : FdT Tryz.prog 120 0 0 := ⟨fun w b o => by have h := run_fieldAt_of (f := 0) Tryz.underlying120 rfl Tryz.sizeOf3 (by decide) w b o; exact h⟩
instance : FlT Tryz.prog 120 0 0 false 1 := ⟨fun w cs r v ht hv => by have h := @run_field_of _ _ _ 0 _ _ _ Tryz.underlying120 rfl Tryz.isAgg3 Tryz.sizeOf3 w cs r v; exact h ht hv⟩
instance : FdT Tryz.prog 120 1 1 := ⟨fun w b o => by have h := run_fieldAt_of (f := 1) Tryz.underlying120 rfl Tryz.sizeOf3 (by decide) w b o; exact h⟩
instance : FlT Tryz.prog 120 1 1 false 1 := ⟨fun w cs r v ht hv => by have h := @run_field_of _ _ _ 1 _ _ _ Tryz.underlying120 rfl Tryz.isAgg3 Tryz.sizeOf3 w cs r v; exact h ht hv⟩
instance : FdT Tryz.prog 120 2 2 := ⟨fun w b o => by have h := run_fieldAt_of (f := 2) Tryz.underlying120 rfl Tryz.sizeOf23 (by decide) w b o; exact h⟩
instance : FlT Tryz.prog 120 2 2 false 1 := ⟨fun w cs r v ht hv => by have h := @run_field_of _ _ _ 2 _ _ _ Tryz.underlying120 rfl Tryz.isAgg23 Tryz.sizeOf23 w cs r v; exact h ht hv⟩
instance : FdT Tryz.prog 120 3 3 := ⟨fun w b o => by have h := run_fieldAt_of (f := 3) Tryz.underlying120 rfl Tryz.sizeOf52 (by decide) w b o; exact h⟩
instance : FlT Tryz.prog 120 3 3 false 1 := ⟨fun w cs r v ht hv => by have h := @run_field_of _ _ _ 3 _ _ _ Tryz.underlying120 rfl Tryz.isAgg52 Tryz.sizeOf52 w cs r v; exact h ht hv⟩
instance : TI Tryz.prog 122 false 1 := ⟨Tryz.isAgg122, Tryz.sizeOf122⟩
instance : TI Tryz.prog 124 false 1 := ⟨Tryz.isAgg124, Tryz.sizeOf124⟩
instance : TI Tryz.prog 126 false 1 := ⟨Tryz.isAgg126, Tryz.sizeOf126⟩
instance : TI Tryz.prog 127 false 1 := ⟨Tryz.isAgg127, Tryz.sizeOf127⟩
instance : TI Tryz.prog 128 true 7 := ⟨Tryz.isAgg128, Tryz.sizeOf128⟩
instance : ZeroT Tryz.prog 128 [.int .i64 0, .int .i64 0, .int .i64 0, .slice none 0 0, .bool false, .slice none 0 0, .slice none 0 0] := ⟨fun w => ⟨_, Tryz.zeroValue128 w, rfl⟩⟩
instance : FdT Tryz.prog 128 0 0 := ⟨fun w b o => by have h := run_fieldAt_of (f := 0) Tryz.underlying128 rfl Tryz.sizeOf3 (by decide) w b o; exact h⟩
instance : FlT Tryz.prog 128 0 0 false 1 := ⟨fun w cs r v ht hv => by have h := @run_field_of _ _ _ 0 _ _ _ Tryz.underlying128 rfl Tryz.isAgg3 Tryz.sizeOf3 w cs r v; exact h ht hv⟩
instance : FdT Tryz.prog 128 1 1 := ⟨fun w b o => by have h := run_fieldAt_of (f := 1) Tryz.underlying128 rfl Tryz.sizeOf3 (by decide) w b o; exact h⟩
instance : FlT Tryz.prog 128 1 1 false 1 := ⟨fun w cs r v ht hv => by have h := @run_field_of _ _ _ 1 _ _ _ Tryz.underlying128 rfl Tryz.isAgg3 Tryz.sizeOf3 w cs r v; exact h ht hv⟩
instance : FdT Tryz.prog 128 2 2 := ⟨fun w b o => by have h := run_fieldAt_of (f := 2) Tryz.underlying128 rfl Tryz.sizeOf3 (by decide) w b o; exact h⟩
instance : FlT Tryz.prog 128 2 2 false 1 := ⟨fun w cs r v ht hv => by have h := @run_field_of _ _ _ 2 _ _ _ Tryz.underlying128 rfl Tryz.isAgg3 Tryz.sizeOf3 w cs r v; exact h ht hv⟩
instance : FdT Tryz.prog 128 3 3 := ⟨fun w b o => by have h := run_fieldAt_of (f := 3) Tryz.underlying128 rfl Tryz.sizeOf23 (by decide) w b o; exact h⟩
instance : FlT Tryz.prog 128 3 3 false 1 := ⟨fun w cs r v ht hv => by have h := @run_field_of _ _ _ 3 _ _ _ Tryz.underlying128 rfl Tryz.isAgg23 Tryz.sizeOf23 w cs r v; exact h ht hv⟩
instance : FdT Tryz.prog 128 4 4 := ⟨fun w b o => by have h := run_fieldAt_of (f := 4) Tryz.underlying128 rfl Tryz.sizeOf4 (by decide) w b o; exact h⟩
instance : FlT Tryz.prog 128 4 4 false 1 := ⟨fun w cs r v ht hv => by have h := @run_field_of _ _ _ 4 _ _ _ Tryz.underlying128 rfl Tryz.isAgg4 Tryz.sizeOf4 w cs r v; exact h ht hv⟩
instance : FdT Tryz.prog 128 5 5 := ⟨fun w b o => by have h := run_fieldAt_of (f := 5) Tryz.underlying128 rfl Tryz.sizeOf28 (by decide) w b o; exact h⟩
instance : FlT Tryz.prog 128 5 5 false 1 := ⟨fun w cs r v ht hv => by have h := @run_field_of _ _ _ 5 _ _ _ Tryz.underlying128 rfl Tryz.isAgg28 Tryz.sizeOf28 w cs r v; exact h ht hv⟩
instance : FdT Tryz.prog 128 6 6 := ⟨fun w b o => by have h := run_fieldAt_of (f := 6) Tryz.underlying128 rfl Tryz.sizeOf28 (by decide) w b o; exact h⟩
instance : FlT Tryz.prog 128 6 6 false 1 := ⟨fun w cs r v ht hv => by have h := @run_field_of _ _ _ 6 _ _ _ Tryz.underlying128 rfl Tryz.isAgg28 Tryz.sizeOf28 w cs r v; exact h ht hv⟩
instance : TI Tryz.prog 129 true 7 := ⟨Tryz.isAgg129, Tryz.sizeOf129⟩
instance : ZeroT Tryz.prog 129 [.int .i64 0, .int .i64 0, .int .i64 0, .slice none 0 0, .bool false, .slice none 0 0, .slice none 0 0] := ⟨fun w => ⟨_, Tryz.zeroValue129 w, rfl⟩⟩
instance : FdT Tryz.prog 129 0 0 := ⟨fun w b o => by have h := run_fieldAt_of (f := 0) Tryz.underlying129 rfl Tryz.sizeOf3 (by decide) w b o; exact h⟩
instance : FlT Tryz.prog 129 0 0 false 1 := ⟨fun w cs r v ht hv => by have h := @run_field_of _ _ _ 0 _ _ _ Tryz.underlying129 rfl Tryz.isAgg3 Tryz.sizeOf3 w cs r v; exact h ht hv⟩
instance : FdT Tryz.prog 129 1 1 := ⟨fun w b o => by have h := run_fieldAt_of (f := 1) Tryz.underlying129 rfl Tryz.sizeOf3 (by decide) w b o; exact h⟩
instance : FlT Tryz.prog 129 1 1 false 1 := ⟨fun w cs r v ht hv => by have h := @run_field_of _ _ _ 1 _ _ _ Tryz.underlying129 rfl Tryz.isAgg3 Tryz.sizeOf3 w cs r v; exact h ht hv⟩
instance : FdT Tryz.prog 129 2 2 := ⟨fun w b o => by have h := run_fieldAt_of (f := 2) Tryz.underlying129 rfl Tryz.sizeOf3 (by decide) w b o; exact h⟩
instance : FlT Tryz.prog 129 2 2 false 1 := ⟨fun w cs r v ht hv => by have h := @run_field_of _ _ _ 2 _ _ _ Tryz.underlying129 rfl Tryz.isAgg3 Tryz.sizeOf3 w cs r v; exact h ht hv⟩
instance : FdT Tryz.prog 129 3 3 := ⟨fun w b o => by have h := run_fieldAt_of (f := 3) Tryz.underlying129 rfl Tryz.sizeOf23 (by decide) w b o; exact h⟩
instance : FlT Tryz.prog 129 3 3 false 1 := ⟨fun w cs r v ht hv => by have h := @run_field_of _ _ _ 3 _ _ _ Tryz.underlying129 rfl Tryz.isAgg23 Tryz.sizeOf23 w cs r v; exact h ht hv⟩
instance : FdT Tryz.prog 129 4 4 := ⟨fun w b o => by have h := run_fieldAt_of (f := 4) Tryz.underlying129 rfl Tryz.sizeOf4 (by decide) w b o; exact h⟩
instance : FlT Tryz.prog 129 4 4 false 1 := ⟨fun w cs r v ht hv => by have h := @run_field_of _ _ _ 4 _ _ _ Tryz.underlying129 rfl Tryz.isAgg4 Tryz.sizeOf4 w cs r v; exact h ht hv⟩
instance : FdT Tryz.prog 129 5 5 := ⟨fun w b o => by have h := run_fieldAt_of (f := 5) Tryz.underlying129 rfl Tryz.sizeOf28 (by decide) w b o; exact h⟩
instance : FlT Tryz.prog 129 5 5 false 1 := ⟨fun w cs r v ht hv => by have h := @run_field_of _ _ _ 5 _ _ _ Tryz.underlying129 rfl Tryz.isAgg28 Tryz.sizeOf28 w cs r v; exact h ht hv⟩
instance : FdT Tryz.prog 129 6 6 := ⟨fun w b o => by have h := run_fieldAt_of (f := 6) Tryz.underlying129 rfl Tryz.sizeOf28 (by decide) w b o; exact h⟩
instance : FlT Tryz.prog 129 6 6 false 1 := ⟨fun w cs r v ht hv => by have h := @run_field_of _ _ _ 6 _ _ _ Tryz.underlying129 rfl Tryz.isAgg28 Tryz.sizeOf28 w cs r v; exact h ht hv⟩
instance : TI Tryz.prog 130 false 1 := ⟨Tryz.isAgg130, Tryz.sizeOf130⟩
instance : TI Tryz.prog 132 false 1 := ⟨Tryz.isAgg132, Tryz.sizeOf132⟩
instance : TI Tryz.prog 133 false 1 := ⟨Tryz.isAgg133, Tryz.sizeOf133⟩
instance : TI Tryz.prog 134 false 1 := ⟨Tryz.isAgg134, Tryz.sizeOf134⟩
instance : TI Tryz.prog 135 false 1 := ⟨Tryz.isAgg135, Tryz.sizeOf135⟩
instance : TI Tryz.prog 136 false 1 := ⟨Tryz.isAgg136, Tryz.sizeOf136⟩
instance : TI Tryz.prog 137 false 1 := ⟨Tryz.isAgg137, Tryz.sizeOf137⟩
instance : TI Tryz.prog 138 false 1 := ⟨Tryz.isAgg138, Tryz.sizeOf138⟩
instance : TI Tryz.prog 140 false 1 := ⟨Tryz.isAgg140, Tryz.sizeOf140⟩
instance : TI Tryz.prog 142 false 1 := ⟨Tryz.isAgg142, Tryz.sizeOf142⟩
instance : TI Tryz.prog 143 false 1 := ⟨Tryz.isAgg143, Tryz.sizeOf143⟩
instance : TI Tryz.prog 144 false 1 := ⟨Tryz.isAgg144, Tryz.sizeOf144⟩
instance : TI Tryz.prog 145 false 1 := ⟨Tryz.isAgg145, Tryz.sizeOf145⟩
instance : TI Tryz.prog 146 false 1 := ⟨Tryz.isAgg146, Tryz.sizeOf146⟩
instance : TI Tryz.prog 147 false 1 := ⟨Tryz.isAgg147, Tryz.sizeOf147⟩
instance : TI Tryz.prog 149 false 1 := ⟨Tryz.isAgg149, Tryz.sizeOf149⟩
instance : TI Tryz.prog 151 false 1 := ⟨Tryz.isAgg151, Tryz.sizeOf151⟩
instance : TI Tryz.prog 153 false 1 := ⟨Tryz.isAgg153, Tryz.sizeOf153⟩
instance : TI Tryz.prog 154 true 3 := ⟨Tryz.isAgg154, Tryz.sizeOf154⟩
instance : ZeroT Tryz.prog 154 [.int .i64 0, .int .i64 0, .int .i64 0] := ⟨fun w => ⟨_, Tryz.zeroValue154 w, rfl⟩⟩
instance : FdT Tryz.prog 154 0 0 := ⟨fun w b o => by have h := run_fieldAt_of (f := 0) Tryz.underlying154 rfl Tryz.sizeOf3 (by decide) w b o; exact h⟩
instance : FlT Tryz.prog 154 0 0 false 1 := ⟨fun w cs r v ht hv => by have h := @run_field_of _ _ _ 0 _ _ _ Tryz.underlying154 rfl Tryz.isAgg3 Tryz.sizeOf3 w cs r v; exact h ht hv⟩
instance : FdT Tryz.prog 154 1 1 := ⟨fun w b o => by have h := run_fieldAt_of (f := 1) Tryz.underlying154 rfl Tryz.sizeOf3 (by decide) w b o; exact h⟩
instance : FlT Tryz.prog 154 1 1 false 1 := ⟨fun w cs r v ht hv => by have h := @run_field_of _ _ _ 1 _ _ _ Tryz.underlying154 rfl Tryz.isAgg3 Tryz.sizeOf3 w cs r v; exact h ht hv⟩
instance : FdT Tryz.prog 154 2 2 := ⟨fun w b o => by have h := run_fieldAt_of (f := 2) Tryz.underlying154 rfl Tryz.sizeOf3 (by decide) w b o; exact h⟩
instance : FlT Tryz.prog 154 2 2 false 1 := ⟨fun w cs r v ht hv => by have h := @run_field_of _ _ _ 2 _ _ _ Tryz.underlying154 rfl Tryz.isAgg3 Tryz.sizeOf3 w cs r v; exact h ht hv⟩
instance : TI Tryz.prog 155 true 3 := ⟨Tryz.isAgg155, Tryz.sizeOf155⟩
instance : ZeroT Tryz.prog 155 [.int .i64 0, .int .i64 0, .int .i64 0] := ⟨fun w => ⟨_, Tryz.zeroValue155 w, rfl⟩⟩
instance : FdT Tryz.prog 155 0 0 := ⟨fun w b o => by have h := run_fieldAt_of (f := 0) Tryz.underlying155 rfl Tryz.sizeOf3 (by decide) w b o; exact h⟩
instance : FlT Tryz.prog 155 0 0 false 1 := ⟨fun w cs r v ht hv => by have h := @run_field_of _ _ _ 0 _ _ _ Tryz.underlying155 rfl Tryz.isAgg3 Tryz.sizeOf3 w cs r v; exact h ht hv⟩
instance : FdT Tryz.prog 155 1 1 := ⟨fun w b o => by have h := run_fieldAt_of (f := 1) Tryz.underlying155 rfl Tryz.sizeOf3 (by decide) w b o; exact h⟩
instance : FlT Tryz.prog 155 1 1 false 1 := ⟨fun w cs r v ht hv => by have h := @run_field_of _ _ _ 1 _ _ _ Tryz.underlying155 rfl Tryz.isAgg3 Tryz.sizeOf3 w cs r v; exact h ht hv⟩
instance : FdT Tryz.prog 155 2 2 := ⟨fun w b o => by have h := run_fieldAt_of (f := 2) Tryz.underlying155 rfl Tryz.sizeOf3 (by decide) w b o; exact h⟩
instance : FlT Tryz.prog 155 2 2 false 1 := ⟨fun w cs r v ht hv => by have h := @run_field_of _ _ _ 2 _ _ _ Tryz.underlying155 rfl Tryz.isAgg3 Tryz.sizeOf3 w cs r v; exact h ht hv⟩
instance : TI Tryz.prog 157 false 1 := ⟨Tryz.isAgg157, Tryz.sizeOf157⟩
instance : TI Tryz.prog 158 false 1 := ⟨Tryz.isAgg158, Tryz.sizeOf158⟩
instance : TI Tryz.prog 159 false 1 := ⟨Tryz.isAgg159, Tryz.sizeOf159⟩
instance : TI Tryz.prog 160 false 1 := ⟨Tryz.isAgg160, Tryz.sizeOf160⟩
instance : TI Tryz.prog 161 false 1 := ⟨Tryz.isAgg161, Tryz.sizeOf161⟩
instance : TI Tryz.prog 162 false 1 := ⟨Tryz.isAgg162, Tryz.sizeOf162⟩
instance : TI Tryz.prog 163 false 1 := ⟨Tryz.isAgg163, Tryz.sizeOf163⟩
instance : TI Tryz.prog 165 false 1 := ⟨Tryz.isAgg165, Tryz.sizeOf165⟩
instance : TI Tryz.prog 166 false 1 := ⟨Tryz.isAgg166, Tryz.sizeOf166⟩
instance : TI Tryz.prog 167 false 1 := ⟨Tryz.isAgg167, Tryz.sizeOf167⟩
instance : TI Tryz.prog 168 false 1 := ⟨Tryz.isAgg168, Tryz.sizeOf168⟩
instance : TI Tryz.prog 170 false 1 := ⟨Tryz.isAgg170, Tryz.sizeOf170⟩
instance : TI Tryz.prog 171 false 1 := ⟨Tryz.isAgg171, Tryz.sizeOf171⟩
instance : TI Tryz.prog 172 false 1 := ⟨Tryz.isAgg172, Tryz.sizeOf172⟩
instance : TI Tryz.prog 173 false 1 := ⟨Tryz.isAgg173, Tryz.sizeOf173⟩
instance : TI Tryz.prog 174 false 1 := ⟨Tryz.isAgg174, Tryz.sizeOf174⟩
instance : TI Tryz.prog 175 false 1 := ⟨Tryz.isAgg175, Tryz.sizeOf175⟩
instance : TI Tryz.prog 176 true 3 := ⟨Tryz.isAgg176, Tryz.sizeOf176⟩
instance : ZeroT Tryz.prog 176 [.slice none 0 0, .slice none 0 0, .int .i64 0] := ⟨fun w => ⟨_, Tryz.zeroValue176 w, rfl⟩⟩
instance : FdT Tryz.prog 176 0 0 := ⟨fun w b o => by have h := run_fieldAt_of (f := 0) Tryz.underlying176 rfl Tryz.sizeOf28 (by decide) w b o; exact h⟩
instance : FlT Tryz.prog 176 0 0 false 1 := ⟨fun w cs r v ht hv => by have h := @run_field_of _ _ _ 0 _ _ _ Tryz.underlying176 rfl Tryz.isAgg28 Tryz.sizeOf28 w cs r v; exact h ht hv⟩
instance : FdT Tryz.prog 176 1 1 := ⟨fun w b o => by have h := run_fieldAt_of (f := 1) Tryz.underlying176 rfl Tryz.sizeOf23 (by decide) w b o; exact h⟩
instance : FlT Tryz.prog 176 1 1 false 1 := ⟨fun w cs r v ht hv => by have h := @run_field_of _ _ _ 1 _ _ _ Tryz.underlying176 rfl Tryz.isAgg23 Tryz.sizeOf23 w cs r v; exact h ht hv⟩
instance : FdT Tryz.prog 176 2 2 := ⟨fun w b o => by have h := run_fieldAt_of (f := 2) Tryz.underlying176 rfl Tryz.sizeOf3 (by decide) w b o; exact h⟩
instance : FlT Tryz.prog 176 2 2 false 1 := ⟨fun w cs r v ht hv => by have h := @run_field_of _ _ _ 2 _ _ _ Tryz.underlying176 rfl Tryz.isAgg3 Tryz.sizeOf3 w cs r v; exact h ht hv⟩
instance : TI Tryz.prog 177 true 3 := ⟨Tryz.isAgg177, Tryz.sizeOf177⟩
instance : ZeroT Tryz.prog 177 [.slice none 0 0, .slice none 0 0, .int .i64 0] := ⟨fun w => ⟨_, Tryz.zeroValue177 w, rfl⟩⟩
instance : FdT Tryz.prog 177 0 0 := ⟨fun w b o => by have h := run_fieldAt_of (f := 0) Tryz.underlying177 rfl Tryz.sizeOf28 (by decide) w b o; exact h⟩
instance : FlT Tryz.prog 177 0 0 false 1 := ⟨fun w cs r v ht hv => by have h := @run_field_of _ _ _ 0 _ _ _ Tryz.underlying177 rfl Tryz.isAgg28 Tryz.sizeOf28 w cs r v; exact h ht hv⟩
instance : FdT Tryz.prog 177 1 1 := ⟨fun w b o => by have h := run_fieldAt_of (f := 1) Tryz.underlying177 rfl Tryz.sizeOf23 (by decide) w b o; exact h⟩
instance : FlT Tryz.prog 177 1 1 false 1 := ⟨fun w cs r v ht hv => by have h := @run_field_of _ _ _ 1 _ _ _ Tryz.underlying177 rfl Tryz.isAgg23 Tryz.sizeOf23 w cs r v; exact h ht hv⟩
instance : FdT Tryz.prog 177 2 2 := ⟨fun w b o => by have h := run_fieldAt_of (f := 2) Tryz.underlying177 rfl Tryz.sizeOf3 (by decide) w b o; exact h⟩
instance : FlT Tryz.prog 177 2 2 false 1 := ⟨fun w cs r v ht hv => by have h := @run_field_of _ _ _ 2 _ _ _ Tryz.underlying177 rfl Tryz.isAgg3 Tryz.sizeOf3 w cs r v; exact h ht hv⟩
instance : TI Tryz.prog 178 false 1 := ⟨Tryz.isAgg178, Tryz.sizeOf178⟩
instance : TI Tryz.prog 179 false 1 := ⟨Tryz.isAgg179, Tryz.sizeOf179⟩
instance : TI Tryz.prog 180 false 1 := ⟨Tryz.isAgg180, Tryz.sizeOf180⟩
instance : TI Tryz.prog 181 false 1 := ⟨Tryz.isAgg181, Tryz.sizeOf181⟩
instance : TI Tryz.prog 182 false 1 := ⟨Tryz.isAgg182, Tryz.sizeOf182⟩
instance : TI Tryz.prog 183 false 1 := ⟨Tryz.isAgg183, Tryz.sizeOf183⟩
instance : TI Tryz.prog 184 true 2 := ⟨Tryz.isAgg184, Tryz.sizeOf184⟩
instance : FdT Tryz.prog 184 0 0 := ⟨fun w b o => by have h := run_fieldAt_of (f := 0) Tryz.underlying184 rfl Tryz.sizeOf183 (by decide) w b o; exact h⟩
instance : FlT Tryz.prog 184 0 0 false 1 := ⟨fun w cs r v ht hv => by have h := @run_field_of _ _ _ 0 _ _ _ Tryz.underlying184 rfl Tryz.isAgg183 Tryz.sizeOf183 w cs r v; exact h ht hv⟩
instance : FdT Tryz.prog 184 1 1 := ⟨fun w b o => by have h := run_fieldAt_of (f := 1) Tryz.underlying184 rfl Tryz.sizeOf44 (by decide) w b o; exact h⟩
instance : FlT Tryz.prog 184 1 1 false 1 := ⟨fun w cs r v ht hv => by have h := @run_field_of _ _ _ 1 _ _ _ Tryz.underlying184 rfl Tryz.isAgg44 Tryz.sizeOf44 w cs r v; exact h ht hv⟩
instance : TI Tryz.prog 185 true 2 := ⟨Tryz.isAgg185, Tryz.sizeOf185⟩
instance : FdT Tryz.prog 185 0 0 := ⟨fun w b o => by have h := run_fieldAt_of (f := 0) Tryz.underlying185 rfl Tryz.sizeOf183 (by decide) w b o; exact h⟩
instance : FlT Tryz.prog 185 0 0 false 1 := ⟨fun w cs r v ht hv => by have h := @run_field_of _ _ _ 0 _ _ _ Tryz.underlying185 rfl Tryz.isAgg183 Tryz.sizeOf183 w cs r v; exact h ht hv⟩
instance : FdT Tryz.prog 185 1 1 := ⟨fun w b o => by have h := run_fieldAt_of (f := 1) Tryz.underlying185 rfl Tryz.sizeOf44 (by decide) w b o; exact h⟩
instance : FlT Tryz.prog 185 1 1 false 1 := ⟨fun w cs r v ht hv => by have h := @run_field_of _ _ _ 1 _ _ _ Tryz.underlying185 rfl Tryz.isAgg44 Tryz.sizeOf44 w cs r v; exact h ht hv⟩
instance : TI Tryz.prog 186 false 1 := ⟨Tryz.isAgg186, Tryz.sizeOf186⟩
instance : TI Tryz.prog 187 false 1 := ⟨Tryz.isAgg187, Tryz.sizeOf187⟩
instance : TI Tryz.prog 188 false 1 := ⟨Tryz.isAgg188, Tryz.sizeOf188⟩
instance : TI Tryz.prog 189 false 1 := ⟨Tryz.isAgg189, Tryz.sizeOf189⟩
instance : TI Tryz.prog 191 false 1 := ⟨Tryz.isAgg191, Tryz.sizeOf191⟩
instance : TI Tryz.prog 192 false 1 := ⟨Tryz.isAgg192, Tryz.sizeOf192⟩
instance : TI Tryz.prog 193 false 1 := ⟨Tryz.isAgg193, Tryz.sizeOf193⟩
instance : TI Tryz.prog 194 false 1 := ⟨Tryz.isAgg194, Tryz.sizeOf194⟩
instance : TI Tryz.prog 195 true 4 := ⟨Tryz.isAgg195, Tryz.sizeOf195⟩
instance : ZeroT Tryz.prog 195 [.int .i64 0, .int .i64 0, .bool false, .slice none 0 0] := ⟨fun w => ⟨_, Tryz.zeroValue195 w, rfl⟩⟩
instance : FdT Tryz.prog 195 0 0 := ⟨fun w b o => by have h := run_fieldAt_of (f := 0) Tryz.underlying195 rfl Tryz.sizeOf3 (by decide) w b o; exact h⟩
instance : FlT Tryz.prog 195 0 0 false 1 := ⟨fun w cs r v ht hv => by have h := @run_field_of _ _ _ 0 _ _ _ Tryz.underlying195 rfl Tryz.isAgg3 Tryz.sizeOf3 w cs r v; exact h ht hv⟩
instance : FdT Tryz.prog 195 1 1 := ⟨fun w b o => by have h := run_fieldAt_of (f := 1) Tryz.underlying195 rfl Tryz.sizeOf3 (by decide) w b o; exact h⟩
instance : FlT Tryz.prog 195 1 1 false 1 := ⟨fun w cs r v ht hv => by have h := @run_field_of _ _ _ 1 _ _ _ Tryz.underlying195 rfl Tryz.isAgg3 Tryz.sizeOf3 w cs r v; exact h ht hv⟩
instance : FdT Tryz.prog 195 2 2 := ⟨fun w b o => by have h := run_fieldAt_of (f := 2) Tryz.underlying195 rfl Tryz.sizeOf4 (by decide) w b o; exact h⟩
instance : FlT Tryz.prog 195 2 2 false 1 := ⟨fun w cs r v ht hv => by have h := @run_field_of _ _ _ 2 _ _ _ Tryz.underlying195 rfl Tryz.isAgg4 Tryz.sizeOf4 w cs r v; exact h ht hv⟩
instance : FdT Tryz.prog 195 3 3 := ⟨fun w b o => by have h := run_fieldAt_of (f := 3) Tryz.underlying195 rfl Tryz.sizeOf52 (by decide) w b o; exact h⟩
instance : FlT Tryz.prog 195 3 3 false 1 := ⟨fun w cs r v ht hv => by have h := @run_field_of _ _ _ 3 _ _ _ Tryz.underlying195 rfl Tryz.isAgg52 Tryz.sizeOf52 w cs r v; exact h ht hv⟩
instance : TI Tryz.prog 196 true 4 := ⟨Tryz.isAgg196, Tryz.sizeOf196⟩
instance : ZeroT Tryz.prog 196 [.int .i64 0, .int .i64 0, .bool false, .slice none 0 0] := ⟨fun w => ⟨_, Tryz.zeroValue196 w, rfl⟩⟩
instance : FdT Tryz.prog 196 0 0 := ⟨fun w b o => by have h := run_fieldAt_of (f := 0) Tryz.underlying196 rfl Tryz.sizeOf3 (by decide) w b o; exact h⟩
instance : FlT Tryz.prog 196 0 0 false 1 := ⟨fun w cs r v ht hv => by have h := @run_field_of _ _ _ 0 _ _ _ Tryz.underlying196 rfl Tryz.isAgg3 Tryz.sizeOf3 w cs r v; exact h ht hv⟩
instance : FdT Tryz.prog 196 1 1 := ⟨fun w b o => by have h := run_fieldAt_of (f := 1) Tryz.underlying196 rfl Tryz.sizeOf3 (by decide) w b o; exact h⟩
instance : FlT Tryz.prog 196 1 1 false 1 := ⟨fun w cs r v ht hv => by have h := @run_field_of _ _ _ 1 _ _ _ Tryz.underlying196 rfl Tryz.isAgg3 Tryz.sizeOf3 w cs r v; exact h ht hv⟩
instance : FdT Tryz.prog 196 2 2 := ⟨fun w b o => by have h := run_fieldAt_of (f := 2) Tryz.underlying196 rfl Tryz.sizeOf4 (by decide) w b o; exact h⟩
instance : FlT Tryz.prog 196 2 2 false 1 := ⟨fun w cs r v ht hv => by have h := @run_field_of _ _ _ 2 _ _ _ Tryz.underlying196 rfl Tryz.isAgg4 Tryz.sizeOf4 w cs r v; exact h ht hv⟩
instance : FdT Tryz.prog 196 3 3 := ⟨fun w b o => by have h := run_fieldAt_of (f := 3) Tryz.underlying196 rfl Tryz.sizeOf52 (by decide) w b o; exact h⟩
instance : FlT Tryz.prog 196 3 3 false 1 := ⟨fun w cs r v ht hv => by have h := @run_field_of _ _ _ 3 _ _ _ Tryz.underlying196 rfl Tryz.isAgg52 Tryz.sizeOf52 w cs r v; exact h ht hv⟩
instance : TI Tryz.prog 197 true 6 := ⟨Tryz.isAgg197, Tryz.sizeOf197⟩
instance : ZeroT Tryz.prog 197 [.int .i64 0, .string ⟨#[]⟩, .int .i64 0, .int .i64 0, .bool false, .slice none 0 0] := ⟨fun w => ⟨_, Tryz.zeroValue197 w, rfl⟩⟩
instance : FdT Tryz.prog 197 0 0 := ⟨fun w b o => by have h := run_fieldAt_of (f := 0) Tryz.underlying197 rfl Tryz.sizeOf3 (by decide) w b o; exact h⟩
instance : FlT Tryz.prog 197 0 0 false 1 := ⟨fun w cs r v ht hv => by have h := @run_field_of _ _ _ 0 _ _ _ Tryz.underlying197 rfl Tryz.isAgg3 Tryz.sizeOf3 w cs r v; exact h ht hv⟩
instance : FdT Tryz.prog 197 1 1 := ⟨fun w b o => by have h := run_fieldAt_of (f := 1) Tryz.underlying197 rfl Tryz.sizeOf9 (by decide) w b o; exact h⟩
instance : FlT Tryz.prog 197 1 1 false 1 := ⟨fun w cs r v ht hv => by have h := @run_field_of _ _ _ 1 _ _ _ Tryz.underlying197 rfl Tryz.isAgg9 Tryz.sizeOf9 w cs r v; exact h ht hv⟩
instance : FdT Tryz.prog 197 2 2 := ⟨fun w b o => by have h := run_fieldAt_of (f := 2) Tryz.underlying197 rfl Tryz.sizeOf196 (by decide) w b o; exact h⟩
instance : FlT Tryz.prog 197 2 2 true 4 := ⟨fun w cs r v ht hv => by have h := @run_field_of _ _ _ 2 _ _ _ Tryz.underlying197 rfl Tryz.isAgg196 Tryz.sizeOf196 w cs r v; exact h ht hv⟩
instance : TI Tryz.prog 198 true 6 := ⟨Tryz.isAgg198, Tryz.sizeOf198⟩
instance : ZeroT Tryz.prog 198 [.int .i64 0, .string ⟨#[]⟩, .int .i64 0, .int .i64 0, .bool false, .slice none 0 0] := ⟨fun w => ⟨_, Tryz.zeroValue198 w, rfl⟩⟩
instance : FdT Tryz.prog 198 0 0 := ⟨fun w b o => by have h := run_fieldAt_of (f := 0) Tryz.underlying198 rfl Tryz.sizeOf3 (by decide) w b o; exact h⟩
instance : FlT Tryz.prog 198 0 0 false 1 := ⟨fun w cs r v ht hv => by have h := @run_field_of _ _ _ 0 _ _ _ Tryz.underlying198 rfl Tryz.isAgg3 Tryz.sizeOf3 w cs r v; exact h ht hv⟩
instance : FdT Tryz.prog 198 1 1 := ⟨fun w b o => by have h := run_fieldAt_of (f := 1) Tryz.underlying198 rfl Tryz.sizeOf9 (by decide) w b o; exact h⟩
instance : FlT Tryz.prog 198 1 1 false 1 := ⟨fun w cs r v ht hv => by have h := @run_field_of _ _ _ 1 _ _ _ Tryz.underlying198 rfl Tryz.isAgg9 Tryz.sizeOf9 w cs r v; exact h ht hv⟩
instance : FdT Tryz.prog 198 2 2 := ⟨fun w b o => by have h := run_fieldAt_of (f := 2) Tryz.underlying198 rfl Tryz.sizeOf196 (by decide) w b o; exact h⟩
instance : FlT Tryz.prog 198 2 2 true 4 := ⟨fun w cs r v ht hv => by have h := @run_field_of _ _ _ 2 _ _ _ Tryz.underlying198 rfl Tryz.isAgg196 Tryz.sizeOf196 w cs r v; exact h ht hv⟩
instance : TI Tryz.prog 199 false 1 := ⟨Tryz.isAgg199, Tryz.sizeOf199⟩
instance : TI Tryz.prog 200 false 1 := ⟨Tryz.isAgg200, Tryz.sizeOf200⟩
instance : TI Tryz.prog 201 false 1 := ⟨Tryz.isAgg201, Tryz.sizeOf201⟩
instance : TI Tryz.prog 202 false 1 := ⟨Tryz.isAgg202, Tryz.sizeOf202⟩
instance : TI Tryz.prog 203 false 1 := ⟨Tryz.isAgg203, Tryz.sizeOf203⟩
instance : ZeroT Tryz.prog 203 [.int .u64 0] := ⟨fun w => ⟨_, Tryz.zeroValue203 w, rfl⟩⟩
instance : IntT Tryz.prog 203 .u64 := ⟨Tryz.underlying203⟩
instance : TI Tryz.prog 204 false 1 := ⟨Tryz.isAgg204, Tryz.sizeOf204⟩
instance : TI Tryz.prog 206 false 1 := ⟨Tryz.isAgg206, Tryz.sizeOf206⟩
instance : TI Tryz.prog 207 false 1 := ⟨Tryz.isAgg207, Tryz.sizeOf207⟩
instance : TI Tryz.prog 209 false 1 := ⟨Tryz.isAgg209, Tryz.sizeOf209⟩
instance : TI Tryz.prog 210 false 1 := ⟨Tryz.isAgg210, Tryz.sizeOf210⟩
instance : TI Tryz.prog 212 false 1 := ⟨Tryz.isAgg212, Tryz.sizeOf212⟩
instance : TI Tryz.prog 213 true 3 := ⟨Tryz.isAgg213, Tryz.sizeOf213⟩
instance : ZeroT Tryz.prog 213 [.int .i64 0, .int .i64 0, .slice none 0 0] := ⟨fun w => ⟨_, Tryz.zeroValue213 w, rfl⟩⟩
instance : FdT Tryz.prog 213 0 0 := ⟨fun w b o => by have h := run_fieldAt_of (f := 0) Tryz.underlying213 rfl Tryz.sizeOf3 (by decide) w b o; exact h⟩
instance : FlT Tryz.prog 213 0 0 false 1 := ⟨fun w cs r v ht hv => by have h := @run_field_of _ _ _ 0 _ _ _ Tryz.underlying213 rfl Tryz.isAgg3 Tryz.sizeOf3 w cs r v; exact h ht hv⟩
instance : FdT Tryz.prog 213 1 1 := ⟨fun w b o => by have h := run_fieldAt_of (f := 1) Tryz.underlying213 rfl Tryz.sizeOf3 (by decide) w b o; exact h⟩
instance : FlT Tryz.prog 213 1 1 false 1 := ⟨fun w cs r v ht hv => by have h := @run_field_of _ _ _ 1 _ _ _ Tryz.underlying213 rfl Tryz.isAgg3 Tryz.sizeOf3 w cs r v; exact h ht hv⟩
instance : FdT Tryz.prog 213 2 2 := ⟨fun w b o => by have h := run_fieldAt_of (f := 2) Tryz.underlying213 rfl Tryz.sizeOf28 (by decide) w b o; exact h⟩
instance : FlT Tryz.prog 213 2 2 false 1 := ⟨fun w cs r v ht hv => by have h := @run_field_of _ _ _ 2 _ _ _ Tryz.underlying213 rfl Tryz.isAgg28 Tryz.sizeOf28 w cs r v; exact h ht hv⟩
instance : TI Tryz.prog 214 true 3 := ⟨Tryz.isAgg214, Tryz.sizeOf214⟩
instance : ZeroT Tryz.prog 214 [.int .i64 0, .int .i64 0, .slice none 0 0] := ⟨fun w => ⟨_, Tryz.zeroValue214 w, rfl⟩⟩
instance : FdT Tryz.prog 214 0 0 := ⟨fun w b o => by have h := run_fieldAt_of (f := 0) Tryz.underlying214 rfl Tryz.sizeOf3 (by decide) w b o; exact h⟩
instance : FlT Tryz.prog 214 0 0 false 1 := ⟨fun w cs r v ht hv => by have h := @run_field_of _ _ _ 0 _ _ _ Tryz.underlying214 rfl Tryz.isAgg3 Tryz.sizeOf3 w cs r v; exact h ht hv⟩
instance : FdT Tryz.prog 214 1 1 := ⟨fun w b o => by have h := run_fieldAt_of (f := 1) Tryz.underlying214 rfl Tryz.sizeOf3 (by decide) w b o; exact h⟩
instance : FlT Tryz.prog 214 1 1 false 1 := ⟨fun w cs r v ht hv => by have h := @run_field_of _ _ _ 1 _ _ _ Tryz.underlying214 rfl Tryz.isAgg3 Tryz.sizeOf3 w cs r v; exact h ht hv⟩
instance : FdT Tryz.prog 214 2 2 := ⟨fun w b o => by have h := run_fieldAt_of (f := 2) Tryz.underlying214 rfl Tryz.sizeOf28 (by decide) w b o; exact h⟩
instance : FlT Tryz.prog 214 2 2 false 1 := ⟨fun w cs r v ht hv => by have h := @run_field_of _ _ _ 2 _ _ _ Tryz.underlying214 rfl Tryz.isAgg28 Tryz.sizeOf28 w cs r v; exact h ht hv⟩
instance : TI Tryz.prog 215 false 1 := ⟨Tryz.isAgg215, Tryz.sizeOf215⟩
instance : TI Tryz.prog 216 false 1 := ⟨Tryz.isAgg216, Tryz.sizeOf216⟩
instance : TI Tryz.prog 217 false 1 := ⟨Tryz.isAgg217, Tryz.sizeOf217⟩
instance : TI Tryz.prog 218 false 1 := ⟨Tryz.isAgg218, Tryz.sizeOf218⟩
instance : TI Tryz.prog 220 false 1 := ⟨Tryz.isAgg220, Tryz.sizeOf220⟩
instance : TI Tryz.prog 221 false 1 := ⟨Tryz.isAgg221, Tryz.sizeOf221⟩
instance : TI Tryz.prog 222 false 1 := ⟨Tryz.isAgg222, Tryz.sizeOf222⟩
instance : TI Tryz.prog 223 false 1 := ⟨Tryz.isAgg223, Tryz.sizeOf223⟩
instance : TI Tryz.prog 224 false 1 := ⟨Tryz.isAgg224, Tryz.sizeOf224⟩
instance : TI Tryz.prog 225 false 1 := ⟨Tryz.isAgg225, Tryz.sizeOf225⟩
instance : TI Tryz.prog 226 false 1 := ⟨Tryz.isAgg226, Tryz.sizeOf226⟩
instance : TI Tryz.prog 227 false 1 := ⟨Tryz.isAgg227, Tryz.sizeOf227⟩
instance : TI Tryz.prog 228 false 1 := ⟨Tryz.isAgg228, Tryz.sizeOf228⟩
instance : TI Tryz.prog 229 false 1 := ⟨Tryz.isAgg229, Tryz.sizeOf229⟩
instance : ZeroT Tryz.prog 230 [.int .u8 0, .int .u8 0, .int .u8 0, .int .u8 0, .int .u8 0, .int .u8 0, .int .u8 0, .int .u8 0, .int .u8 0, .int .u8 0, .int .u8 0, .int .u8 0, .int .u8 0, .int .u8 0, .int .u8 0, .int .u8 0, .int .u8 0, .int .u8 0, .int .u8 0, .int .u8 0, .int .u8 0, .int .u8 0, .int .u8 0, .int .u8 0] := ⟨fun w => ⟨_, Tryz.zeroValue230 w, rfl⟩⟩
instance : TI Tryz.prog 231 false 1 := ⟨Tryz.isAgg231, Tryz.sizeOf231⟩
instance : ZeroT Tryz.prog 231 [.int .u64 0] := ⟨fun w => ⟨_, Tryz.zeroValue231 w, rfl⟩⟩
instance : IntT Tryz.prog 231 .u64 := ⟨Tryz.underlying231⟩
instance : TI Tryz.prog 232 false 1 := ⟨Tryz.isAgg232, Tryz.sizeOf232⟩
instance : TI Tryz.prog 233 false 1 := ⟨Tryz.isAgg233, Tryz.sizeOf233⟩
instance : TI Tryz.prog 235 false 1 := ⟨Tryz.isAgg235, Tryz.sizeOf235⟩
instance : TI Tryz.prog 236 false 1 := ⟨Tryz.isAgg236, Tryz.sizeOf236⟩
instance : TI Tryz.prog 237 false 1 := ⟨Tryz.isAgg237, Tryz.sizeOf237⟩
instance : TI Tryz.prog 238 false 1 := ⟨Tryz.isAgg238, Tryz.sizeOf238⟩
instance : ZeroT Tryz.prog 238 [.int .i64 0] := ⟨fun w => ⟨_, Tryz.zeroValue238 w, rfl⟩⟩
instance : IntT Tryz.prog 238 .i64 := ⟨Tryz.underlying238⟩
instance : TI Tryz.prog 240 false 1 := ⟨Tryz.isAgg240, Tryz.sizeOf240⟩
instance : TI Tryz.prog 241 false 1 := ⟨Tryz.isAgg241, Tryz.sizeOf241⟩
instance : TI Tryz.prog 242 false 1 := ⟨Tryz.isAgg242, Tryz.sizeOf242⟩
instance : TI Tryz.prog 243 false 1 := ⟨Tryz.isAgg243, Tryz.sizeOf243⟩
instance : TI Tryz.prog 244 false 1 := ⟨Tryz.isAgg244, Tryz.sizeOf244⟩
instance : TI Tryz.prog 245 false 1 := ⟨Tryz.isAgg245, Tryz.sizeOf245⟩
instance : TI Tryz.prog 246 false 1 := ⟨Tryz.isAgg246, Tryz.sizeOf246⟩
instance : TI Tryz.prog 247 false 1 := ⟨Tryz.isAgg247, Tryz.sizeOf247⟩
instance : TI Tryz.prog 249 false 1 := ⟨Tryz.isAgg249, Tryz.sizeOf249⟩
instance : TI Tryz.prog 250 false 1 := ⟨Tryz.isAgg250, Tryz.sizeOf250⟩
instance : TI Tryz.prog 251 false 1 := ⟨Tryz.isAgg251, Tryz.sizeOf251⟩
instance : TI Tryz.prog 252 true 3 := ⟨Tryz.isAgg252, Tryz.sizeOf252⟩
instance : ZeroT Tryz.prog 252 [.slice none 0 0, .int .i64 0, .int .i64 0] := ⟨fun w => ⟨_, Tryz.zeroValue252 w, rfl⟩⟩
instance : FdT Tryz.prog 252 0 0 := ⟨fun w b o => by have h := run_fieldAt_of (f := 0) Tryz.underlying252 rfl Tryz.sizeOf28 (by decide) w b o; exact h⟩
instance : FlT Tryz.prog 252 0 0 false 1 := ⟨fun w cs r v ht hv => by have h := @run_field_of _ _ _ 0 _ _ _ Tryz.underlying252 rfl Tryz.isAgg28 Tryz.sizeOf28 w cs r v; exact h ht hv⟩
instance : FdT Tryz.prog 252 1 1 := ⟨fun w b o => by have h := run_fieldAt_of (f := 1) Tryz.underlying252 rfl Tryz.sizeOf3 (by decide) w b o; exact h⟩
instance : FlT Tryz.prog 252 1 1 false 1 := ⟨fun w cs r v ht hv => by have h := @run_field_of _ _ _ 1 _ _ _ Tryz.underlying252 rfl Tryz.isAgg3 Tryz.sizeOf3 w cs r v; exact h ht hv⟩
instance : FdT Tryz.prog 252 2 2 := ⟨fun w b o => by have h := run_fieldAt_of (f := 2) Tryz.underlying252 rfl Tryz.sizeOf3 (by decide) w b o; exact h⟩
instance : FlT Tryz.prog 252 2 2 false 1 := ⟨fun w cs r v ht hv => by have h := @run_field_of _ _ _ 2 _ _ _ Tryz.underlying252 rfl Tryz.isAgg3 Tryz.sizeOf3 w cs r v; exact h ht hv⟩
instance : TI Tryz.prog 253 true 3 := ⟨Tryz.isAgg253, Tryz.sizeOf253⟩
instance : ZeroT Tryz.prog 253 [.slice none 0 0, .int .i64 0, .int .i64 0] := ⟨fun w => ⟨_, Tryz.zeroValue253 w, rfl⟩⟩
instance : FdT Tryz.prog 253 0 0 := ⟨fun w b o => by have h := run_fieldAt_of (f := 0) Tryz.underlying253 rfl Tryz.sizeOf28 (by decide) w b o; exact h⟩
instance : FlT Tryz.prog 253 0 0 false 1 := ⟨fun w cs r v ht hv => by have h := @run_field_of _ _ _ 0 _ _ _ Tryz.underlying253 rfl Tryz.isAgg28 Tryz.sizeOf28 w cs r v; exact h ht hv⟩
instance : FdT Tryz.prog 253 1 1 := ⟨fun w b o => by have h := run_fieldAt_of (f := 1) Tryz.underlying253 rfl Tryz.sizeOf3 (by decide) w b o; exact h⟩
instance : FlT Tryz.prog 253 1 1 false 1 := ⟨fun w cs r v ht hv => by have h := @run_field_of _ _ _ 1 _ _ _ Tryz.underlying253 rfl Tryz.isAgg3 Tryz.sizeOf3 w cs r v; exact h ht hv⟩
instance : FdT Tryz.prog 253 2 2 := ⟨fun w b o => by have h := run_fieldAt_of (f := 2) Tryz.underlying253 rfl Tryz.sizeOf3 (by decide) w b o; exact h⟩
instance : FlT Tryz.prog 253 2 2 false 1 := ⟨fun w cs r v ht hv => by have h := @run_field_of _ _ _ 2 _ _ _ Tryz.underlying253 rfl Tryz.isAgg3 Tryz.sizeOf3 w cs r v; exact h ht hv⟩
instance : TI Tryz.prog 254 false 1 := ⟨Tryz.isAgg254, Tryz.sizeOf254⟩
instance : TI Tryz.prog 255 false 1 := ⟨Tryz.isAgg255, Tryz.sizeOf255⟩
instance : TI Tryz.prog 256 false 1 := ⟨Tryz.isAgg256, Tryz.sizeOf256⟩
instance : TI Tryz.prog 257 false 1 := ⟨Tryz.isAgg257, Tryz.sizeOf257⟩
instance : TI Tryz.prog 259 false 1 := ⟨Tryz.isAgg259, Tryz.sizeOf259⟩
instance : TI Tryz.prog 260 false 1 := ⟨Tryz.isAgg260, Tryz.sizeOf260⟩
instance : TI Tryz.prog 261 false 1 := ⟨Tryz.isAgg261, Tryz.sizeOf261⟩
instance : TI Tryz.prog 262 false 1 := ⟨Tryz.isAgg262, Tryz.sizeOf262⟩
instance : ZeroT Tryz.prog 263 [.int .u64 0, .int .u64 0, .int .u64 0, .int .u64 0, .int .u64 0, .int .u64 0, .int .u64 0, .int .u64 0, .int .u64 0, .int .u64 0, .int .u64 0, .int .u64 0, .int .u64 0, .int .u64 0, .int .u64 0, .int .u64 0, .int .u64 0, .int .u64 0, .int .u64 0, .int .u64 0] := ⟨fun w => ⟨_, Tryz.zeroValue263 w, rfl⟩⟩
instance : TI Tryz.prog 264 false 1 := ⟨Tryz.isAgg264, Tryz.sizeOf264⟩
instance : ZeroT Tryz.prog 264 [.int .u32 0] := ⟨fun w => ⟨_, Tryz.zeroValue264 w, rfl⟩⟩
instance : IntT Tryz.prog 264 .u32 := ⟨Tryz.underlying264⟩
instance : ZeroT Tryz.prog 265 [.int .u8 0, .int .u8 0, .int .u8 0, .int .u8 0, .int .u8 0, .int .u8 0, .int .u8 0, .int .u8 0, .int .u8 0, .int .u8 0, .int .u8 0, .int .u8 0, .int .u8 0, .int .u8 0, .int .u8 0, .int .u8 0, .int .u8 0, .int .u8 0, .int .u8 0, .int .u8 0, .int .u8 0, .int .u8 0, .int .u8 0, .int .u8 0, .int .u8 0, .int .u8 0, .int .u8 0, .int .u8 0, .int .u8 0, .int .u8 0, .int .u8 0, .int .u8 0, .int .u8 0, .int .u8 0, .int .u8 0, .int .u8 0, .int .u8 0, .int .u8 0, .int .u8 0, .int .u8 0, .int .u8 0, .int .u8 0, .int .u8 0, .int .u8 0, .int .u8 0, .int .u8 0, .int .u8 0, .int .u8 0, .int .u8 0, .int .u8 0, .int .u8 0, .int .u8 0, .int .u8 0, .int .u8 0, .int .u8 0, .int .u8 0, .int .u8 0, .int .u8 0, .int .u8 0, .int .u8 0, .int .u8 0, .int .u8 0, .int .u8 0, .int .u8 0, .int .u8 0] := ⟨fun w => ⟨_, Tryz.zeroValue265 w, rfl⟩⟩
instance : TI Tryz.prog 266 false 1 := ⟨Tryz.isAgg266, Tryz.sizeOf266⟩
instance : ZeroT Tryz.prog 267 [.int .u8 0, .int .u8 0, .int .u8 0, .int .u8 0, .int .u8 0, .int .u8 0, .int .u8 0, .int .u8 0, .int .u8 0, .int .u8 0, .int .u8 0, .int .u8 0, .int .u8 0, .int .u8 0, .int .u8 0, .int .u8 0, .int .u8 0, .int .u8 0, .int .u8 0, .int .u8 0, .int .u8 0, .int .u8 0, .int .u8 0, .int .u8 0, .int .u8 0, .int .u8 0, .int .u8 0, .int .u8 0, .int .u8 0, .int .u8 0, .int .u8 0, .int .u8 0, .int .u8 0, .int .u8 0, .int .u8 0, .int .u8 0, .int .u8 0, .int .u8 0, .int .u8 0, .int .u8 0, .int .u8 0, .int .u8 0, .int .u8 0, .int .u8 0, .int .u8 0, .int .u8 0, .int .u8 0, .int .u8 0, .int .u8 0, .int .u8 0, .int .u8 0, .int .u8 0, .int .u8 0, .int .u8 0, .int .u8 0, .int .u8 0, .int .u8 0, .int .u8 0, .int .u8 0, .int .u8 0, .int .u8 0, .int .u8 0, .int .u8 0, .int .u8 0, .int .u8 0, .int .u8 0, .int .u8 0, .int .u8 0, .int .u8 0, .int .u8 0, .int .u8 0, .int .u8 0, .int .u8 0, .int .u8 0, .int .u8 0, .int .u8 0, .int .u8 0, .int .u8 0, .int .u8 0, .int .u8 0, .int .u8 0, .int .u8 0, .int .u8 0, .int .u8 0, .int .u8 0, .int .u8 0, .int .u8 0, .int .u8 0, .int .u8 0, .int .u8 0, .int .u8 0, .int .u8 0, .int .u8 0, .int .u8 0, .int .u8 0, .int .u8 0, .int .u8 0, .int .u8 0, .int .u8 0, .int .u8 0, .int .u8 0, .int .u8 0, .int .u8 0, .int .u8 0, .int .u8 0, .int .u8 0, .int .u8 0, .int .u8 0, .int .u8 0, .int .u8 0, .int .u8 0, .int .u8 0, .int .u8 0, .int .u8 0, .int .u8 0, .int .u8 0, .int .u8 0, .int .u8 0, .int .u8 0, .int .u8 0, .int .u8 0, .int .u8 0, .int .u8 0, .int .u8 0, .int .u8 0, .int .u8 0, .int .u8 0, .int .u8 0, .int .u8 0, .int .u8 0, .int .u8 0, .int .u8 0, .int .u8 0, .int .u8 0, .int .u8 0, .int .u8 0, .int .u8 0, .int .u8 0, .int .u8 0, .int .u8 0, .int .u8 0, .int .u8 0, .int .u8 0, .int .u8 0, .int .u8 0, .int .u8 0, .int .u8 0, .int .u8 0, .int .u8 0, .int .u8 0, .int .u8 0, .int .u8 0, .int .u8 0, .int .u8 0, .int .u8 0, .int .u8 0, .int .u8 0, .int .u8 0, .int .u8 0, .int .u8 0, .int .u8 0, .int .u8 0, .int .u8 0, .int .u8 0, .int .u8 0, .int .u8 0, .int .u8 0, .int .u8 0, .int .u8 0, .int .u8 0, .int .u8 0, .int .u8 0, .int .u8 0, .int .u8 0, .int .u8 0, .int .u8 0, .int .u8 0, .int .u8 0, .int .u8 0, .int .u8 0, .int .u8 0, .int .u8 0, .int .u8 0, .int .u8 0, .int .u8 0, .int .u8 0, .int .u8 0, .int .u8 0, .int .u8 0, .int .u8 0, .int .u8 0, .int .u8 0, .int .u8 0, .int .u8 0, .int .u8 0, .int .u8 0, .int .u8 0, .int .u8 0, .int .u8 0, .int .u8 0, .int .u8 0, .int .u8 0, .int .u8 0, .int .u8 0, .int .u8 0, .int .u8 0, .int .u8 0, .int .u8 0, .int .u8 0, .int .u8 0, .int .u8 0, .int .u8 0, .int .u8 0, .int .u8 0, .int .u8 0, .int .u8 0, .int .u8 0, .int .u8 0, .int .u8 0, .int .u8 0, .int .u8 0, .int .u8 0, .int .u8 0, .int .u8 0, .int .u8 0, .int .u8 0, .int .u8 0, .int .u8 0, .int .u8 0, .int .u8 0, .int .u8 0, .int .u8 0, .int .u8 0, .int .u8 0, .int .u8 0, .int .u8 0, .int .u8 0, .int .u8 0, .int .u8 0, .int .u8 0, .int .u8 0, .int .u8 0, .int .u8 0, .int .u8 0, .int .u8 0, .int .u8 0, .int .u8 0, .int .u8 0, .int .u8 0, .int .u8 0, .int .u8 0, .int .u8 0, .int .u8 0, .int .u8 0, .int .u8 0, .int .u8 0] := ⟨fun w => ⟨_, Tryz.zeroValue267 w, rfl⟩⟩
instance : TI Tryz.prog 268 true 2 := ⟨Tryz.isAgg268, Tryz.sizeOf268⟩
instance : ZeroT Tryz.prog 268 [.int .u8 0, .int .u8 0] := ⟨fun w => ⟨_, Tryz.zeroValue268 w, rfl⟩⟩
instance : FdT Tryz.prog 268 0 0 := ⟨fun w b o => by have h := run_fieldAt_of (f := 0) Tryz.underlying268 rfl Tryz.sizeOf5 (by decide) w b o; exact h⟩
instance : FlT Tryz.prog 268 0 0 false 1 := ⟨fun w cs r v ht hv => by have h := @run_field_of _ _ _ 0 _ _ _ Tryz.underlying268 rfl Tryz.isAgg5 Tryz.sizeOf5 w cs r v; exact h ht hv⟩
instance : FdT Tryz.prog 268 1 1 := ⟨fun w b o => by have h := run_fieldAt_of (f := 1) Tryz.underlying268 rfl Tryz.sizeOf5 (by decide) w b o; exact h⟩
instance : FlT Tryz.prog 268 1 1 false 1 := ⟨fun w cs r v ht hv => by have h := @run_field_of _ _ _ 1 _ _ _ Tryz.underlying268 rfl Tryz.isAgg5 Tryz.sizeOf5 w cs r v; exact h ht hv⟩
instance : TI Tryz.prog 269 true 2 := ⟨Tryz.isAgg269, Tryz.sizeOf269⟩
instance : ZeroT Tryz.prog 269 [.int .u8 0, .int .u8 0] := ⟨fun w => ⟨_, Tryz.zeroValue269 w, rfl⟩⟩
instance : FdT Tryz.prog 269 0 0 := ⟨fun w b o => by have h := run_fieldAt_of (f := 0) Tryz.underlying269 rfl Tryz.sizeOf5 (by decide) w b o; exact h⟩
instance : FlT Tryz.prog 269 0 0 false 1 := ⟨fun w cs r v ht hv => by have h := @run_field_of _ _ _ 0 _ _ _ Tryz.underlying269 rfl Tryz.isAgg5 Tryz.sizeOf5 w cs r v; exact h ht hv⟩
instance : FdT Tryz.prog 269 1 1 := ⟨fun w b o => by have h := run_fieldAt_of (f := 1) Tryz.underlying269 rfl Tryz.sizeOf5 (by decide) w b o; exact h⟩
instance : FlT Tryz.prog 269 1 1 false 1 := ⟨fun w cs r v ht hv => by have h := @run_field_of _ _ _ 1 _ _ _ Tryz.underlying269 rfl Tryz.isAgg5 Tryz.sizeOf5 w cs r v; exact h ht hv⟩
instance : ZeroT Tryz.prog 270 [.int .u8 0, .int .u8 0, .int .u8 0, .int .u8 0, .int .u8 0, .int .u8 0, .int .u8 0, .int .u8 0, .int .u8 0, .int .u8 0, .int .u8 0, .int .u8 0, .int .u8 0, .int .u8 0, .int .u8 0, .int .u8 0, .int .u8 0, .int .u8 0, .int .u8 0, .int .u8 0, .int .u8 0, .int .u8 0, .int .u8 0, .int .u8 0, .int .u8 0, .int .u8 0, .int .u8 0, .int .u8 0, .int .u8 0, .int .u8 0, .int .u8 0, .int .u8 0] := ⟨fun w => ⟨_, Tryz.zeroValue270 w, rfl⟩⟩
instance : TI Tryz.prog 272 false 1 := ⟨Tryz.isAgg272, Tryz.sizeOf272⟩
instance : TI Tryz.prog 273 false 1 := ⟨Tryz.isAgg273, Tryz.sizeOf273⟩
instance : TI Tryz.prog 274 true 3 := ⟨Tryz.isAgg274, Tryz.sizeOf274⟩
instance : FdT Tryz.prog 274 0 0 := ⟨fun w b o => by have h := run_fieldAt_of (f := 0) Tryz.underlying274 rfl Tryz.sizeOf9 (by decide) w b o; exact h⟩
instance : FlT Tryz.prog 274 0 0 false 1 := ⟨fun w cs r v ht hv => by have h := @run_field_of _ _ _ 0 _ _ _ Tryz.underlying274 rfl Tryz.isAgg9 Tryz.sizeOf9 w cs r v; exact h ht hv⟩
instance : FdT Tryz.prog 274 1 1 := ⟨fun w b o => by have h := run_fieldAt_of (f := 1) Tryz.underlying274 rfl Tryz.sizeOf9 (by decide) w b o; exact h⟩
instance : FlT Tryz.prog 274 1 1 false 1 := ⟨fun w cs r v ht hv => by have h := @run_field_of _ _ _ 1 _ _ _ Tryz.underlying274 rfl Tryz.isAgg9 Tryz.sizeOf9 w cs r v; exact h ht hv⟩
instance : FdT Tryz.prog 274 2 2 := ⟨fun w b o => by have h := run_fieldAt_of (f := 2) Tryz.underlying274 rfl Tryz.sizeOf138 (by decide) w b o; exact h⟩
instance : FlT Tryz.prog 274 2 2 false 1 := ⟨fun w cs r v ht hv => by have h := @run_field_of _ _ _ 2 _ _ _ Tryz.underlying274 rfl Tryz.isAgg138 Tryz.sizeOf138 w cs r v; exact h ht hv⟩
instance : TI Tryz.prog 275 true 3 := ⟨Tryz.isAgg275, Tryz.sizeOf275⟩
instance : FdT Tryz.prog 275 0 0 := ⟨fun w b o => by have h := run_fieldAt_of (f := 0) Tryz.underlying275 rfl Tryz.sizeOf9 (by decide) w b o; exact h⟩
instance : FlT Tryz.prog 275 0 0 false 1 := ⟨fun w cs r v ht hv => by have h := @run_field_of _ _ _ 0 _ _ _ Tryz.underlying275 rfl Tryz.isAgg9 Tryz.sizeOf9 w cs r v; exact h ht hv⟩
instance : FdT Tryz.prog 275 1 1 := ⟨fun w b o => by have h := run_fieldAt_of (f := 1) Tryz.underlying275 rfl Tryz.sizeOf9 (by decide) w b o; exact h⟩
instance : FlT Tryz.prog 275 1 1 false 1 := ⟨fun w cs r v ht hv => by have h := @run_field_of _ _ _ 1 _ _ _ Tryz.underlying275 rfl Tryz.isAgg9 Tryz.sizeOf9 w cs r v; exact h ht hv⟩
instance : FdT Tryz.prog 275 2 2 := ⟨fun w b o => by have h := run_fieldAt_of (f := 2) Tryz.underlying275 rfl Tryz.sizeOf138 (by decide) w b o; exact h⟩
instance : FlT Tryz.prog 275 2 2 false 1 := ⟨fun w cs r v ht hv => by have h := @run_field_of _ _ _ 2 _ _ _ Tryz.underlying275 rfl Tryz.isAgg138 Tryz.sizeOf138 w cs r v; exact h ht hv⟩
instance : TI Tryz.prog 276 false 1 := ⟨Tryz.isAgg276, Tryz.sizeOf276⟩
instance : TI Tryz.prog 277 false 1 := ⟨Tryz.isAgg277, Tryz.sizeOf277⟩
instance : TI Tryz.prog 278 false 1 := ⟨Tryz.isAgg278, Tryz.sizeOf278⟩
instance : ZeroT Tryz.prog 278 [.slice none 0 0] := ⟨fun w => ⟨_, Tryz.zeroValue278 w, rfl⟩⟩
instance : SlT Tryz.prog 278 28 1 := ⟨Tryz.underlying278, Tryz.sizeOf28⟩
instance : ApT Tryz.prog 278 28 1 24 (.slice none 0 0) := ⟨Tryz.underlying278, by kernel_rfl, rfl, rfl, by decide⟩
instance : TI Tryz.prog 280 false 1 := ⟨Tryz.isAgg280, Tryz.sizeOf280⟩
instance : TI Tryz.prog 281 false 1 := ⟨Tryz.isAgg281, Tryz.sizeOf281⟩
instance : TI Tryz.prog 283 false 1 := ⟨Tryz.isAgg283, Tryz.sizeOf283⟩
instance : TI Tryz.prog 284 false 1 := ⟨Tryz.isAgg284, Tryz.sizeOf284⟩
instance : TI Tryz.prog 286 false 1 := ⟨Tryz.isAgg286, Tryz.sizeOf286⟩
instance : TI Tryz.prog 287 false 1 := ⟨Tryz.isAgg287, Tryz.sizeOf287⟩
instance : TI Tryz.prog 288 false 1 := ⟨Tryz.isAgg288, Tryz.sizeOf288⟩
instance : TI Tryz.prog 289 true 1 := ⟨Tryz.isAgg289, Tryz.sizeOf289⟩
instance : ZeroT Tryz.prog 289 [.string ⟨#[]⟩] := ⟨fun w => ⟨_, Tryz.zeroValue289 w, rfl⟩⟩
instance : FdT Tryz.prog 289 0 0 := ⟨fun w b o => by have h := run_fieldAt_of (f := 0) Tryz.underlying289 rfl Tryz.sizeOf9 (by decide) w b o; exact h⟩
instance : FlT Tryz.prog 289 0 0 false 1 := ⟨fun w cs r v ht hv => by have h := @run_field_of _ _ _ 0 _ _ _ Tryz.underlying289 rfl Tryz.isAgg9 Tryz.sizeOf9 w cs r v; exact h ht hv⟩
instance : TI Tryz.prog 290 true 1 := ⟨Tryz.isAgg290, Tryz.sizeOf290⟩
instance : ZeroT Tryz.prog 290 [.string ⟨#[]⟩] := ⟨fun w => ⟨_, Tryz.zeroValue290 w, rfl⟩⟩
instance : FdT Tryz.prog 290 0 0 := ⟨fun w b o => by have h := run_fieldAt_of (f := 0) Tryz.underlying290 rfl Tryz.sizeOf9 (by decide) w b o; exact h⟩
instance : FlT Tryz.prog 290 0 0 false 1 := ⟨fun w cs r v ht hv => by have h := @run_field_of _ _ _ 0 _ _ _ Tryz.underlying290 rfl Tryz.isAgg9 Tryz.sizeOf9 w cs r v; exact h ht hv⟩
instance : TI Tryz.prog 292 false 1 := ⟨Tryz.isAgg292, Tryz.sizeOf292⟩
instance : ZeroT Tryz.prog 293 [.int .u8 0, .int .u8 0, .int .u8 0, .int .u8 0, .int .u8 0, .int .u8 0, .int .u8 0, .int .u8 0, .int .u8 0, .int .u8 0, .int .u8 0, .int .u8 0, .int .u8 0, .int .u8 0, .int .u8 0, .int .u8 0, .int .u8 0, .int .u8 0, .int .u8 0, .int .u8 0, .int .u8 0, .int .u8 0, .int .u8 0, .int .u8 0, .int .u8 0, .int .u8 0, .int .u8 0, .int .u8 0, .int .u8 0, .int .u8 0, .int .u8 0, .int .u8 0] := ⟨fun w => ⟨_, Tryz.zeroValue293 w, rfl⟩⟩
instance : ZeroT Tryz.prog 294 [.int .u8 0, .int .u8 0, .int .u8 0, .int .u8 0, .int .u8 0, .int .u8 0, .int .u8 0, .int .u8 0, .int .u8 0, .int .u8 0, .int .u8 0, .int .u8 0, .int .u8 0, .int .u8 0, .int .u8 0, .int .u8 0, .int .u8 0, .int .u8 0, .int .u8 0, .int .u8 0, .int .u8 0, .int .u8 0, .int .u8 0, .int .u8 0, .int .u8 0, .int .u8 0, .int .u8 0, .int .u8 0, .int .u8 0, .int .u8 0, .int .u8 0, .int .u8 0, .int .u8 0, .int .u8 0, .int .u8 0, .int .u8 0, .int .u8 0, .int .u8 0, .int .u8 0, .int .u8 0, .int .u8 0, .int .u8 0, .int .u8 0, .int .u8 0, .int .u8 0, .int .u8 0, .int .u8 0, .int .u8 0, .int .u8 0, .int .u8 0, .int .u8 0, .int .u8 0, .int .u8 0, .int .u8 0, .int .u8 0, .int .u8 0, .int .u8 0, .int .u8 0, .int .u8 0, .int .u8 0, .int .u8 0, .int .u8 0, .int .u8 0, .int .u8 0] := ⟨fun w => ⟨_, Tryz.zeroValue294 w, rfl⟩⟩
instance : TI Tryz.prog 295 true 4 := ⟨Tryz.isAgg295, Tryz.sizeOf295⟩
instance : FdT Tryz.prog 295 0 0 := ⟨fun w b o => by have h := run_fieldAt_of (f := 0) Tryz.underlying295 rfl Tryz.sizeOf17 (by decide) w b o; exact h⟩
instance : FlT Tryz.prog 295 0 0 false 1 := ⟨fun w cs r v ht hv => by have h := @run_field_of _ _ _ 0 _ _ _ Tryz.underlying295 rfl Tryz.isAgg17 Tryz.sizeOf17 w cs r v; exact h ht hv⟩
instance : FdT Tryz.prog 295 1 1 := ⟨fun w b o => by have h := run_fieldAt_of (f := 1) Tryz.underlying295 rfl Tryz.sizeOf17 (by decide) w b o; exact h⟩
instance : FlT Tryz.prog 295 1 1 false 1 := ⟨fun w cs r v ht hv => by have h := @run_field_of _ _ _ 1 _ _ _ Tryz.underlying295 rfl Tryz.isAgg17 Tryz.sizeOf17 w cs r v; exact h ht hv⟩
instance : FdT Tryz.prog 295 2 2 := ⟨fun w b o => by have h := run_fieldAt_of (f := 2) Tryz.underlying295 rfl Tryz.sizeOf17 (by decide) w b o; exact h⟩
instance : FlT Tryz.prog 295 2 2 false 1 := ⟨fun w cs r v ht hv => by have h := @run_field_of _ _ _ 2 _ _ _ Tryz.underlying295 rfl Tryz.isAgg17 Tryz.sizeOf17 w cs r v; exact h ht hv⟩
instance : FdT Tryz.prog 295 3 3 := ⟨fun w b o => by have h := run_fieldAt_of (f := 3) Tryz.underlying295 rfl Tryz.sizeOf9 (by decide) w b o; exact h⟩
instance : FlT Tryz.prog 295 3 3 false 1 := ⟨fun w cs r v ht hv => by have h := @run_field_of _ _ _ 3 _ _ _ Tryz.underlying295 rfl Tryz.isAgg9 Tryz.sizeOf9 w cs r v; exact h ht hv⟩
instance : TI Tryz.prog 296 true 4 := ⟨Tryz.isAgg296, Tryz.sizeOf296⟩
instance : FdT Tryz.prog 296 0 0 := ⟨fun w b o => by have h := run_fieldAt_of (f := 0) Tryz.underlying296 rfl Tryz.sizeOf17 (by decide) w b o; exact h⟩
instance : FlT Tryz.prog 296 0 0 false 1 := ⟨fun w cs r v ht hv => by have h := @run_field_of _ _ _ 0 _ _ _ Tryz.underlying296 rfl Tryz.isAgg17 Tryz.sizeOf17 w cs r v; exact h ht hv⟩
instance : FdT Tryz.prog 296 1 1 := ⟨fun w b o => by have h := run_fieldAt_of (f := 1) Tryz.underlying296 rfl Tryz.sizeOf17 (by decide) w b o; exact h⟩
instance : FlT Tryz.prog 296 1 1 false 1 := ⟨fun w cs r v ht hv => by have h := @run_field_of _ _ _ 1 _ _ _ Tryz.underlying296 rfl Tryz.isAgg17 Tryz.sizeOf17 w cs r v; exact h ht hv⟩
instance : FdT Tryz.prog 296 2 2 := ⟨fun w b o => by have h := run_fieldAt_of (f := 2) Tryz.underlying296 rfl Tryz.sizeOf17 (by decide) w b o; exact h⟩
instance : FlT Tryz.prog 296 2 2 false 1 := ⟨fun w cs r v ht hv => by have h := @run_field_of _ _ _ 2 _ _ _ Tryz.underlying296 rfl Tryz.isAgg17 Tryz.sizeOf17 w cs r v; exact h ht hv⟩
instance : FdT Tryz.prog 296 3 3 := ⟨fun w b o => by have h := run_fieldAt_of (f := 3) Tryz.underlying296 rfl Tryz.sizeOf9 (by decide) w b o; exact h⟩
instance : FlT Tryz.prog 296 3 3 false 1 := ⟨fun w cs r v ht hv => by have h := @run_field_of _ _ _ 3 _ _ _ Tryz.underlying296 rfl Tryz.isAgg9 Tryz.sizeOf9 w cs r v; exact h ht hv⟩
instance : ZeroT Tryz.prog 297 [] := ⟨fun w => ⟨_, Tryz.zeroValue297 w, rfl⟩⟩
instance : TI Tryz.prog 298 true 0 := ⟨Tryz.isAgg298, Tryz.sizeOf298⟩
instance : ZeroT Tryz.prog 298 [] := ⟨fun w => ⟨_, Tryz.zeroValue298 w, rfl⟩⟩
instance : TI Tryz.prog 299 true 0 := ⟨Tryz.isAgg299, Tryz.sizeOf299⟩
instance : ZeroT Tryz.prog 299 [] := ⟨fun w => ⟨_, Tryz.zeroValue299 w, rfl⟩⟩
instance : TI Tryz.prog 300 false 1 := ⟨Tryz.isAgg300, Tryz.sizeOf300⟩
instance : TI Tryz.prog 301 false 1 := ⟨Tryz.isAgg301, Tryz.sizeOf301⟩
instance : ZeroT Tryz.prog 301 [.int .u8 0] := ⟨fun w => ⟨_, Tryz.zeroValue301 w, rfl⟩⟩
instance : IntT Tryz.prog 301 .u8 := ⟨Tryz.underlying301⟩
instance : TI Tryz.prog 302 false 1 := ⟨Tryz.isAgg302, Tryz.sizeOf302⟩
instance : ZeroT Tryz.prog 302 [.int .u8 0] := ⟨fun w => ⟨_, Tryz.zeroValue302 w, rfl⟩⟩
instance : IntT Tryz.prog 302 .u8 := ⟨Tryz.underlying302⟩
instance : TI Tryz.prog 303 false 1 := ⟨Tryz.isAgg303, Tryz.sizeOf303⟩
instance : TI Tryz.prog 304 false 1 := ⟨Tryz.isAgg304, Tryz.sizeOf304⟩
instance : ZeroT Tryz.prog 304 [.int .i32 0] := ⟨fun w => ⟨_, Tryz.zeroValue304 w, rfl⟩⟩
instance : IntT Tryz.prog 304 .i32 := ⟨Tryz.underlying304⟩
instance : TI Tryz.prog 305 false 1 := ⟨Tryz.isAgg305, Tryz.sizeOf305⟩
instance : ZeroT Tryz.prog 305 [.int .i32 0] := ⟨fun w => ⟨_, Tryz.zeroValue305 w, rfl⟩⟩
instance : IntT Tryz.prog 305 .i32 := ⟨Tryz.underlying305⟩
instance : TI Tryz.prog 306 true 11 := ⟨Tryz.isAgg306, Tryz.sizeOf306⟩
instance : FdT Tryz.prog 306 0 0 := ⟨fun w b o => by have h := run_fieldAt_of (f := 0) Tryz.underlying306 rfl Tryz.sizeOf12 (by decide) w b o; exact h⟩
instance : FlT Tryz.prog 306 0 0 false 1 := ⟨fun w cs r v ht hv => by have h := @run_field_of _ _ _ 0 _ _ _ Tryz.underlying306 rfl Tryz.isAgg12 Tryz.sizeOf12 w cs r v; exact h ht hv⟩
instance : FdT Tryz.prog 306 1 1 := ⟨fun w b o => by have h := run_fieldAt_of (f := 1) Tryz.underlying306 rfl Tryz.sizeOf12 (by decide) w b o; exact h⟩
instance : FlT Tryz.prog 306 1 1 false 1 := ⟨fun w cs r v ht hv => by have h := @run_field_of _ _ _ 1 _ _ _ Tryz.underlying306 rfl Tryz.isAgg12 Tryz.sizeOf12 w cs r v; exact h ht hv⟩
instance : FdT Tryz.prog 306 2 2 := ⟨fun w b o => by have h := run_fieldAt_of (f := 2) Tryz.underlying306 rfl Tryz.sizeOf264 (by decide) w b o; exact h⟩
instance : FlT Tryz.prog 306 2 2 false 1 := ⟨fun w cs r v ht hv => by have h := @run_field_of _ _ _ 2 _ _ _ Tryz.underlying306 rfl Tryz.isAgg264 Tryz.sizeOf264 w cs r v; exact h ht hv⟩
instance : FdT Tryz.prog 306 3 3 := ⟨fun w b o => by have h := run_fieldAt_of (f := 3) Tryz.underlying306 rfl Tryz.sizeOf301 (by decide) w b o; exact h⟩
instance : FlT Tryz.prog 306 3 3 false 1 := ⟨fun w cs r v ht hv => by have h := @run_field_of _ _ _ 3 _ _ _ Tryz.underlying306 rfl Tryz.isAgg301 Tryz.sizeOf301 w cs r v; exact h ht hv⟩
instance : FdT Tryz.prog 306 4 4 := ⟨fun w b o => by have h := run_fieldAt_of (f := 4) Tryz.underlying306 rfl Tryz.sizeOf5 (by decide) w b o; exact h⟩
instance : FlT Tryz.prog 306 4 4 false 1 := ⟨fun w cs r v ht hv => by have h := @run_field_of _ _ _ 4 _ _ _ Tryz.underlying306 rfl Tryz.isAgg5 Tryz.sizeOf5 w cs r v; exact h ht hv⟩
instance : FdT Tryz.prog 306 5 5 := ⟨fun w b o => by have h := run_fieldAt_of (f := 5) Tryz.underlying306 rfl Tryz.sizeOf5 (by decide) w b o; exact h⟩
instance : FlT Tryz.prog 306 5 5 false 1 := ⟨fun w cs r v ht hv => by have h := @run_field_of _ _ _ 5 _ _ _ Tryz.underlying306 rfl Tryz.isAgg5 Tryz.sizeOf5 w cs r v; exact h ht hv⟩
instance : FdT Tryz.prog 306 6 6 := ⟨fun w b o => by have h := run_fieldAt_of (f := 6) Tryz.underlying306 rfl Tryz.sizeOf302 (by decide) w b o; exact h⟩
instance : FlT Tryz.prog 306 6 6 false 1 := ⟨fun w cs r v ht hv => by have h := @run_field_of _ _ _ 6 _ _ _ Tryz.underlying306 rfl Tryz.isAgg302 Tryz.sizeOf302 w cs r v; exact h ht hv⟩
instance : FdT Tryz.prog 306 7 7 := ⟨fun w b o => by have h := run_fieldAt_of (f := 7) Tryz.underlying306 rfl Tryz.sizeOf303 (by decide) w b o; exact h⟩
instance : FlT Tryz.prog 306 7 7 false 1 := ⟨fun w cs r v ht hv => by have h := @run_field_of _ _ _ 7 _ _ _ Tryz.underlying306 rfl Tryz.isAgg303 Tryz.sizeOf303 w cs r v; exact h ht hv⟩
instance : FdT Tryz.prog 306 8 8 := ⟨fun w b o => by have h := run_fieldAt_of (f := 8) Tryz.underlying306 rfl Tryz.sizeOf229 (by decide) w b o; exact h⟩
instance : FlT Tryz.prog 306 8 8 false 1 := ⟨fun w cs r v ht hv => by have h := @run_field_of _ _ _ 8 _ _ _ Tryz.underlying306 rfl Tryz.isAgg229 Tryz.sizeOf229 w cs r v; exact h ht hv⟩
instance : FdT Tryz.prog 306 9 9 := ⟨fun w b o => by have h := run_fieldAt_of (f := 9) Tryz.underlying306 rfl Tryz.sizeOf304 (by decide) w b o; exact h⟩
instance : FlT Tryz.prog 306 9 9 false 1 := ⟨fun w cs r v ht hv => by have h := @run_field_of _ _ _ 9 _ _ _ Tryz.underlying306 rfl Tryz.isAgg304 Tryz.sizeOf304 w cs r v; exact h ht hv⟩
instance : FdT Tryz.prog 306 10 10 := ⟨fun w b o => by have h := run_fieldAt_of (f := 10) Tryz.underlying306 rfl Tryz.sizeOf305 (by decide) w b o; exact h⟩
instance : FlT Tryz.prog 306 10 10 false 1 := ⟨fun w cs r v ht hv => by have h := @run_field_of _ _ _ 10 _ _ _ Tryz.underlying306 rfl Tryz.isAgg305 Tryz.sizeOf305 w cs r v; exact h ht hv⟩
instance : TI Tryz.prog 307 true 11 := ⟨Tryz.isAgg307, Tryz.sizeOf307⟩
instance : FdT Tryz.prog 307 0 0 := ⟨fun w b o => by have h := run_fieldAt_of (f := 0) Tryz.underlying307 rfl Tryz.sizeOf12 (by decide) w b o; exact h⟩
instance : FlT Tryz.prog 307 0 0 false 1 := ⟨fun w cs r v ht hv => by have h := @run_field_of _ _ _ 0 _ _ _ Tryz.underlying307 rfl Tryz.isAgg12 Tryz.sizeOf12 w cs r v; exact h ht hv⟩
instance : FdT Tryz.prog 307 1 1 := ⟨fun w b o => by have h := run_fieldAt_of (f := 1) Tryz.underlying307 rfl Tryz.sizeOf12 (by decide) w b o; exact h⟩
instance : FlT Tryz.prog 307 1 1 false 1 := ⟨fun w cs r v ht hv => by have h := @run_field_of _ _ _ 1 _ _ _ Tryz.underlying307 rfl Tryz.isAgg12 Tryz.sizeOf12 w cs r v; exact h ht hv⟩
instance : FdT Tryz.prog 307 2 2 := ⟨fun w b o => by have h := run_fieldAt_of (f := 2) Tryz.underlying307 rfl Tryz.sizeOf264 (by decide) w b o; exact h⟩
instance : FlT Tryz.prog 307 2 2 false 1 := ⟨fun w cs r v ht hv => by have h := @run_field_of _ _ _ 2 _ _ _ Tryz.underlying307 rfl Tryz.isAgg264 Tryz.sizeOf264 w cs r v; exact h ht hv⟩
instance : FdT Tryz.prog 307 3 3 := ⟨fun w b o => by have h := run_fieldAt_of (f := 3) Tryz.underlying307 rfl Tryz.sizeOf301 (by decide) w b o; exact h⟩
instance : FlT Tryz.prog 307 3 3 false 1 := ⟨fun w cs r v ht hv => by have h := @run_field_of _ _ _ 3 _ _ _ Tryz.underlying307 rfl Tryz.isAgg301 Tryz.sizeOf301 w cs r v; exact h ht hv⟩
instance : FdT Tryz.prog 307 4 4 := ⟨fun w b o => by have h := run_fieldAt_of (f := 4) Tryz.underlying307 rfl Tryz.sizeOf5 (by decide) w b o; exact h⟩
instance : FlT Tryz.prog 307 4 4 false 1 := ⟨fun w cs r v ht hv => by have h := @run_field_of _ _ _ 4 _ _ _ Tryz.underlying307 rfl Tryz.isAgg5 Tryz.sizeOf5 w cs r v; exact h ht hv⟩
instance : FdT Tryz.prog 307 5 5 := ⟨fun w b o => by have h := run_fieldAt_of (f := 5) Tryz.underlying307 rfl Tryz.sizeOf5 (by decide) w b o; exact h⟩
instance : FlT Tryz.prog 307 5 5 false 1 := ⟨fun w cs r v ht hv => by have h := @run_field_of _ _ _ 5 _ _ _ Tryz.underlying307 rfl Tryz.isAgg5 Tryz.sizeOf5 w cs r v; exact h ht hv⟩
instance : FdT Tryz.prog 307 6 6 := ⟨fun w b o => by have h := run_fieldAt_of (f := 6) Tryz.underlying307 rfl Tryz.sizeOf302 (by decide) w b o; exact h⟩
instance : FlT Tryz.prog 307 6 6 false 1 := ⟨fun w cs r v ht hv => by have h := @run_field_of _ _ _ 6 _ _ _ Tryz.underlying307 rfl Tryz.isAgg302 Tryz.sizeOf302 w cs r v; exact h ht hv⟩
instance : FdT Tryz.prog 307 7 7 := ⟨fun w b o => by have h := run_fieldAt_of (f := 7) Tryz.underlying307 rfl Tryz.sizeOf303 (by decide) w b o; exact h⟩
instance : FlT Tryz.prog 307 7 7 false 1 := ⟨fun w cs r v ht hv => by have h := @run_field_of _ _ _ 7 _ _ _ Tryz.underlying307 rfl Tryz.isAgg303 Tryz.sizeOf303 w cs r v; exact h ht hv⟩
instance : FdT Tryz.prog 307 8 8 := ⟨fun w b o => by have h := run_fieldAt_of (f := 8) Tryz.underlying307 rfl Tryz.sizeOf229 (by decide) w b o; exact h⟩
instance : FlT Tryz.prog 307 8 8 false 1 := ⟨fun w cs r v ht hv => by have h := @run_field_of _ _ _ 8 _ _ _ Tryz.underlying307 rfl Tryz.isAgg229 Tryz.sizeOf229 w cs r v; exact h ht hv⟩
instance : FdT Tryz.prog 307 9 9 := ⟨fun w b o => by have h := run_fieldAt_of (f := 9) Tryz.underlying307 rfl Tryz.sizeOf304 (by decide) w b o; exact h⟩
instance : FlT Tryz.prog 307 9 9 false 1 := ⟨fun w cs r v ht hv => by have h := @run_field_of _ _ _ 9 _ _ _ Tryz.underlying307 rfl Tryz.isAgg304 Tryz.sizeOf304 w cs r v; exact h ht hv⟩
instance : FdT Tryz.prog 307 10 10 := ⟨fun w b o => by have h := run_fieldAt_of (f := 10) Tryz.underlying307 rfl Tryz.sizeOf305 (by decide) w b o; exact h⟩
instance : FlT Tryz.prog 307 10 10 false 1 := ⟨fun w cs r v ht hv => by have h := @run_field_of _ _ _ 10 _ _ _ Tryz.underlying307 rfl Tryz.isAgg305 Tryz.sizeOf305 w cs r v; exact h ht hv⟩
instance : BdT Tryz.prog 7 [(0, 1), (1, 1), (2, 1), (3, 1)] [.int .i64 0, .int .i64 0, .bool false, .int .u8 0] := bdT_of Tryz.underlying7 Tryz.zeroValue7 rfl (fun w => by simp)
instance : BdT Tryz.prog 8 [(0, 1), (1, 1), (2, 1), (3, 1)] [.int .i64 0, .int .i64 0, .bool false, .int .u8 0] := bdT_of Tryz.underlying8 Tryz.zeroValue8 rfl (fun w => by simp)
instance : BdT Tryz.prog 13 [(0, 1), (1, 1)] [.string ⟨#[]⟩, .int .u64 0] := bdT_of Tryz.underlying13 Tryz.zeroValue13 rfl (fun w => by simp)
instance : BdT Tryz.prog 14 [(0, 1), (1, 1)] [.string ⟨#[]⟩, .int .u64 0] := bdT_of Tryz.underlying14 Tryz.zeroValue14 rfl (fun w => by simp)
instance : BdT Tryz.prog 24 [(0, 1), (1, 1), (2, 1), (3, 1), (4, 1), (5, 1), (6, 1)] [.int .i64 0, .string ⟨#[]⟩, .int .i64 0, .int .i64 0, .int .i64 0, .slice none 0 0, .slice none 0 0] := bdT_of Tryz.underlying24 Tryz.zeroValue24 rfl (fun w => by simp)
instance : BdT Tryz.prog 25 [(0, 1), (1, 1), (2, 1), (3, 1), (4, 1), (5, 1), (6, 1)] [.int .i64 0, .string ⟨#[]⟩, .int .i64 0, .int .i64 0, .int .i64 0, .slice none 0 0, .slice none 0 0] := bdT_of Tryz.underlying25 Tryz.zeroValue25 rfl (fun w => by simp)
instance : BdT Tryz.prog 29 [(0, 1), (1, 1), (2, 1), (3, 1), (4, 1), (5, 1), (6, 1)] [.int .i64 0, .string ⟨#[]⟩, .int .i64 0, .int .i64 0, .int .i64 0, .slice none 0 0, .slice none 0 0] := bdT_of Tryz.underlying29 Tryz.zeroValue29 rfl (fun w => by simp)
instance : BdT Tryz.prog 30 [(0, 1), (1, 1), (2, 1), (3, 1), (4, 1), (5, 1), (6, 1)] [.int .i64 0, .string ⟨#[]⟩, .int .i64 0, .int .i64 0, .int .i64 0, .slice none 0 0, .slice none 0 0] := bdT_of Tryz.underlying30 Tryz.zeroValue30 rfl (fun w => by simp)
instance : BdT Tryz.prog 34 [(0, 1), (1, 1), (2, 1), (3, 1)] [.int .i64 0, .int .i64 0, .int .i64 0, .slice none 0 0] := bdT_of Tryz.underlying34 Tryz.zeroValue34 rfl (fun w => by simp)
instance : BdT Tryz.prog 35 [(0, 1), (1, 1), (2, 1), (3, 1)] [.int .i64 0, .int .i64 0, .int .i64 0, .slice none 0 0] := bdT_of Tryz.underlying35 Tryz.zeroValue35 rfl (fun w => by simp)
instance : BdT Tryz.prog 47 [(0, 1), (1, 1), (2, 1), (3, 1)] [.bool false, .slice none 0 0, .slice none 0 0, .int .i64 0] := bdT_of Tryz.underlying47 Tryz.zeroValue47 rfl (fun w => by simp)
instance : BdT Tryz.prog 48 [(0, 1), (1, 1), (2, 1), (3, 1)] [.bool false, .slice none 0 0, .slice none 0 0, .int .i64 0] := bdT_of Tryz.underlying48 Tryz.zeroValue48 rfl (fun w => by simp)
instance : BdT Tryz.prog 54 [(0, 1), (1, 1), (2, 1), (3, 1), (4, 1)] [.string ⟨#[]⟩, .int .i64 0, .slice none 0 0, .slice none 0 0, .slice none 0 0] := bdT_of Tryz.underlying54 Tryz.zeroValue54 rfl (fun w => by simp)
instance : BdT Tryz.prog 55 [(0, 1), (1, 1), (2, 1), (3, 1), (4, 1)] [.string ⟨#[]⟩, .int .i64 0, .slice none 0 0, .slice none 0 0, .slice none 0 0] := bdT_of Tryz.underlying55 Tryz.zeroValue55 rfl (fun w => by simp)
instance : BdT Tryz.prog 57 [(0, 5), (5, 1)] [.string ⟨#[]⟩, .int .i64 0, .slice none 0 0, .slice none 0 0, .slice none 0 0, .slice none 0 0] := bdT_of Tryz.underlying57 Tryz.zeroValue57 rfl (fun w => by simp)
instance : BdT Tryz.prog 58 [(0, 5), (5, 1)] [.string ⟨#[]⟩, .int .i64 0, .slice none 0 0, .slice none 0 0, .slice none 0 0, .slice none 0 0] := bdT_of Tryz.underlying58 Tryz.zeroValue58 rfl (fun w => by simp)
instance : BdT Tryz.prog 95 [(0, 1), (1, 1), (2, 1)] [.slice none 0 0, .int .i64 0, .int .i64 0] := bdT_of Tryz.underlying95 Tryz.zeroValue95 rfl (fun w => by simp)
instance : BdT Tryz.prog 96 [(0, 1), (1, 1), (2, 1)] [.slice none 0 0, .int .i64 0, .int .i64 0] := bdT_of Tryz.underlying96 Tryz.zeroValue96 rfl (fun w => by simp)
instance : BdT Tryz.prog 101 [(0, 1), (1, 1), (2, 1)] [.int .i64 0, .int .i64 0, .slice none 0 0] := bdT_of Tryz.underlying101 Tryz.zeroValue101 rfl (fun w => by simp)
instance : BdT Tryz.prog 102 [(0, 1), (1, 1), (2, 1)] [.int .i64 0, .int .i64 0, .slice none 0 0] := bdT_of Tryz.underlying102 Tryz.zeroValue102 rfl (fun w => by simp)
instance : BdT Tryz.prog 105 [(0, 1), (1, 1), (2, 1)] [.int .i64 0, .int .i64 0, .slice none 0 0] := bdT_of Tryz.underlying105 Tryz.zeroValue105 rfl (fun w => by simp)
instance : BdT Tryz.prog 119 [(0, 1), (1, 1), (2, 1), (3, 1)] [.int .i64 0, .int .i64 0, .slice none 0 0, .slice none 0 0] := bdT_of Tryz.underlying119 Tryz.zeroValue119 rfl (fun w => by simp)
instance : BdT Tryz.prog 120 [(0, 1), (1, 1), (2, 1), (3, 1)] [.int .i64 0, .int .i64 0, .slice none 0 0, .slice none 0 0] := bdT_of Tryz.underlying120 Tryz.zeroValue120 rfl (fun w => by simp)
instance : BdT Tryz.prog 128 [(0, 1), (1, 1), (2, 1), (3, 1), (4, 1), (5, 1), (6, 1)] [.int .i64 0, .int .i64 0, .int .i64 0, .slice none 0 0, .bool false, .slice none 0 0, .slice none 0 0] := bdT_of Tryz.underlying128 Tryz.zeroValue128 rfl (fun w => by simp)
instance : BdT Tryz.prog 129 [(0, 1), (1, 1), (2, 1), (3, 1), (4, 1), (5, 1), (6, 1)] [.int .i64 0, .int .i64 0, .int .i64 0, .slice none 0 0, .bool false, .slice none 0 0, .slice none 0 0] := bdT_of Tryz.underlying129 Tryz.zeroValue129 rfl (fun w => by simp)
instance : BdT Tryz.prog 154 [(0, 1), (1, 1), (2, 1)] [.int .i64 0, .int .i64 0, .int .i64 0] := bdT_of Tryz.underlying154 Tryz.zeroValue154 rfl (fun w => by simp)
instance : BdT Tryz.prog 155 [(0, 1), (1, 1), (2, 1)] [.int .i64 0, .int .i64 0, .int .i64 0] := bdT_of Tryz.underlying155 Tryz.zeroValue155 rfl (fun w => by simp)
instance : BdT Tryz.prog 176 [(0, 1), (1, 1), (2, 1)] [.slice none 0 0, .slice none 0 0, .int .i64 0] := bdT_of Tryz.underlying176 Tryz.zeroValue176 rfl (fun w => by simp)
instance : BdT Tryz.prog 177 [(0, 1), (1, 1), (2, 1)] [.slice none 0 0, .slice none 0 0, .int .i64 0] := bdT_of Tryz.underlying177 Tryz.zeroValue177 rfl (fun w => by simp)
instance : BdT Tryz.prog 195 [(0, 1), (1, 1), (2, 1), (3, 1)] [.int .i64 0, .int .i64 0, .bool false, .slice none 0 0] := bdT_of Tryz.underlying195 Tryz.zeroValue195 rfl (fun w => by simp)
instance : BdT Tryz.prog 196 [(0, 1), (1, 1), (2, 1), (3, 1)] [.int .i64 0, .int .i64 0, .bool false, .slice none 0 0] := bdT_of Tryz.underlying196 Tryz.zeroValue196 rfl (fun w => by simp)
instance : BdT Tryz.prog 197 [(0, 1), (1, 1), (2, 4)] [.int .i64 0, .string ⟨#[]⟩, .int .i64 0, .int .i64 0, .bool false, .slice none 0 0] := bdT_of Tryz.underlying197 Tryz.zeroValue197 rfl (fun w => by simp)
instance : BdT Tryz.prog 198 [(0, 1), (1, 1), (2, 4)] [.int .i64 0, .string ⟨#[]⟩, .int .i64 0, .int .i64 0, .bool false, .slice none 0 0] := bdT_of Tryz.underlying198 Tryz.zeroValue198 rfl (fun w => by simp)
instance : BdT Tryz.prog 213 [(0, 1), (1, 1), (2, 1)] [.int .i64 0, .int .i64 0, .slice none 0 0] := bdT_of Tryz.underlying213 Tryz.zeroValue213 rfl (fun w => by simp)
instance : BdT Tryz.prog 214 [(0, 1), (1, 1), (2, 1)] [.int .i64 0, .int .i64 0, .slice none 0 0] := bdT_of Tryz.underlying214 Tryz.zeroValue214 rfl (fun w => by simp)
instance : BdT Tryz.prog 252 [(0, 1), (1, 1), (2, 1)] [.slice none 0 0, .int .i64 0, .int .i64 0] := bdT_of Tryz.underlying252 Tryz.zeroValue252 rfl (fun w => by simp)
instance : BdT Tryz.prog 253 [(0, 1), (1, 1), (2, 1)] [.slice none 0 0, .int .i64 0, .int .i64 0] := bdT_of Tryz.underlying253 Tryz.zeroValue253 rfl (fun w => by simp)
instance : BdT Tryz.prog 268 [(0, 1), (1, 1)] [.int .u8 0, .int .u8 0] := bdT_of Tryz.underlying268 Tryz.zeroValue268 rfl (fun w => by simp)
instance : BdT Tryz.prog 269 [(0, 1), (1, 1)] [.int .u8 0, .int .u8 0] := bdT_of Tryz.underlying269 Tryz.zeroValue269 rfl (fun w => by simp)
instance : BdT Tryz.prog 289 [(0, 1)] [.string ⟨#[]⟩] := bdT_of Tryz.underlying289 Tryz.zeroValue289 rfl (fun w => by simp)
instance : BdT Tryz.prog 290 [(0, 1)] [.string ⟨#[]⟩] := bdT_of Tryz.underlying290 Tryz.zeroValue290 rfl (fun w => by simp)
instance : CallT Tryz.prog 3 := ⟨Tryz.call3⟩
instance : CallT Tryz.prog 4 := ⟨Tryz.call4⟩
instance : CallT Tryz.prog 5 := ⟨Tryz.call5⟩
instance : CallT Tryz.prog 6 := ⟨Tryz.call6⟩
instance : CallT Tryz.prog 7 := ⟨Tryz.call7⟩
instance : CallT Tryz.prog 8 := ⟨Tryz.call8⟩
instance : CallT Tryz.prog 9 := ⟨Tryz.call9⟩
instance : CallT Tryz.prog 10 := ⟨Tryz.call10⟩
instance : CallT Tryz.prog 11 := ⟨Tryz.call11⟩
instance : CallT Tryz.prog 12 := ⟨Tryz.call12⟩
instance : CallT Tryz.prog 13 := ⟨Tryz.call13⟩
instance : CallT Tryz.prog 14 := ⟨Tryz.call14⟩
instance : CallT Tryz.prog 15 := ⟨Tryz.call15⟩
instance : CallT Tryz.prog 16 := ⟨Tryz.call16⟩
instance : CallT Tryz.prog 17 := ⟨Tryz.call17⟩
instance : CallT Tryz.prog 18 := ⟨Tryz.call18⟩
instance : CallT Tryz.prog 19 := ⟨Tryz.call19⟩
instance : CallT Tryz.prog 20 := ⟨Tryz.call20⟩
instance : CallT Tryz.prog 21 := ⟨Tryz.call21⟩
instance : CallT Tryz.prog 22 := ⟨Tryz.call22⟩
instance : CallT Tryz.prog 23 := ⟨Tryz.call23⟩
instance : CallT Tryz.prog 24 := ⟨Tryz.call24⟩
instance : CallT Tryz.prog 25 := ⟨Tryz.call25⟩
instance : CallT Tryz.prog 26 := ⟨Tryz.call26⟩
instance : CallT Tryz.prog 27 := ⟨Tryz.call27⟩
instance : CallT Tryz.prog 28 := ⟨Tryz.call28⟩
instance : CallT Tryz.prog 29 := ⟨Tryz.call29⟩
instance : CallT Tryz.prog 30 := ⟨Tryz.call30⟩
instance : CallT Tryz.prog 31 := ⟨Tryz.call31⟩
instance : CallT Tryz.prog 32 := ⟨Tryz.call32⟩
instance : CallT Tryz.prog 33 := ⟨Tryz.call33⟩
instance : CallT Tryz.prog 34 := ⟨Tryz.call34⟩
instance : CallT Tryz.prog 35 := ⟨Tryz.call35⟩
instance : CallT Tryz.prog 36 := ⟨Tryz.call36⟩
instance : CallT Tryz.prog 37 := ⟨Tryz.call37⟩
instance : CallT Tryz.prog 38 := ⟨Tryz.call38⟩
instance : CallT Tryz.prog 39 := ⟨Tryz.call39⟩
instance : CallT Tryz.prog 40 := ⟨Tryz.call40⟩
instance : CallT Tryz.prog 41 := ⟨Tryz.call41⟩
instance : CallT Tryz.prog 42 := ⟨Tryz.call42⟩
instance : CallT Tryz.prog 43 := ⟨Tryz.call43⟩
instance : CallT Tryz.prog 44 := ⟨Tryz.call44⟩
instance : CallT Tryz.prog 45 := ⟨Tryz.call45⟩
instance : CallT Tryz.prog 46 := ⟨Tryz.call46⟩
instance : CallT Tryz.prog 47 := ⟨Tryz.call47⟩
instance : CallT Tryz.prog 48 := ⟨Tryz.call48⟩
instance : CallT Tryz.prog 49 := ⟨Tryz.call49⟩
instance : CallT Tryz.prog 50 := ⟨Tryz.call50⟩
instance : CallT Tryz.prog 51 := ⟨Tryz.call51⟩
instance : CallT Tryz.prog 52 := ⟨Tryz.call52⟩
instance : CallT Tryz.prog 53 := ⟨Tryz.call53⟩
instance : CallT Tryz.prog 54 := ⟨Tryz.call54⟩
instance : CallT Tryz.prog 55 := ⟨Tryz.call55⟩
instance : CallT Tryz.prog 56 := ⟨Tryz.call56⟩
instance : CallT Tryz.prog 57 := ⟨Tryz.call57⟩
instance : CallT Tryz.prog 58 := ⟨Tryz.call58⟩
instance : CallT Tryz.prog 59 := ⟨Tryz.call59⟩
instance : CallT Tryz.prog 60 := ⟨Tryz.call60⟩
instance : CallT Tryz.prog 61 := ⟨Tryz.call61⟩
instance : CallT Tryz.prog 62 := ⟨Tryz.call62⟩
instance : CallT Tryz.prog 63 := ⟨Tryz.call63⟩
instance : CallT Tryz.prog 64 := ⟨Tryz.call64⟩
instance : CallT Tryz.prog 65 := ⟨Tryz.call65⟩
instance : CallT Tryz.prog 66 := ⟨Tryz.call66⟩
instance : CallT Tryz.prog 67 := ⟨Tryz.call67⟩
instance : CallT Tryz.prog 68 := ⟨Tryz.call68⟩
instance : CallT Tryz.prog 69 := ⟨Tryz.call69⟩
instance : CallT Tryz.prog 70 := ⟨Tryz.call70⟩
instance : CallT Tryz.prog 71 := ⟨Tryz.call71⟩
instance : CallT Tryz.prog 72 := ⟨Tryz.call72⟩
instance : CallT Tryz.prog 73 := ⟨Tryz.call73⟩
instance : CallT Tryz.prog 74 := ⟨Tryz.call74⟩
instance : CallT Tryz.prog 75 := ⟨Tryz.call75⟩
instance : CallT Tryz.prog 76 := ⟨Tryz.call76⟩
instance : CallT Tryz.prog 77 := ⟨Tryz.call77⟩
instance : CallT Tryz.prog 78 := ⟨Tryz.call78⟩
instance : CallT Tryz.prog 79 := ⟨Tryz.call79⟩
instance : CallT Tryz.prog 80 := ⟨Tryz.call80⟩
instance : CallT Tryz.prog 81 := ⟨Tryz.call81⟩
instance : CallT Tryz.prog 82 := ⟨Tryz.call82⟩
instance : CallT Tryz.prog 83 := ⟨Tryz.call83⟩
instance : CallT Tryz.prog 84 := ⟨Tryz.call84⟩
instance : CallT Tryz.prog 85 := ⟨Tryz.call85⟩
instance : CallT Tryz.prog 86 := ⟨Tryz.call86⟩
instance : CallT Tryz.prog 87 := ⟨Tryz.call87⟩
instance : CallT Tryz.prog 88 := ⟨Tryz.call88⟩
instance : CallT Tryz.prog 89 := ⟨Tryz.call89⟩
instance : CallT Tryz.prog 90 := ⟨Tryz.call90⟩
instance : CallT Tryz.prog 91 := ⟨Tryz.call91⟩
instance : CallT Tryz.prog 92 := ⟨Tryz.call92⟩
instance : CallT Tryz.prog 93 := ⟨Tryz.call93⟩
instance : CallT Tryz.prog 94 := ⟨Tryz.call94⟩
instance : CallT Tryz.prog 95 := ⟨Tryz.call95⟩
instance : CallT Tryz.prog 96 := ⟨Tryz.call96⟩
instance : CallT Tryz.prog 97 := ⟨Tryz.call97⟩
instance : CallT Tryz.prog 98 := ⟨Tryz.call98⟩
instance : CallT Tryz.prog 99 := ⟨Tryz.call99⟩
instance : CallT Tryz.prog 100 := ⟨Tryz.call100⟩
instance : CallT Tryz.prog 101 := ⟨Tryz.call101⟩
instance : CallT Tryz.prog 102 := ⟨Tryz.call102⟩
instance : CallT Tryz.prog 103 := ⟨Tryz.call103⟩
instance : CallT Tryz.prog 104 := ⟨Tryz.call104⟩
instance : CallT Tryz.prog 105 := ⟨Tryz.call105⟩
instance : CallT Tryz.prog 106 := ⟨Tryz.call106⟩
instance : CallT Tryz.prog 107 := ⟨Tryz.call107⟩
instance : CallT Tryz.prog 108 := ⟨Tryz.call108⟩
instance : CallT Tryz.prog 109 := ⟨Tryz.call109⟩
instance : CallT Tryz.prog 110 := ⟨Tryz.call110⟩
instance : CallT Tryz.prog 111 := ⟨Tryz.call111⟩
instance : CallT Tryz.prog 112 := ⟨Tryz.call112⟩
instance : CallT Tryz.prog 113 := ⟨Tryz.call113⟩
instance : CallT Tryz.prog 114 := ⟨Tryz.call114⟩
instance : CallT Tryz.prog 115 := ⟨Tryz.call115⟩
instance : CallT Tryz.prog 116 := ⟨Tryz.call116⟩
instance : CallT Tryz.prog 117 := ⟨Tryz.call117⟩
instance : CallT Tryz.prog 118 := ⟨Tryz.call118⟩
instance : CallT Tryz.prog 119 := ⟨Tryz.call119⟩
instance : CallT Tryz.prog 120 := ⟨Tryz.call120⟩
instance : CallT Tryz.prog 121 := ⟨Tryz.call121⟩
instance : CallT Tryz.prog 122 := ⟨Tryz.call122⟩
instance : CallT Tryz.prog 123 := ⟨Tryz.call123⟩
instance : CallT Tryz.prog 124 := ⟨Tryz.call124⟩
instance : CallT Tryz.prog 125 := ⟨Tryz.call125⟩
instance : CallT Tryz.prog 126 := ⟨Tryz.call126⟩
instance : CallT Tryz.prog 127 := ⟨Tryz.call127⟩
instance : CallT Tryz.prog 128 := ⟨Tryz.call128⟩
instance : CallT Tryz.prog 129 := ⟨Tryz.call129⟩
instance : CallT Tryz.prog 130 := ⟨Tryz.call130⟩
instance : CallT Tryz.prog 131 := ⟨Tryz.call131⟩
instance : CallT Tryz.prog 132 := ⟨Tryz.call132⟩
instance : CallT Tryz.prog 133 := ⟨Tryz.call133⟩
instance : CallT Tryz.prog 134 := ⟨Tryz.call134⟩
instance : CallT Tryz.prog 135 := ⟨Tryz.call135⟩
instance : CallT Tryz.prog 136 := ⟨Tryz.call136⟩
instance : CallT Tryz.prog 137 := ⟨Tryz.call137⟩
instance : CallT Tryz.prog 138 := ⟨Tryz.call138⟩
instance : CallT Tryz.prog 139 := ⟨Tryz.call139⟩
instance : CallT Tryz.prog 140 := ⟨Tryz.call140⟩
instance : CallT Tryz.prog 141 := ⟨Tryz.call141⟩
instance : CallT Tryz.prog 142 := ⟨Tryz.call142⟩
instance : CallT Tryz.prog 143 := ⟨Tryz.call143⟩
instance : CallT Tryz.prog 144 := ⟨Tryz.call144⟩
instance : CallT Tryz.prog 145 := ⟨Tryz.call145⟩
instance : CallT Tryz.prog 146 := ⟨Tryz.call146⟩
instance : CallT Tryz.prog 147 := ⟨Tryz.call147⟩
instance : CallT Tryz.prog 148 := ⟨Tryz.call148⟩
instance : CallT Tryz.prog 149 := ⟨Tryz.call149⟩
instance : CallT Tryz.prog 150 := ⟨Tryz.call150⟩
instance : CallT Tryz.prog 151 := ⟨Tryz.call151⟩
instance : CallT Tryz.prog 152 := ⟨Tryz.call152⟩
instance : CallT Tryz.prog 153 := ⟨Tryz.call153⟩
instance : CallT Tryz.prog 154 := ⟨Tryz.call154⟩
instance : CallT Tryz.prog 155 := ⟨Tryz.call155⟩
instance : CallT Tryz.prog 156 := ⟨Tryz.call156⟩
instance : CallT Tryz.prog 157 := ⟨Tryz.call157⟩
instance : CallT Tryz.prog 158 := ⟨Tryz.call158⟩
instance : CallT Tryz.prog 159 := ⟨Tryz.call159⟩
instance : CallT Tryz.prog 160 := ⟨Tryz.call160⟩
instance : CallT Tryz.prog 161 := ⟨Tryz.call161⟩
instance : CallT Tryz.prog 162 := ⟨Tryz.call162⟩
instance : CallT Tryz.prog 163 := ⟨Tryz.call163⟩
instance : CallT Tryz.prog 164 := ⟨Tryz.call164⟩
instance : CallT Tryz.prog 165 := ⟨Tryz.call165⟩
instance : CallT Tryz.prog 166 := ⟨Tryz.call166⟩
instance : CallT Tryz.prog 167 := ⟨Tryz.call167⟩
instance : CallT Tryz.prog 168 := ⟨Tryz.call168⟩
instance : CallT Tryz.prog 169 := ⟨Tryz.call169⟩
instance : CallT Tryz.prog 170 := ⟨Tryz.call170⟩
instance : CallT Tryz.prog 171 := ⟨Tryz.call171⟩
instance : CallT Tryz.prog 172 := ⟨Tryz.call172⟩
instance : CallT Tryz.prog 173 := ⟨Tryz.call173⟩
instance : CallT Tryz.prog 174 := ⟨Tryz.call174⟩
instance : CallT Tryz.prog 175 := ⟨Tryz.call175⟩
instance : CallT Tryz.prog 176 := ⟨Tryz.call176⟩
instance : CallT Tryz.prog 177 := ⟨Tryz.call177⟩
instance : CallT Tryz.prog 178 := ⟨Tryz.call178⟩
instance : CallT Tryz.prog 179 := ⟨Tryz.call179⟩
instance : CallT Tryz.prog 180 := ⟨Tryz.call180⟩
instance : CallT Tryz.prog 181 := ⟨Tryz.call181⟩
instance : CallT Tryz.prog 182 := ⟨Tryz.call182⟩
instance : CallT Tryz.prog 183 := ⟨Tryz.call183⟩
instance : CallT Tryz.prog 184 := ⟨Tryz.call184⟩
instance : CallT Tryz.prog 185 := ⟨Tryz.call185⟩
instance : CallT Tryz.prog 186 := ⟨Tryz.call186⟩
instance : CallT Tryz.prog 187 := ⟨Tryz.call187⟩
instance : CallT Tryz.prog 188 := ⟨Tryz.call188⟩
instance : CallT Tryz.prog 189 := ⟨Tryz.call189⟩
instance : CallT Tryz.prog 190 := ⟨Tryz.call190⟩
instance : CallT Tryz.prog 191 := ⟨Tryz.call191⟩
instance : CallT Tryz.prog 192 := ⟨Tryz.call192⟩
instance : CallT Tryz.prog 193 := ⟨Tryz.call193⟩
instance : CallT Tryz.prog 194 := ⟨Tryz.call194⟩
instance : CallT Tryz.prog 195 := ⟨Tryz.call195⟩
instance : CallT Tryz.prog 196 := ⟨Tryz.call196⟩
instance : CallT Tryz.prog 197 := ⟨Tryz.call197⟩
instance : CallT Tryz.prog 198 := ⟨Tryz.call198⟩
instance : CallT Tryz.prog 199 := ⟨Tryz.call199⟩
instance : CallT Tryz.prog 200 := ⟨Tryz.call200⟩
instance : CallT Tryz.prog 201 := ⟨Tryz.call201⟩
instance : CallT Tryz.prog 202 := ⟨Tryz.call202⟩
instance : CallT Tryz.prog 203 := ⟨Tryz.call203⟩
instance : CallT Tryz.prog 204 := ⟨Tryz.call204⟩
instance : CallT Tryz.prog 206 := ⟨Tryz.call206⟩
instance : CallT Tryz.prog 207 := ⟨Tryz.call207⟩
instance : CallT Tryz.prog 208 := ⟨Tryz.call208⟩
instance : CallT Tryz.prog 209 := ⟨Tryz.call209⟩
instance : CallT Tryz.prog 210 := ⟨Tryz.call210⟩
instance : CallT Tryz.prog 211 := ⟨Tryz.call211⟩
instance : CallT Tryz.prog 212 := ⟨Tryz.call212⟩
instance : CallT Tryz.prog 213 := ⟨Tryz.call213⟩
instance : CallT Tryz.prog 214 := ⟨Tryz.call214⟩
instance : CallT Tryz.prog 215 := ⟨Tryz.call215⟩
instance : CallT Tryz.prog 216 := ⟨Tryz.call216⟩
instance : CallT Tryz.prog 217 := ⟨Tryz.call217⟩
instance : CallT Tryz.prog 218 := ⟨Tryz.call218⟩
instance : CallT Tryz.prog 219 := ⟨Tryz.call219⟩
instance : CallT Tryz.prog 220 := ⟨Tryz.call220⟩
instance : CallT Tryz.prog 221 := ⟨Tryz.call221⟩
instance : CallT Tryz.prog 222 := ⟨Tryz.call222⟩
instance : CallT Tryz.prog 223 := ⟨Tryz.call223⟩
instance : CallT Tryz.prog 224 := ⟨Tryz.call224⟩
instance : CallT Tryz.prog 225 := ⟨Tryz.call225⟩
instance : CallT Tryz.prog 226 := ⟨Tryz.call226⟩
instance : CallT Tryz.prog 229 := ⟨Tryz.call229⟩
instance : CallT Tryz.prog 230 := ⟨Tryz.call230⟩
instance : CallT Tryz.prog 231 := ⟨Tryz.call231⟩
instance : CallT Tryz.prog 232 := ⟨Tryz.call232⟩
instance : CallT Tryz.prog 233 := ⟨Tryz.call233⟩
instance : CallT Tryz.prog 234 := ⟨Tryz.call234⟩
instance : CallT Tryz.prog 236 := ⟨Tryz.call236⟩
instance : CallT Tryz.prog 237 := ⟨Tryz.call237⟩
instance : CallT Tryz.prog 238 := ⟨Tryz.call238⟩
instance : CallT Tryz.prog 239 := ⟨Tryz.call239⟩
instance : CallT Tryz.prog 240 := ⟨Tryz.call240⟩
instance : CallT Tryz.prog 241 := ⟨Tryz.call241⟩
instance : CallT Tryz.prog 242 := ⟨Tryz.call242⟩
instance : CallT Tryz.prog 243 := ⟨Tryz.call243⟩
instance : CallT Tryz.prog 244 := ⟨Tryz.call244⟩
instance : CallT Tryz.prog 245 := ⟨Tryz.call245⟩
instance : CallT Tryz.prog 246 := ⟨Tryz.call246⟩
instance : CallT Tryz.prog 247 := ⟨Tryz.call247⟩
instance : CallT Tryz.prog 249 := ⟨Tryz.call249⟩
instance : CallT Tryz.prog 250 := ⟨Tryz.call250⟩
instance : CallT Tryz.prog 251 := ⟨Tryz.call251⟩
instance : CallT Tryz.prog 252 := ⟨Tryz.call252⟩

end Go.Proofs.YtiobmbicldjikaaGreatDoor
