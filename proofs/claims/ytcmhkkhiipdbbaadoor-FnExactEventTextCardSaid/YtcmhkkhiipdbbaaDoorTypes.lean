/- The facts on the program's types that the rules for operations ask for, printed by program. No condition. -/
import Derived.Test.YtcmhkkhiipdbbaaDoorChecked
import Derived.Test.YtcmhkkhiipdbbaaDoorMem
import Derived.KernelRfl
set_option linter.unusedSimpArgs false
namespace Go.Proofs.YtcmhkkhiipdbbaaDoor

theorem run_field_of {P : Program} {s : TypeId} {fs : Array Field} {f : Nat} {fd : Field} {ag : Bool} {m : Nat} (hu : P.underlying s = some (.struct fs)) (hf : fs[f]? = some fd)
    (ha : ∀ w, (isAgg fd.type).run P w = .ok ag w) (hz : ∀ w, (sizeOf fd.type).run P w = .ok m w) {w : World} {cs r : List Value} {v : Value} (ht : Tk fd.offset m cs r) (hv : LdV ag r v) :
    (Instr.field s (.agg cs.toArray) f).run P w = .ok v w := by
  have hl := ht.spec.1
  cases hv with
  | agg =>
    have e : (cs.toArray.extract fd.offset (fd.offset + m)) = r.toArray := by
      apply Array.ext'
      simp only [Array.toList_extract, List.extract_eq_take_drop]
      apply List.ext_getElem?
      intro j
      rw [List.getElem?_take]
      split
      · rename_i hj
        rw [List.getElem?_drop]
        obtain ⟨v, hv⟩ : ∃ v, r[j]? = some v := ⟨r[j]'(by omega), by rw [List.getElem?_eq_getElem (by omega)]⟩
        rw [hv]; simpa using ht.spec.2 j v hv
      · rw [List.getElem?_eq_none (by omega)]
    simp only [Instr.field, Sem.run_bind, run_underlying hu, Result.andThen_ok, hf, asAgg, Sem.run_pure, part, ha, hz, if_true, e]
  | one =>
    have := ht.spec.2 0 v rfl
    simp only [Nat.add_zero] at this
    simp [Instr.field, run_underlying hu, hf, asAgg, part, ha, this]

theorem run_fieldAt_of {P : Program} {s : TypeId} {fs : Array Field} {f : Nat} {fd : Field} {m : Nat} (hu : P.underlying s = some (.struct fs)) (hf : fs[f]? = some fd)
    (hz : ∀ w, (sizeOf fd.type).run P w = .ok m w) (hm : m ≠ 0) (w : World) (b o : Nat) :
    (Instr.fieldAt s (.pointer (some ⟨b, o, none⟩)) f).run P w = .ok (.pointer (some ⟨b, o + fd.offset, none⟩)) w := by
  simp only [Instr.fieldAt, Sem.run_bind, run_underlying hu, Result.andThen_ok, hf, Instr.sureAddr, Sem.run_pure, fieldPlace, hz, if_neg hm, Addr.add_lit]

instance : TI Tryd.prog 1 false 1 := ⟨Tryd.isAgg1, Tryd.sizeOf1⟩
instance : TI Tryd.prog 2 false 1 := ⟨Tryd.isAgg2, Tryd.sizeOf2⟩
instance : ZeroT Tryd.prog 2 [.int .i64 0] := ⟨fun w => ⟨_, Tryd.zeroValue2 w, rfl⟩⟩
instance : IntT Tryd.prog 2 .i64 := ⟨Tryd.underlying2⟩
instance : TI Tryd.prog 3 false 1 := ⟨Tryd.isAgg3, Tryd.sizeOf3⟩
instance : ZeroT Tryd.prog 3 [.int .i64 0] := ⟨fun w => ⟨_, Tryd.zeroValue3 w, rfl⟩⟩
instance : IntT Tryd.prog 3 .i64 := ⟨Tryd.underlying3⟩
instance : TI Tryd.prog 4 false 1 := ⟨Tryd.isAgg4, Tryd.sizeOf4⟩
instance : ZeroT Tryd.prog 4 [.bool false] := ⟨fun w => ⟨_, Tryd.zeroValue4 w, rfl⟩⟩
instance : BoolT Tryd.prog 4 := ⟨Tryd.underlying4⟩
instance : TI Tryd.prog 5 false 1 := ⟨Tryd.isAgg5, Tryd.sizeOf5⟩
instance : ZeroT Tryd.prog 5 [.int .u8 0] := ⟨fun w => ⟨_, Tryd.zeroValue5 w, rfl⟩⟩
instance : IntT Tryd.prog 5 .u8 := ⟨Tryd.underlying5⟩
instance : TI Tryd.prog 6 false 1 := ⟨Tryd.isAgg6, Tryd.sizeOf6⟩
instance : ZeroT Tryd.prog 6 [.int .u8 0] := ⟨fun w => ⟨_, Tryd.zeroValue6 w, rfl⟩⟩
instance : IntT Tryd.prog 6 .u8 := ⟨Tryd.underlying6⟩
instance : TI Tryd.prog 7 true 4 := ⟨Tryd.isAgg7, Tryd.sizeOf7⟩
instance : ZeroT Tryd.prog 7 [.int .i64 0, .int .i64 0, .bool false, .int .u8 0] := ⟨fun w => ⟨_, Tryd.zeroValue7 w, rfl⟩⟩
instance : FdT Tryd.prog 7 0 0 := ⟨fun w b o => by have h := run_fieldAt_of (f := 0) Tryd.underlying7 rfl Tryd.sizeOf2 (by decide) w b o; exact h⟩
instance : FlT Tryd.prog 7 0 0 false 1 := ⟨fun w cs r v ht hv => by have h := @run_field_of _ _ _ 0 _ _ _ Tryd.underlying7 rfl Tryd.isAgg2 Tryd.sizeOf2 w cs r v; exact h ht hv⟩
instance : FdT Tryd.prog 7 1 1 := ⟨fun w b o => by have h := run_fieldAt_of (f := 1) Tryd.underlying7 rfl Tryd.sizeOf3 (by decide) w b o; exact h⟩
instance : FlT Tryd.prog 7 1 1 false 1 := ⟨fun w cs r v ht hv => by have h := @run_field_of _ _ _ 1 _ _ _ Tryd.underlying7 rfl Tryd.isAgg3 Tryd.sizeOf3 w cs r v; exact h ht hv⟩
instance : FdT Tryd.prog 7 2 2 := ⟨fun w b o => by have h := run_fieldAt_of (f := 2) Tryd.underlying7 rfl Tryd.sizeOf4 (by decide) w b o; exact h⟩
instance : FlT Tryd.prog 7 2 2 false 1 := ⟨fun w cs r v ht hv => by have h := @run_field_of _ _ _ 2 _ _ _ Tryd.underlying7 rfl Tryd.isAgg4 Tryd.sizeOf4 w cs r v; exact h ht hv⟩
instance : FdT Tryd.prog 7 3 3 := ⟨fun w b o => by have h := run_fieldAt_of (f := 3) Tryd.underlying7 rfl Tryd.sizeOf6 (by decide) w b o; exact h⟩
instance : FlT Tryd.prog 7 3 3 false 1 := ⟨fun w cs r v ht hv => by have h := @run_field_of _ _ _ 3 _ _ _ Tryd.underlying7 rfl Tryd.isAgg6 Tryd.sizeOf6 w cs r v; exact h ht hv⟩
instance : TI Tryd.prog 8 true 4 := ⟨Tryd.isAgg8, Tryd.sizeOf8⟩
instance : ZeroT Tryd.prog 8 [.int .i64 0, .int .i64 0, .bool false, .int .u8 0] := ⟨fun w => ⟨_, Tryd.zeroValue8 w, rfl⟩⟩
instance : FdT Tryd.prog 8 0 0 := ⟨fun w b o => by have h := run_fieldAt_of (f := 0) Tryd.underlying8 rfl Tryd.sizeOf2 (by decide) w b o; exact h⟩
instance : FlT Tryd.prog 8 0 0 false 1 := ⟨fun w cs r v ht hv => by have h := @run_field_of _ _ _ 0 _ _ _ Tryd.underlying8 rfl Tryd.isAgg2 Tryd.sizeOf2 w cs r v; exact h ht hv⟩
instance : FdT Tryd.prog 8 1 1 := ⟨fun w b o => by have h := run_fieldAt_of (f := 1) Tryd.underlying8 rfl Tryd.sizeOf3 (by decide) w b o; exact h⟩
instance : FlT Tryd.prog 8 1 1 false 1 := ⟨fun w cs r v ht hv => by have h := @run_field_of _ _ _ 1 _ _ _ Tryd.underlying8 rfl Tryd.isAgg3 Tryd.sizeOf3 w cs r v; exact h ht hv⟩
instance : FdT Tryd.prog 8 2 2 := ⟨fun w b o => by have h := run_fieldAt_of (f := 2) Tryd.underlying8 rfl Tryd.sizeOf4 (by decide) w b o; exact h⟩
instance : FlT Tryd.prog 8 2 2 false 1 := ⟨fun w cs r v ht hv => by have h := @run_field_of _ _ _ 2 _ _ _ Tryd.underlying8 rfl Tryd.isAgg4 Tryd.sizeOf4 w cs r v; exact h ht hv⟩
instance : FdT Tryd.prog 8 3 3 := ⟨fun w b o => by have h := run_fieldAt_of (f := 3) Tryd.underlying8 rfl Tryd.sizeOf6 (by decide) w b o; exact h⟩
instance : FlT Tryd.prog 8 3 3 false 1 := ⟨fun w cs r v ht hv => by have h := @run_field_of _ _ _ 3 _ _ _ Tryd.underlying8 rfl Tryd.isAgg6 Tryd.sizeOf6 w cs r v; exact h ht hv⟩
instance : TI Tryd.prog 9 false 1 := ⟨Tryd.isAgg9, Tryd.sizeOf9⟩
instance : ZeroT Tryd.prog 9 [.string ⟨#[]⟩] := ⟨fun w => ⟨_, Tryd.zeroValue9 w, rfl⟩⟩
instance : StrT Tryd.prog 9 := ⟨Tryd.underlying9⟩
instance : TI Tryd.prog 10 false 1 := ⟨Tryd.isAgg10, Tryd.sizeOf10⟩
instance : ZeroT Tryd.prog 10 [.string ⟨#[]⟩] := ⟨fun w => ⟨_, Tryd.zeroValue10 w, rfl⟩⟩
instance : StrT Tryd.prog 10 := ⟨Tryd.underlying10⟩
instance : TI Tryd.prog 11 false 1 := ⟨Tryd.isAgg11, Tryd.sizeOf11⟩
instance : ZeroT Tryd.prog 11 [.string ⟨#[]⟩] := ⟨fun w => ⟨_, Tryd.zeroValue11 w, rfl⟩⟩
instance : StrT Tryd.prog 11 := ⟨Tryd.underlying11⟩
instance : TI Tryd.prog 12 false 1 := ⟨Tryd.isAgg12, Tryd.sizeOf12⟩
instance : ZeroT Tryd.prog 12 [.int .u64 0] := ⟨fun w => ⟨_, Tryd.zeroValue12 w, rfl⟩⟩
instance : IntT Tryd.prog 12 .u64 := ⟨Tryd.underlying12⟩
instance : TI Tryd.prog 13 true 2 := ⟨Tryd.isAgg13, Tryd.sizeOf13⟩
instance : ZeroT Tryd.prog 13 [.string ⟨#[]⟩, .int .u64 0] := ⟨fun w => ⟨_, Tryd.zeroValue13 w, rfl⟩⟩
instance : FdT Tryd.prog 13 0 0 := ⟨fun w b o => by have h := run_fieldAt_of (f := 0) Tryd.underlying13 rfl Tryd.sizeOf9 (by decide) w b o; exact h⟩
instance : FlT Tryd.prog 13 0 0 false 1 := ⟨fun w cs r v ht hv => by have h := @run_field_of _ _ _ 0 _ _ _ Tryd.underlying13 rfl Tryd.isAgg9 Tryd.sizeOf9 w cs r v; exact h ht hv⟩
instance : FdT Tryd.prog 13 1 1 := ⟨fun w b o => by have h := run_fieldAt_of (f := 1) Tryd.underlying13 rfl Tryd.sizeOf12 (by decide) w b o; exact h⟩
instance : FlT Tryd.prog 13 1 1 false 1 := ⟨fun w cs r v ht hv => by have h := @run_field_of _ _ _ 1 _ _ _ Tryd.underlying13 rfl Tryd.isAgg12 Tryd.sizeOf12 w cs r v; exact h ht hv⟩
instance : TI Tryd.prog 14 true 2 := ⟨Tryd.isAgg14, Tryd.sizeOf14⟩
instance : ZeroT Tryd.prog 14 [.string ⟨#[]⟩, .int .u64 0] := ⟨fun w => ⟨_, Tryd.zeroValue14 w, rfl⟩⟩
instance : FdT Tryd.prog 14 0 0 := ⟨fun w b o => by have h := run_fieldAt_of (f := 0) Tryd.underlying14 rfl Tryd.sizeOf9 (by decide) w b o; exact h⟩
instance : FlT Tryd.prog 14 0 0 false 1 := ⟨fun w cs r v ht hv => by have h := @run_field_of _ _ _ 0 _ _ _ Tryd.underlying14 rfl Tryd.isAgg9 Tryd.sizeOf9 w cs r v; exact h ht hv⟩
instance : FdT Tryd.prog 14 1 1 := ⟨fun w b o => by have h := run_fieldAt_of (f := 1) Tryd.underlying14 rfl Tryd.sizeOf12 (by decide) w b o; exact h⟩
instance : FlT Tryd.prog 14 1 1 false 1 := ⟨fun w cs r v ht hv => by have h := @run_field_of _ _ _ 1 _ _ _ Tryd.underlying14 rfl Tryd.isAgg12 Tryd.sizeOf12 w cs r v; exact h ht hv⟩
instance : TI Tryd.prog 15 false 1 := ⟨Tryd.isAgg15, Tryd.sizeOf15⟩
instance : TI Tryd.prog 16 false 1 := ⟨Tryd.isAgg16, Tryd.sizeOf16⟩
instance : TI Tryd.prog 17 false 1 := ⟨Tryd.isAgg17, Tryd.sizeOf17⟩
instance : TI Tryd.prog 18 true 1 := ⟨Tryd.isAgg18, Tryd.sizeOf18⟩
instance : FdT Tryd.prog 18 0 0 := ⟨fun w b o => by have h := run_fieldAt_of (f := 0) Tryd.underlying18 rfl Tryd.sizeOf17 (by decide) w b o; exact h⟩
instance : FlT Tryd.prog 18 0 0 false 1 := ⟨fun w cs r v ht hv => by have h := @run_field_of _ _ _ 0 _ _ _ Tryd.underlying18 rfl Tryd.isAgg17 Tryd.sizeOf17 w cs r v; exact h ht hv⟩
instance : TI Tryd.prog 19 true 1 := ⟨Tryd.isAgg19, Tryd.sizeOf19⟩
instance : FdT Tryd.prog 19 0 0 := ⟨fun w b o => by have h := run_fieldAt_of (f := 0) Tryd.underlying19 rfl Tryd.sizeOf17 (by decide) w b o; exact h⟩
instance : FlT Tryd.prog 19 0 0 false 1 := ⟨fun w cs r v ht hv => by have h := @run_field_of _ _ _ 0 _ _ _ Tryd.underlying19 rfl Tryd.isAgg17 Tryd.sizeOf17 w cs r v; exact h ht hv⟩
instance : TI Tryd.prog 20 false 1 := ⟨Tryd.isAgg20, Tryd.sizeOf20⟩
instance : TI Tryd.prog 21 false 1 := ⟨Tryd.isAgg21, Tryd.sizeOf21⟩
instance : ZeroT Tryd.prog 21 [.int .i32 0] := ⟨fun w => ⟨_, Tryd.zeroValue21 w, rfl⟩⟩
instance : IntT Tryd.prog 21 .i32 := ⟨Tryd.underlying21⟩
instance : TI Tryd.prog 22 false 1 := ⟨Tryd.isAgg22, Tryd.sizeOf22⟩
instance : ZeroT Tryd.prog 22 [.slice none 0 0] := ⟨fun w => ⟨_, Tryd.zeroValue22 w, rfl⟩⟩
instance : SlT Tryd.prog 22 70 3 := ⟨Tryd.underlying22, Tryd.sizeOf70⟩
instance : ApT Tryd.prog 22 70 3 40 (.agg #[.int .i64 0, .int .i64 0, .slice none 0 0]) := ⟨Tryd.underlying22, by kernel_rfl, rfl, rfl, by decide⟩
instance : TI Tryd.prog 23 true 3 := ⟨Tryd.isAgg23, Tryd.sizeOf23⟩
instance : ZeroT Tryd.prog 23 [.int .i64 0, .int .i64 0, .slice none 0 0] := ⟨fun w => ⟨_, Tryd.zeroValue23 w, rfl⟩⟩
instance : FdT Tryd.prog 23 0 0 := ⟨fun w b o => by have h := run_fieldAt_of (f := 0) Tryd.underlying23 rfl Tryd.sizeOf3 (by decide) w b o; exact h⟩
instance : FlT Tryd.prog 23 0 0 false 1 := ⟨fun w cs r v ht hv => by have h := @run_field_of _ _ _ 0 _ _ _ Tryd.underlying23 rfl Tryd.isAgg3 Tryd.sizeOf3 w cs r v; exact h ht hv⟩
instance : FdT Tryd.prog 23 1 1 := ⟨fun w b o => by have h := run_fieldAt_of (f := 1) Tryd.underlying23 rfl Tryd.sizeOf3 (by decide) w b o; exact h⟩
instance : FlT Tryd.prog 23 1 1 false 1 := ⟨fun w cs r v ht hv => by have h := @run_field_of _ _ _ 1 _ _ _ Tryd.underlying23 rfl Tryd.isAgg3 Tryd.sizeOf3 w cs r v; exact h ht hv⟩
instance : FdT Tryd.prog 23 2 2 := ⟨fun w b o => by have h := run_fieldAt_of (f := 2) Tryd.underlying23 rfl Tryd.sizeOf22 (by decide) w b o; exact h⟩
instance : FlT Tryd.prog 23 2 2 false 1 := ⟨fun w cs r v ht hv => by have h := @run_field_of _ _ _ 2 _ _ _ Tryd.underlying23 rfl Tryd.isAgg22 Tryd.sizeOf22 w cs r v; exact h ht hv⟩
instance : TI Tryd.prog 24 true 3 := ⟨Tryd.isAgg24, Tryd.sizeOf24⟩
instance : ZeroT Tryd.prog 24 [.int .i64 0, .int .i64 0, .slice none 0 0] := ⟨fun w => ⟨_, Tryd.zeroValue24 w, rfl⟩⟩
instance : FdT Tryd.prog 24 0 0 := ⟨fun w b o => by have h := run_fieldAt_of (f := 0) Tryd.underlying24 rfl Tryd.sizeOf3 (by decide) w b o; exact h⟩
instance : FlT Tryd.prog 24 0 0 false 1 := ⟨fun w cs r v ht hv => by have h := @run_field_of _ _ _ 0 _ _ _ Tryd.underlying24 rfl Tryd.isAgg3 Tryd.sizeOf3 w cs r v; exact h ht hv⟩
instance : FdT Tryd.prog 24 1 1 := ⟨fun w b o => by have h := run_fieldAt_of (f := 1) Tryd.underlying24 rfl Tryd.sizeOf3 (by decide) w b o; exact h⟩
instance : FlT Tryd.prog 24 1 1 false 1 := ⟨fun w cs r v ht hv => by have h := @run_field_of _ _ _ 1 _ _ _ Tryd.underlying24 rfl Tryd.isAgg3 Tryd.sizeOf3 w cs r v; exact h ht hv⟩
instance : FdT Tryd.prog 24 2 2 := ⟨fun w b o => by have h := run_fieldAt_of (f := 2) Tryd.underlying24 rfl Tryd.sizeOf22 (by decide) w b o; exact h⟩
instance : FlT Tryd.prog 24 2 2 false 1 := ⟨fun w cs r v ht hv => by have h := @run_field_of _ _ _ 2 _ _ _ Tryd.underlying24 rfl Tryd.isAgg22 Tryd.sizeOf22 w cs r v; exact h ht hv⟩
instance : TI Tryd.prog 25 false 1 := ⟨Tryd.isAgg25, Tryd.sizeOf25⟩
instance : TI Tryd.prog 26 false 1 := ⟨Tryd.isAgg26, Tryd.sizeOf26⟩
instance : TI Tryd.prog 27 false 1 := ⟨Tryd.isAgg27, Tryd.sizeOf27⟩
instance : ZeroT Tryd.prog 27 [.slice none 0 0] := ⟨fun w => ⟨_, Tryd.zeroValue27 w, rfl⟩⟩
instance : SlT Tryd.prog 27 72 3 := ⟨Tryd.underlying27, Tryd.sizeOf72⟩
instance : ApT Tryd.prog 27 72 3 40 (.agg #[.int .i64 0, .int .i64 0, .slice none 0 0]) := ⟨Tryd.underlying27, by kernel_rfl, rfl, rfl, by decide⟩
instance : TI Tryd.prog 28 true 3 := ⟨Tryd.isAgg28, Tryd.sizeOf28⟩
instance : ZeroT Tryd.prog 28 [.int .i64 0, .int .i64 0, .slice none 0 0] := ⟨fun w => ⟨_, Tryd.zeroValue28 w, rfl⟩⟩
instance : FdT Tryd.prog 28 0 0 := ⟨fun w b o => by have h := run_fieldAt_of (f := 0) Tryd.underlying28 rfl Tryd.sizeOf3 (by decide) w b o; exact h⟩
instance : FlT Tryd.prog 28 0 0 false 1 := ⟨fun w cs r v ht hv => by have h := @run_field_of _ _ _ 0 _ _ _ Tryd.underlying28 rfl Tryd.isAgg3 Tryd.sizeOf3 w cs r v; exact h ht hv⟩
instance : FdT Tryd.prog 28 1 1 := ⟨fun w b o => by have h := run_fieldAt_of (f := 1) Tryd.underlying28 rfl Tryd.sizeOf3 (by decide) w b o; exact h⟩
instance : FlT Tryd.prog 28 1 1 false 1 := ⟨fun w cs r v ht hv => by have h := @run_field_of _ _ _ 1 _ _ _ Tryd.underlying28 rfl Tryd.isAgg3 Tryd.sizeOf3 w cs r v; exact h ht hv⟩
instance : FdT Tryd.prog 28 2 2 := ⟨fun w b o => by have h := run_fieldAt_of (f := 2) Tryd.underlying28 rfl Tryd.sizeOf27 (by decide) w b o; exact h⟩
instance : FlT Tryd.prog 28 2 2 false 1 := ⟨fun w cs r v ht hv => by have h := @run_field_of _ _ _ 2 _ _ _ Tryd.underlying28 rfl Tryd.isAgg27 Tryd.sizeOf27 w cs r v; exact h ht hv⟩
instance : TI Tryd.prog 29 true 3 := ⟨Tryd.isAgg29, Tryd.sizeOf29⟩
instance : ZeroT Tryd.prog 29 [.int .i64 0, .int .i64 0, .slice none 0 0] := ⟨fun w => ⟨_, Tryd.zeroValue29 w, rfl⟩⟩
instance : FdT Tryd.prog 29 0 0 := ⟨fun w b o => by have h := run_fieldAt_of (f := 0) Tryd.underlying29 rfl Tryd.sizeOf3 (by decide) w b o; exact h⟩
instance : FlT Tryd.prog 29 0 0 false 1 := ⟨fun w cs r v ht hv => by have h := @run_field_of _ _ _ 0 _ _ _ Tryd.underlying29 rfl Tryd.isAgg3 Tryd.sizeOf3 w cs r v; exact h ht hv⟩
instance : FdT Tryd.prog 29 1 1 := ⟨fun w b o => by have h := run_fieldAt_of (f := 1) Tryd.underlying29 rfl Tryd.sizeOf3 (by decide) w b o; exact h⟩
instance : FlT Tryd.prog 29 1 1 false 1 := ⟨fun w cs r v ht hv => by have h := @run_field_of _ _ _ 1 _ _ _ Tryd.underlying29 rfl Tryd.isAgg3 Tryd.sizeOf3 w cs r v; exact h ht hv⟩
instance : FdT Tryd.prog 29 2 2 := ⟨fun w b o => by have h := run_fieldAt_of (f := 2) Tryd.underlying29 rfl Tryd.sizeOf27 (by decide) w b o; exact h⟩
instance : FlT Tryd.prog 29 2 2 false 1 := ⟨fun w cs r v ht hv => by have h := @run_field_of _ _ _ 2 _ _ _ Tryd.underlying29 rfl Tryd.isAgg27 Tryd.sizeOf27 w cs r v; exact h ht hv⟩
instance : TI Tryd.prog 30 false 1 := ⟨Tryd.isAgg30, Tryd.sizeOf30⟩
instance : TI Tryd.prog 31 false 1 := ⟨Tryd.isAgg31, Tryd.sizeOf31⟩
instance : TI Tryd.prog 32 false 1 := ⟨Tryd.isAgg32, Tryd.sizeOf32⟩
instance : TI Tryd.prog 33 true 4 := ⟨Tryd.isAgg33, Tryd.sizeOf33⟩
instance : ZeroT Tryd.prog 33 [.int .i64 0, .int .i64 0, .int .i64 0, .slice none 0 0] := ⟨fun w => ⟨_, Tryd.zeroValue33 w, rfl⟩⟩
instance : FdT Tryd.prog 33 0 0 := ⟨fun w b o => by have h := run_fieldAt_of (f := 0) Tryd.underlying33 rfl Tryd.sizeOf3 (by decide) w b o; exact h⟩
instance : FlT Tryd.prog 33 0 0 false 1 := ⟨fun w cs r v ht hv => by have h := @run_field_of _ _ _ 0 _ _ _ Tryd.underlying33 rfl Tryd.isAgg3 Tryd.sizeOf3 w cs r v; exact h ht hv⟩
instance : FdT Tryd.prog 33 1 1 := ⟨fun w b o => by have h := run_fieldAt_of (f := 1) Tryd.underlying33 rfl Tryd.sizeOf3 (by decide) w b o; exact h⟩
instance : FlT Tryd.prog 33 1 1 false 1 := ⟨fun w cs r v ht hv => by have h := @run_field_of _ _ _ 1 _ _ _ Tryd.underlying33 rfl Tryd.isAgg3 Tryd.sizeOf3 w cs r v; exact h ht hv⟩
instance : FdT Tryd.prog 33 2 2 := ⟨fun w b o => by have h := run_fieldAt_of (f := 2) Tryd.underlying33 rfl Tryd.sizeOf3 (by decide) w b o; exact h⟩
instance : FlT Tryd.prog 33 2 2 false 1 := ⟨fun w cs r v ht hv => by have h := @run_field_of _ _ _ 2 _ _ _ Tryd.underlying33 rfl Tryd.isAgg3 Tryd.sizeOf3 w cs r v; exact h ht hv⟩
instance : FdT Tryd.prog 33 3 3 := ⟨fun w b o => by have h := run_fieldAt_of (f := 3) Tryd.underlying33 rfl Tryd.sizeOf22 (by decide) w b o; exact h⟩
instance : FlT Tryd.prog 33 3 3 false 1 := ⟨fun w cs r v ht hv => by have h := @run_field_of _ _ _ 3 _ _ _ Tryd.underlying33 rfl Tryd.isAgg22 Tryd.sizeOf22 w cs r v; exact h ht hv⟩
instance : TI Tryd.prog 34 true 4 := ⟨Tryd.isAgg34, Tryd.sizeOf34⟩
instance : ZeroT Tryd.prog 34 [.int .i64 0, .int .i64 0, .int .i64 0, .slice none 0 0] := ⟨fun w => ⟨_, Tryd.zeroValue34 w, rfl⟩⟩
instance : FdT Tryd.prog 34 0 0 := ⟨fun w b o => by have h := run_fieldAt_of (f := 0) Tryd.underlying34 rfl Tryd.sizeOf3 (by decide) w b o; exact h⟩
instance : FlT Tryd.prog 34 0 0 false 1 := ⟨fun w cs r v ht hv => by have h := @run_field_of _ _ _ 0 _ _ _ Tryd.underlying34 rfl Tryd.isAgg3 Tryd.sizeOf3 w cs r v; exact h ht hv⟩
instance : FdT Tryd.prog 34 1 1 := ⟨fun w b o => by have h := run_fieldAt_of (f := 1) Tryd.underlying34 rfl Tryd.sizeOf3 (by decide) w b o; exact h⟩
instance : FlT Tryd.prog 34 1 1 false 1 := ⟨fun w cs r v ht hv => by have h := @run_field_of _ _ _ 1 _ _ _ Tryd.underlying34 rfl Tryd.isAgg3 Tryd.sizeOf3 w cs r v; exact h ht hv⟩
instance : FdT Tryd.prog 34 2 2 := ⟨fun w b o => by have h := run_fieldAt_of (f := 2) Tryd.underlying34 rfl Tryd.sizeOf3 (by decide) w b o; exact h⟩
instance : FlT Tryd.prog 34 2 2 false 1 := ⟨fun w cs r v ht hv => by have h := @run_field_of _ _ _ 2 _ _ _ Tryd.underlying34 rfl Tryd.isAgg3 Tryd.sizeOf3 w cs r v; exact h ht hv⟩
instance : FdT Tryd.prog 34 3 3 := ⟨fun w b o => by have h := run_fieldAt_of (f := 3) Tryd.underlying34 rfl Tryd.sizeOf22 (by decide) w b o; exact h⟩
instance : FlT Tryd.prog 34 3 3 false 1 := ⟨fun w cs r v ht hv => by have h := @run_field_of _ _ _ 3 _ _ _ Tryd.underlying34 rfl Tryd.isAgg22 Tryd.sizeOf22 w cs r v; exact h ht hv⟩
instance : TI Tryd.prog 35 false 1 := ⟨Tryd.isAgg35, Tryd.sizeOf35⟩
instance : TI Tryd.prog 36 false 1 := ⟨Tryd.isAgg36, Tryd.sizeOf36⟩
instance : TI Tryd.prog 37 true 4 := ⟨Tryd.isAgg37, Tryd.sizeOf37⟩
instance : ZeroT Tryd.prog 37 [.int .i64 0, .int .i64 0, .int .i64 0, .slice none 0 0] := ⟨fun w => ⟨_, Tryd.zeroValue37 w, rfl⟩⟩
instance : FdT Tryd.prog 37 0 0 := ⟨fun w b o => by have h := run_fieldAt_of (f := 0) Tryd.underlying37 rfl Tryd.sizeOf3 (by decide) w b o; exact h⟩
instance : FlT Tryd.prog 37 0 0 false 1 := ⟨fun w cs r v ht hv => by have h := @run_field_of _ _ _ 0 _ _ _ Tryd.underlying37 rfl Tryd.isAgg3 Tryd.sizeOf3 w cs r v; exact h ht hv⟩
instance : FdT Tryd.prog 37 1 1 := ⟨fun w b o => by have h := run_fieldAt_of (f := 1) Tryd.underlying37 rfl Tryd.sizeOf3 (by decide) w b o; exact h⟩
instance : FlT Tryd.prog 37 1 1 false 1 := ⟨fun w cs r v ht hv => by have h := @run_field_of _ _ _ 1 _ _ _ Tryd.underlying37 rfl Tryd.isAgg3 Tryd.sizeOf3 w cs r v; exact h ht hv⟩
instance : FdT Tryd.prog 37 2 2 := ⟨fun w b o => by have h := run_fieldAt_of (f := 2) Tryd.underlying37 rfl Tryd.sizeOf3 (by decide) w b o; exact h⟩
instance : FlT Tryd.prog 37 2 2 false 1 := ⟨fun w cs r v ht hv => by have h := @run_field_of _ _ _ 2 _ _ _ Tryd.underlying37 rfl Tryd.isAgg3 Tryd.sizeOf3 w cs r v; exact h ht hv⟩
instance : FdT Tryd.prog 37 3 3 := ⟨fun w b o => by have h := run_fieldAt_of (f := 3) Tryd.underlying37 rfl Tryd.sizeOf27 (by decide) w b o; exact h⟩
instance : FlT Tryd.prog 37 3 3 false 1 := ⟨fun w cs r v ht hv => by have h := @run_field_of _ _ _ 3 _ _ _ Tryd.underlying37 rfl Tryd.isAgg27 Tryd.sizeOf27 w cs r v; exact h ht hv⟩
instance : TI Tryd.prog 38 true 4 := ⟨Tryd.isAgg38, Tryd.sizeOf38⟩
instance : ZeroT Tryd.prog 38 [.int .i64 0, .int .i64 0, .int .i64 0, .slice none 0 0] := ⟨fun w => ⟨_, Tryd.zeroValue38 w, rfl⟩⟩
instance : FdT Tryd.prog 38 0 0 := ⟨fun w b o => by have h := run_fieldAt_of (f := 0) Tryd.underlying38 rfl Tryd.sizeOf3 (by decide) w b o; exact h⟩
instance : FlT Tryd.prog 38 0 0 false 1 := ⟨fun w cs r v ht hv => by have h := @run_field_of _ _ _ 0 _ _ _ Tryd.underlying38 rfl Tryd.isAgg3 Tryd.sizeOf3 w cs r v; exact h ht hv⟩
instance : FdT Tryd.prog 38 1 1 := ⟨fun w b o => by have h := run_fieldAt_of (f := 1) Tryd.underlying38 rfl Tryd.sizeOf3 (by decide) w b o; exact h⟩
instance : FlT Tryd.prog 38 1 1 false 1 := ⟨fun w cs r v ht hv => by have h := @run_field_of _ _ _ 1 _ _ _ Tryd.underlying38 rfl Tryd.isAgg3 Tryd.sizeOf3 w cs r v; exact h ht hv⟩
instance : FdT Tryd.prog 38 2 2 := ⟨fun w b o => by have h := run_fieldAt_of (f := 2) Tryd.underlying38 rfl Tryd.sizeOf3 (by decide) w b o; exact h⟩
instance : FlT Tryd.prog 38 2 2 false 1 := ⟨fun w cs r v ht hv => by have h := @run_field_of _ _ _ 2 _ _ _ Tryd.underlying38 rfl Tryd.isAgg3 Tryd.sizeOf3 w cs r v; exact h ht hv⟩
instance : FdT Tryd.prog 38 3 3 := ⟨fun w b o => by have h := run_fieldAt_of (f := 3) Tryd.underlying38 rfl Tryd.sizeOf27 (by decide) w b o; exact h⟩
instance : FlT Tryd.prog 38 3 3 false 1 := ⟨fun w cs r v ht hv => by have h := @run_field_of _ _ _ 3 _ _ _ Tryd.underlying38 rfl Tryd.isAgg27 Tryd.sizeOf27 w cs r v; exact h ht hv⟩
instance : TI Tryd.prog 39 false 1 := ⟨Tryd.isAgg39, Tryd.sizeOf39⟩
instance : TI Tryd.prog 40 false 1 := ⟨Tryd.isAgg40, Tryd.sizeOf40⟩
instance : TI Tryd.prog 41 false 1 := ⟨Tryd.isAgg41, Tryd.sizeOf41⟩
instance : TI Tryd.prog 42 false 1 := ⟨Tryd.isAgg42, Tryd.sizeOf42⟩
instance : ZeroT Tryd.prog 42 [.slice none 0 0] := ⟨fun w => ⟨_, Tryd.zeroValue42 w, rfl⟩⟩
instance : SlT Tryd.prog 42 3 1 := ⟨Tryd.underlying42, Tryd.sizeOf3⟩
instance : ApT Tryd.prog 42 3 1 8 (.int .i64 0) := ⟨Tryd.underlying42, by kernel_rfl, rfl, rfl, by decide⟩
instance : TI Tryd.prog 43 false 1 := ⟨Tryd.isAgg43, Tryd.sizeOf43⟩
instance : ZeroT Tryd.prog 43 [.slice none 0 0] := ⟨fun w => ⟨_, Tryd.zeroValue43 w, rfl⟩⟩
instance : SlT Tryd.prog 43 24 3 := ⟨Tryd.underlying43, Tryd.sizeOf24⟩
instance : ApT Tryd.prog 43 24 3 40 (.agg #[.int .i64 0, .int .i64 0, .slice none 0 0]) := ⟨Tryd.underlying43, by kernel_rfl, rfl, rfl, by decide⟩
instance : TI Tryd.prog 44 true 4 := ⟨Tryd.isAgg44, Tryd.sizeOf44⟩
instance : ZeroT Tryd.prog 44 [.int .i64 0, .int .i64 0, .slice none 0 0, .slice none 0 0] := ⟨fun w => ⟨_, Tryd.zeroValue44 w, rfl⟩⟩
instance : FdT Tryd.prog 44 0 0 := ⟨fun w b o => by have h := run_fieldAt_of (f := 0) Tryd.underlying44 rfl Tryd.sizeOf3 (by decide) w b o; exact h⟩
instance : FlT Tryd.prog 44 0 0 false 1 := ⟨fun w cs r v ht hv => by have h := @run_field_of _ _ _ 0 _ _ _ Tryd.underlying44 rfl Tryd.isAgg3 Tryd.sizeOf3 w cs r v; exact h ht hv⟩
instance : FdT Tryd.prog 44 1 1 := ⟨fun w b o => by have h := run_fieldAt_of (f := 1) Tryd.underlying44 rfl Tryd.sizeOf3 (by decide) w b o; exact h⟩
instance : FlT Tryd.prog 44 1 1 false 1 := ⟨fun w cs r v ht hv => by have h := @run_field_of _ _ _ 1 _ _ _ Tryd.underlying44 rfl Tryd.isAgg3 Tryd.sizeOf3 w cs r v; exact h ht hv⟩
instance : FdT Tryd.prog 44 2 2 := ⟨fun w b o => by have h := run_fieldAt_of (f := 2) Tryd.underlying44 rfl Tryd.sizeOf42 (by decide) w b o; exact h⟩
instance : FlT Tryd.prog 44 2 2 false 1 := ⟨fun w cs r v ht hv => by have h := @run_field_of _ _ _ 2 _ _ _ Tryd.underlying44 rfl Tryd.isAgg42 Tryd.sizeOf42 w cs r v; exact h ht hv⟩
instance : FdT Tryd.prog 44 3 3 := ⟨fun w b o => by have h := run_fieldAt_of (f := 3) Tryd.underlying44 rfl Tryd.sizeOf43 (by decide) w b o; exact h⟩
instance : FlT Tryd.prog 44 3 3 false 1 := ⟨fun w cs r v ht hv => by have h := @run_field_of _ _ _ 3 _ _ _ Tryd.underlying44 rfl Tryd.isAgg43 Tryd.sizeOf43 w cs r v; exact h ht hv⟩
instance : TI Tryd.prog 45 true 4 := ⟨Tryd.isAgg45, Tryd.sizeOf45⟩
instance : ZeroT Tryd.prog 45 [.int .i64 0, .int .i64 0, .slice none 0 0, .slice none 0 0] := ⟨fun w => ⟨_, Tryd.zeroValue45 w, rfl⟩⟩
instance : FdT Tryd.prog 45 0 0 := ⟨fun w b o => by have h := run_fieldAt_of (f := 0) Tryd.underlying45 rfl Tryd.sizeOf3 (by decide) w b o; exact h⟩
instance : FlT Tryd.prog 45 0 0 false 1 := ⟨fun w cs r v ht hv => by have h := @run_field_of _ _ _ 0 _ _ _ Tryd.underlying45 rfl Tryd.isAgg3 Tryd.sizeOf3 w cs r v; exact h ht hv⟩
instance : FdT Tryd.prog 45 1 1 := ⟨fun w b o => by have h := run_fieldAt_of (f := 1) Tryd.underlying45 rfl Tryd.sizeOf3 (by decide) w b o; exact h⟩
instance : FlT Tryd.prog 45 1 1 false 1 := ⟨fun w cs r v ht hv => by have h := @run_field_of _ _ _ 1 _ _ _ Tryd.underlying45 rfl Tryd.isAgg3 Tryd.sizeOf3 w cs r v; exact h ht hv⟩
instance : FdT Tryd.prog 45 2 2 := ⟨fun w b o => by have h := run_fieldAt_of (f := 2) Tryd.underlying45 rfl Tryd.sizeOf42 (by decide) w b o; exact h⟩
instance : FlT Tryd.prog 45 2 2 false 1 := ⟨fun w cs r v ht hv => by have h := @run_field_of _ _ _ 2 _ _ _ Tryd.underlying45 rfl Tryd.isAgg42 Tryd.sizeOf42 w cs r v; exact h ht hv⟩
instance : FdT Tryd.prog 45 3 3 := ⟨fun w b o => by have h := run_fieldAt_of (f := 3) Tryd.underlying45 rfl Tryd.sizeOf43 (by decide) w b o; exact h⟩
instance : FlT Tryd.prog 45 3 3 false 1 := ⟨fun w cs r v ht hv => by have h := @run_field_of _ _ _ 3 _ _ _ Tryd.underlying45 rfl Tryd.isAgg43 Tryd.sizeOf43 w cs r v; exact h ht hv⟩
instance : TI Tryd.prog 46 false 1 := ⟨Tryd.isAgg46, Tryd.sizeOf46⟩
instance : TI Tryd.prog 47 false 1 := ⟨Tryd.isAgg47, Tryd.sizeOf47⟩
instance : TI Tryd.prog 48 false 1 := ⟨Tryd.isAgg48, Tryd.sizeOf48⟩
instance : ZeroT Tryd.prog 48 [.slice none 0 0] := ⟨fun w => ⟨_, Tryd.zeroValue48 w, rfl⟩⟩
instance : SlT Tryd.prog 48 29 3 := ⟨Tryd.underlying48, Tryd.sizeOf29⟩
instance : ApT Tryd.prog 48 29 3 40 (.agg #[.int .i64 0, .int .i64 0, .slice none 0 0]) := ⟨Tryd.underlying48, by kernel_rfl, rfl, rfl, by decide⟩
instance : TI Tryd.prog 49 true 4 := ⟨Tryd.isAgg49, Tryd.sizeOf49⟩
instance : ZeroT Tryd.prog 49 [.int .i64 0, .int .i64 0, .slice none 0 0, .slice none 0 0] := ⟨fun w => ⟨_, Tryd.zeroValue49 w, rfl⟩⟩
instance : FdT Tryd.prog 49 0 0 := ⟨fun w b o => by have h := run_fieldAt_of (f := 0) Tryd.underlying49 rfl Tryd.sizeOf3 (by decide) w b o; exact h⟩
instance : FlT Tryd.prog 49 0 0 false 1 := ⟨fun w cs r v ht hv => by have h := @run_field_of _ _ _ 0 _ _ _ Tryd.underlying49 rfl Tryd.isAgg3 Tryd.sizeOf3 w cs r v; exact h ht hv⟩
instance : FdT Tryd.prog 49 1 1 := ⟨fun w b o => by have h := run_fieldAt_of (f := 1) Tryd.underlying49 rfl Tryd.sizeOf3 (by decide) w b o; exact h⟩
instance : FlT Tryd.prog 49 1 1 false 1 := ⟨fun w cs r v ht hv => by have h := @run_field_of _ _ _ 1 _ _ _ Tryd.underlying49 rfl Tryd.isAgg3 Tryd.sizeOf3 w cs r v; exact h ht hv⟩
instance : FdT Tryd.prog 49 2 2 := ⟨fun w b o => by have h := run_fieldAt_of (f := 2) Tryd.underlying49 rfl Tryd.sizeOf42 (by decide) w b o; exact h⟩
instance : FlT Tryd.prog 49 2 2 false 1 := ⟨fun w cs r v ht hv => by have h := @run_field_of _ _ _ 2 _ _ _ Tryd.underlying49 rfl Tryd.isAgg42 Tryd.sizeOf42 w cs r v; exact h ht hv⟩
instance : FdT Tryd.prog 49 3 3 := ⟨fun w b o => by have h := run_fieldAt_of (f := 3) Tryd.underlying49 rfl Tryd.sizeOf48 (by decide) w b o; exact h⟩
instance : FlT Tryd.prog 49 3 3 false 1 := ⟨fun w cs r v ht hv => by have h := @run_field_of _ _ _ 3 _ _ _ Tryd.underlying49 rfl Tryd.isAgg48 Tryd.sizeOf48 w cs r v; exact h ht hv⟩
instance : TI Tryd.prog 50 true 4 := ⟨Tryd.isAgg50, Tryd.sizeOf50⟩
instance : ZeroT Tryd.prog 50 [.int .i64 0, .int .i64 0, .slice none 0 0, .slice none 0 0] := ⟨fun w => ⟨_, Tryd.zeroValue50 w, rfl⟩⟩
instance : FdT Tryd.prog 50 0 0 := ⟨fun w b o => by have h := run_fieldAt_of (f := 0) Tryd.underlying50 rfl Tryd.sizeOf3 (by decide) w b o; exact h⟩
instance : FlT Tryd.prog 50 0 0 false 1 := ⟨fun w cs r v ht hv => by have h := @run_field_of _ _ _ 0 _ _ _ Tryd.underlying50 rfl Tryd.isAgg3 Tryd.sizeOf3 w cs r v; exact h ht hv⟩
instance : FdT Tryd.prog 50 1 1 := ⟨fun w b o => by have h := run_fieldAt_of (f := 1) Tryd.underlying50 rfl Tryd.sizeOf3 (by decide) w b o; exact h⟩
instance : FlT Tryd.prog 50 1 1 false 1 := ⟨fun w cs r v ht hv => by have h := @run_field_of _ _ _ 1 _ _ _ Tryd.underlying50 rfl Tryd.isAgg3 Tryd.sizeOf3 w cs r v; exact h ht hv⟩
instance : FdT Tryd.prog 50 2 2 := ⟨fun w b o => by have h := run_fieldAt_of (f := 2) Tryd.underlying50 rfl Tryd.sizeOf42 (by decide) w b o; exact h⟩
instance : FlT Tryd.prog 50 2 2 false 1 := ⟨fun w cs r v ht hv => by have h := @run_field_of _ _ _ 2 _ _ _ Tryd.underlying50 rfl Tryd.isAgg42 Tryd.sizeOf42 w cs r v; exact h ht hv⟩
instance : FdT Tryd.prog 50 3 3 := ⟨fun w b o => by have h := run_fieldAt_of (f := 3) Tryd.underlying50 rfl Tryd.sizeOf48 (by decide) w b o; exact h⟩
instance : FlT Tryd.prog 50 3 3 false 1 := ⟨fun w cs r v ht hv => by have h := @run_field_of _ _ _ 3 _ _ _ Tryd.underlying50 rfl Tryd.isAgg48 Tryd.sizeOf48 w cs r v; exact h ht hv⟩
instance : TI Tryd.prog 51 false 1 := ⟨Tryd.isAgg51, Tryd.sizeOf51⟩
instance : TI Tryd.prog 52 false 1 := ⟨Tryd.isAgg52, Tryd.sizeOf52⟩
instance : TI Tryd.prog 53 false 1 := ⟨Tryd.isAgg53, Tryd.sizeOf53⟩
instance : TI Tryd.prog 54 false 1 := ⟨Tryd.isAgg54, Tryd.sizeOf54⟩
instance : TI Tryd.prog 55 false 1 := ⟨Tryd.isAgg55, Tryd.sizeOf55⟩
instance : TI Tryd.prog 56 false 1 := ⟨Tryd.isAgg56, Tryd.sizeOf56⟩
instance : TI Tryd.prog 57 false 1 := ⟨Tryd.isAgg57, Tryd.sizeOf57⟩
instance : TI Tryd.prog 58 false 1 := ⟨Tryd.isAgg58, Tryd.sizeOf58⟩
instance : TI Tryd.prog 59 false 1 := ⟨Tryd.isAgg59, Tryd.sizeOf59⟩
instance : TI Tryd.prog 60 false 1 := ⟨Tryd.isAgg60, Tryd.sizeOf60⟩
instance : TI Tryd.prog 61 false 1 := ⟨Tryd.isAgg61, Tryd.sizeOf61⟩
instance : TI Tryd.prog 62 false 1 := ⟨Tryd.isAgg62, Tryd.sizeOf62⟩
instance : TI Tryd.prog 63 false 1 := ⟨Tryd.isAgg63, Tryd.sizeOf63⟩
instance : TI Tryd.prog 64 false 1 := ⟨Tryd.isAgg64, Tryd.sizeOf64⟩
instance : TI Tryd.prog 65 false 1 := ⟨Tryd.isAgg65, Tryd.sizeOf65⟩
instance : TI Tryd.prog 66 false 1 := ⟨Tryd.isAgg66, Tryd.sizeOf66⟩
instance : TI Tryd.prog 67 false 1 := ⟨Tryd.isAgg67, Tryd.sizeOf67⟩
instance : TI Tryd.prog 68 false 1 := ⟨Tryd.isAgg68, Tryd.sizeOf68⟩
instance : TI Tryd.prog 69 true 3 := ⟨Tryd.isAgg69, Tryd.sizeOf69⟩
instance : ZeroT Tryd.prog 69 [.int .i64 0, .int .i64 0, .slice none 0 0] := ⟨fun w => ⟨_, Tryd.zeroValue69 w, rfl⟩⟩
instance : FdT Tryd.prog 69 0 0 := ⟨fun w b o => by have h := run_fieldAt_of (f := 0) Tryd.underlying69 rfl Tryd.sizeOf3 (by decide) w b o; exact h⟩
instance : FlT Tryd.prog 69 0 0 false 1 := ⟨fun w cs r v ht hv => by have h := @run_field_of _ _ _ 0 _ _ _ Tryd.underlying69 rfl Tryd.isAgg3 Tryd.sizeOf3 w cs r v; exact h ht hv⟩
instance : FdT Tryd.prog 69 1 1 := ⟨fun w b o => by have h := run_fieldAt_of (f := 1) Tryd.underlying69 rfl Tryd.sizeOf3 (by decide) w b o; exact h⟩
instance : FlT Tryd.prog 69 1 1 false 1 := ⟨fun w cs r v ht hv => by have h := @run_field_of _ _ _ 1 _ _ _ Tryd.underlying69 rfl Tryd.isAgg3 Tryd.sizeOf3 w cs r v; exact h ht hv⟩
instance : FdT Tryd.prog 69 2 2 := ⟨fun w b o => by have h := run_fieldAt_of (f := 2) Tryd.underlying69 rfl Tryd.sizeOf42 (by decide) w b o; exact h⟩
instance : FlT Tryd.prog 69 2 2 false 1 := ⟨fun w cs r v ht hv => by have h := @run_field_of _ _ _ 2 _ _ _ Tryd.underlying69 rfl Tryd.isAgg42 Tryd.sizeOf42 w cs r v; exact h ht hv⟩
instance : TI Tryd.prog 70 true 3 := ⟨Tryd.isAgg70, Tryd.sizeOf70⟩
instance : ZeroT Tryd.prog 70 [.int .i64 0, .int .i64 0, .slice none 0 0] := ⟨fun w => ⟨_, Tryd.zeroValue70 w, rfl⟩⟩
instance : FdT Tryd.prog 70 0 0 := ⟨fun w b o => by have h := run_fieldAt_of (f := 0) Tryd.underlying70 rfl Tryd.sizeOf3 (by decide) w b o; exact h⟩
instance : FlT Tryd.prog 70 0 0 false 1 := ⟨fun w cs r v ht hv => by have h := @run_field_of _ _ _ 0 _ _ _ Tryd.underlying70 rfl Tryd.isAgg3 Tryd.sizeOf3 w cs r v; exact h ht hv⟩
instance : FdT Tryd.prog 70 1 1 := ⟨fun w b o => by have h := run_fieldAt_of (f := 1) Tryd.underlying70 rfl Tryd.sizeOf3 (by decide) w b o; exact h⟩
instance : FlT Tryd.prog 70 1 1 false 1 := ⟨fun w cs r v ht hv => by have h := @run_field_of _ _ _ 1 _ _ _ Tryd.underlying70 rfl Tryd.isAgg3 Tryd.sizeOf3 w cs r v; exact h ht hv⟩
instance : FdT Tryd.prog 70 2 2 := ⟨fun w b o => by have h := run_fieldAt_of (f := 2) Tryd.underlying70 rfl Tryd.sizeOf42 (by decide) w b o; exact h⟩
instance : FlT Tryd.prog 70 2 2 false 1 := ⟨fun w cs r v ht hv => by have h := @run_field_of _ _ _ 2 _ _ _ Tryd.underlying70 rfl Tryd.isAgg42 Tryd.sizeOf42 w cs r v; exact h ht hv⟩
instance : TI Tryd.prog 71 false 1 := ⟨Tryd.isAgg71, Tryd.sizeOf71⟩
instance : ZeroT Tryd.prog 71 [.slice none 0 0] := ⟨fun w => ⟨_, Tryd.zeroValue71 w, rfl⟩⟩
instance : BytT Tryd.prog 71 5 := ⟨Tryd.underlying71, Tryd.underlying5⟩
instance : SlT Tryd.prog 71 5 1 := ⟨Tryd.underlying71, Tryd.sizeOf5⟩
instance : ApT Tryd.prog 71 5 1 1 (.int .u8 0) := ⟨Tryd.underlying71, by kernel_rfl, rfl, rfl, by decide⟩
instance : TI Tryd.prog 72 true 3 := ⟨Tryd.isAgg72, Tryd.sizeOf72⟩
instance : ZeroT Tryd.prog 72 [.int .i64 0, .int .i64 0, .slice none 0 0] := ⟨fun w => ⟨_, Tryd.zeroValue72 w, rfl⟩⟩
instance : FdT Tryd.prog 72 0 0 := ⟨fun w b o => by have h := run_fieldAt_of (f := 0) Tryd.underlying72 rfl Tryd.sizeOf3 (by decide) w b o; exact h⟩
instance : FlT Tryd.prog 72 0 0 false 1 := ⟨fun w cs r v ht hv => by have h := @run_field_of _ _ _ 0 _ _ _ Tryd.underlying72 rfl Tryd.isAgg3 Tryd.sizeOf3 w cs r v; exact h ht hv⟩
instance : FdT Tryd.prog 72 1 1 := ⟨fun w b o => by have h := run_fieldAt_of (f := 1) Tryd.underlying72 rfl Tryd.sizeOf3 (by decide) w b o; exact h⟩
instance : FlT Tryd.prog 72 1 1 false 1 := ⟨fun w cs r v ht hv => by have h := @run_field_of _ _ _ 1 _ _ _ Tryd.underlying72 rfl Tryd.isAgg3 Tryd.sizeOf3 w cs r v; exact h ht hv⟩
instance : FdT Tryd.prog 72 2 2 := ⟨fun w b o => by have h := run_fieldAt_of (f := 2) Tryd.underlying72 rfl Tryd.sizeOf42 (by decide) w b o; exact h⟩
instance : FlT Tryd.prog 72 2 2 false 1 := ⟨fun w cs r v ht hv => by have h := @run_field_of _ _ _ 2 _ _ _ Tryd.underlying72 rfl Tryd.isAgg42 Tryd.sizeOf42 w cs r v; exact h ht hv⟩
instance : TI Tryd.prog 73 false 1 := ⟨Tryd.isAgg73, Tryd.sizeOf73⟩
instance : TI Tryd.prog 74 false 1 := ⟨Tryd.isAgg74, Tryd.sizeOf74⟩
instance : TI Tryd.prog 75 false 1 := ⟨Tryd.isAgg75, Tryd.sizeOf75⟩
instance : TI Tryd.prog 76 false 1 := ⟨Tryd.isAgg76, Tryd.sizeOf76⟩
instance : ZeroT Tryd.prog 76 [.slice none 0 0] := ⟨fun w => ⟨_, Tryd.zeroValue76 w, rfl⟩⟩
instance : SlT Tryd.prog 76 9 1 := ⟨Tryd.underlying76, Tryd.sizeOf9⟩
instance : ApT Tryd.prog 76 9 1 16 (.string ⟨#[]⟩) := ⟨Tryd.underlying76, by kernel_rfl, rfl, rfl, by decide⟩
instance : TI Tryd.prog 77 false 1 := ⟨Tryd.isAgg77, Tryd.sizeOf77⟩
instance : TI Tryd.prog 78 false 1 := ⟨Tryd.isAgg78, Tryd.sizeOf78⟩
instance : TI Tryd.prog 79 false 1 := ⟨Tryd.isAgg79, Tryd.sizeOf79⟩
instance : TI Tryd.prog 80 false 1 := ⟨Tryd.isAgg80, Tryd.sizeOf80⟩
instance : TI Tryd.prog 81 false 1 := ⟨Tryd.isAgg81, Tryd.sizeOf81⟩
instance : TI Tryd.prog 82 false 1 := ⟨Tryd.isAgg82, Tryd.sizeOf82⟩
instance : TI Tryd.prog 84 false 1 := ⟨Tryd.isAgg84, Tryd.sizeOf84⟩
instance : TI Tryd.prog 85 false 1 := ⟨Tryd.isAgg85, Tryd.sizeOf85⟩
instance : TI Tryd.prog 86 false 1 := ⟨Tryd.isAgg86, Tryd.sizeOf86⟩
instance : TI Tryd.prog 87 false 1 := ⟨Tryd.isAgg87, Tryd.sizeOf87⟩
instance : TI Tryd.prog 88 true 3 := ⟨Tryd.isAgg88, Tryd.sizeOf88⟩
instance : ZeroT Tryd.prog 88 [.slice none 0 0, .slice none 0 0, .int .i64 0] := ⟨fun w => ⟨_, Tryd.zeroValue88 w, rfl⟩⟩
instance : FdT Tryd.prog 88 0 0 := ⟨fun w b o => by have h := run_fieldAt_of (f := 0) Tryd.underlying88 rfl Tryd.sizeOf27 (by decide) w b o; exact h⟩
instance : FlT Tryd.prog 88 0 0 false 1 := ⟨fun w cs r v ht hv => by have h := @run_field_of _ _ _ 0 _ _ _ Tryd.underlying88 rfl Tryd.isAgg27 Tryd.sizeOf27 w cs r v; exact h ht hv⟩
instance : FdT Tryd.prog 88 1 1 := ⟨fun w b o => by have h := run_fieldAt_of (f := 1) Tryd.underlying88 rfl Tryd.sizeOf42 (by decide) w b o; exact h⟩
instance : FlT Tryd.prog 88 1 1 false 1 := ⟨fun w cs r v ht hv => by have h := @run_field_of _ _ _ 1 _ _ _ Tryd.underlying88 rfl Tryd.isAgg42 Tryd.sizeOf42 w cs r v; exact h ht hv⟩
instance : FdT Tryd.prog 88 2 2 := ⟨fun w b o => by have h := run_fieldAt_of (f := 2) Tryd.underlying88 rfl Tryd.sizeOf3 (by decide) w b o; exact h⟩
instance : FlT Tryd.prog 88 2 2 false 1 := ⟨fun w cs r v ht hv => by have h := @run_field_of _ _ _ 2 _ _ _ Tryd.underlying88 rfl Tryd.isAgg3 Tryd.sizeOf3 w cs r v; exact h ht hv⟩
instance : TI Tryd.prog 89 true 3 := ⟨Tryd.isAgg89, Tryd.sizeOf89⟩
instance : ZeroT Tryd.prog 89 [.slice none 0 0, .slice none 0 0, .int .i64 0] := ⟨fun w => ⟨_, Tryd.zeroValue89 w, rfl⟩⟩
instance : FdT Tryd.prog 89 0 0 := ⟨fun w b o => by have h := run_fieldAt_of (f := 0) Tryd.underlying89 rfl Tryd.sizeOf27 (by decide) w b o; exact h⟩
instance : FlT Tryd.prog 89 0 0 false 1 := ⟨fun w cs r v ht hv => by have h := @run_field_of _ _ _ 0 _ _ _ Tryd.underlying89 rfl Tryd.isAgg27 Tryd.sizeOf27 w cs r v; exact h ht hv⟩
instance : FdT Tryd.prog 89 1 1 := ⟨fun w b o => by have h := run_fieldAt_of (f := 1) Tryd.underlying89 rfl Tryd.sizeOf42 (by decide) w b o; exact h⟩
instance : FlT Tryd.prog 89 1 1 false 1 := ⟨fun w cs r v ht hv => by have h := @run_field_of _ _ _ 1 _ _ _ Tryd.underlying89 rfl Tryd.isAgg42 Tryd.sizeOf42 w cs r v; exact h ht hv⟩
instance : FdT Tryd.prog 89 2 2 := ⟨fun w b o => by have h := run_fieldAt_of (f := 2) Tryd.underlying89 rfl Tryd.sizeOf3 (by decide) w b o; exact h⟩
instance : FlT Tryd.prog 89 2 2 false 1 := ⟨fun w cs r v ht hv => by have h := @run_field_of _ _ _ 2 _ _ _ Tryd.underlying89 rfl Tryd.isAgg3 Tryd.sizeOf3 w cs r v; exact h ht hv⟩
instance : TI Tryd.prog 90 false 1 := ⟨Tryd.isAgg90, Tryd.sizeOf90⟩
instance : TI Tryd.prog 91 false 1 := ⟨Tryd.isAgg91, Tryd.sizeOf91⟩
instance : TI Tryd.prog 92 false 1 := ⟨Tryd.isAgg92, Tryd.sizeOf92⟩
instance : TI Tryd.prog 93 false 1 := ⟨Tryd.isAgg93, Tryd.sizeOf93⟩
instance : TI Tryd.prog 94 false 1 := ⟨Tryd.isAgg94, Tryd.sizeOf94⟩
instance : TI Tryd.prog 95 false 1 := ⟨Tryd.isAgg95, Tryd.sizeOf95⟩
instance : TI Tryd.prog 96 true 2 := ⟨Tryd.isAgg96, Tryd.sizeOf96⟩
instance : FdT Tryd.prog 96 0 0 := ⟨fun w b o => by have h := run_fieldAt_of (f := 0) Tryd.underlying96 rfl Tryd.sizeOf95 (by decide) w b o; exact h⟩
instance : FlT Tryd.prog 96 0 0 false 1 := ⟨fun w cs r v ht hv => by have h := @run_field_of _ _ _ 0 _ _ _ Tryd.underlying96 rfl Tryd.isAgg95 Tryd.sizeOf95 w cs r v; exact h ht hv⟩
instance : FdT Tryd.prog 96 1 1 := ⟨fun w b o => by have h := run_fieldAt_of (f := 1) Tryd.underlying96 rfl Tryd.sizeOf71 (by decide) w b o; exact h⟩
instance : FlT Tryd.prog 96 1 1 false 1 := ⟨fun w cs r v ht hv => by have h := @run_field_of _ _ _ 1 _ _ _ Tryd.underlying96 rfl Tryd.isAgg71 Tryd.sizeOf71 w cs r v; exact h ht hv⟩
instance : TI Tryd.prog 97 true 2 := ⟨Tryd.isAgg97, Tryd.sizeOf97⟩
instance : FdT Tryd.prog 97 0 0 := ⟨fun w b o => by have h := run_fieldAt_of (f := 0) Tryd.underlying97 rfl Tryd.sizeOf95 (by decide) w b o; exact h⟩
instance : FlT Tryd.prog 97 0 0 false 1 := ⟨fun w cs r v ht hv => by have h := @run_field_of _ _ _ 0 _ _ _ Tryd.underlying97 rfl Tryd.isAgg95 Tryd.sizeOf95 w cs r v; exact h ht hv⟩
instance : FdT Tryd.prog 97 1 1 := ⟨fun w b o => by have h := run_fieldAt_of (f := 1) Tryd.underlying97 rfl Tryd.sizeOf71 (by decide) w b o; exact h⟩
instance : FlT Tryd.prog 97 1 1 false 1 := ⟨fun w cs r v ht hv => by have h := @run_field_of _ _ _ 1 _ _ _ Tryd.underlying97 rfl Tryd.isAgg71 Tryd.sizeOf71 w cs r v; exact h ht hv⟩
instance : TI Tryd.prog 98 false 1 := ⟨Tryd.isAgg98, Tryd.sizeOf98⟩
instance : TI Tryd.prog 99 false 1 := ⟨Tryd.isAgg99, Tryd.sizeOf99⟩
instance : TI Tryd.prog 100 false 1 := ⟨Tryd.isAgg100, Tryd.sizeOf100⟩
instance : TI Tryd.prog 102 false 1 := ⟨Tryd.isAgg102, Tryd.sizeOf102⟩
instance : TI Tryd.prog 104 false 1 := ⟨Tryd.isAgg104, Tryd.sizeOf104⟩
instance : TI Tryd.prog 105 false 1 := ⟨Tryd.isAgg105, Tryd.sizeOf105⟩
instance : TI Tryd.prog 106 false 1 := ⟨Tryd.isAgg106, Tryd.sizeOf106⟩
instance : TI Tryd.prog 107 false 1 := ⟨Tryd.isAgg107, Tryd.sizeOf107⟩
instance : ZeroT Tryd.prog 108 [.int .u8 0, .int .u8 0, .int .u8 0, .int .u8 0, .int .u8 0, .int .u8 0, .int .u8 0, .int .u8 0, .int .u8 0, .int .u8 0, .int .u8 0, .int .u8 0, .int .u8 0, .int .u8 0, .int .u8 0, .int .u8 0, .int .u8 0, .int .u8 0, .int .u8 0, .int .u8 0, .int .u8 0, .int .u8 0, .int .u8 0, .int .u8 0] := ⟨fun w => ⟨_, Tryd.zeroValue108 w, rfl⟩⟩
instance : TI Tryd.prog 109 false 1 := ⟨Tryd.isAgg109, Tryd.sizeOf109⟩
instance : ZeroT Tryd.prog 109 [.int .u64 0] := ⟨fun w => ⟨_, Tryd.zeroValue109 w, rfl⟩⟩
instance : IntT Tryd.prog 109 .u64 := ⟨Tryd.underlying109⟩
instance : TI Tryd.prog 110 false 1 := ⟨Tryd.isAgg110, Tryd.sizeOf110⟩
instance : TI Tryd.prog 111 false 1 := ⟨Tryd.isAgg111, Tryd.sizeOf111⟩
instance : TI Tryd.prog 113 false 1 := ⟨Tryd.isAgg113, Tryd.sizeOf113⟩
instance : TI Tryd.prog 114 false 1 := ⟨Tryd.isAgg114, Tryd.sizeOf114⟩
instance : TI Tryd.prog 115 false 1 := ⟨Tryd.isAgg115, Tryd.sizeOf115⟩
instance : TI Tryd.prog 116 false 1 := ⟨Tryd.isAgg116, Tryd.sizeOf116⟩
instance : TI Tryd.prog 117 false 1 := ⟨Tryd.isAgg117, Tryd.sizeOf117⟩
instance : TI Tryd.prog 118 false 1 := ⟨Tryd.isAgg118, Tryd.sizeOf118⟩
instance : ZeroT Tryd.prog 119 [.int .u64 0, .int .u64 0, .int .u64 0, .int .u64 0, .int .u64 0, .int .u64 0, .int .u64 0, .int .u64 0, .int .u64 0, .int .u64 0, .int .u64 0, .int .u64 0, .int .u64 0, .int .u64 0, .int .u64 0, .int .u64 0, .int .u64 0, .int .u64 0, .int .u64 0, .int .u64 0] := ⟨fun w => ⟨_, Tryd.zeroValue119 w, rfl⟩⟩
instance : TI Tryd.prog 120 false 1 := ⟨Tryd.isAgg120, Tryd.sizeOf120⟩
instance : ZeroT Tryd.prog 120 [.int .u32 0] := ⟨fun w => ⟨_, Tryd.zeroValue120 w, rfl⟩⟩
instance : IntT Tryd.prog 120 .u32 := ⟨Tryd.underlying120⟩
instance : ZeroT Tryd.prog 121 [.int .u8 0, .int .u8 0, .int .u8 0, .int .u8 0, .int .u8 0, .int .u8 0, .int .u8 0, .int .u8 0, .int .u8 0, .int .u8 0, .int .u8 0, .int .u8 0, .int .u8 0, .int .u8 0, .int .u8 0, .int .u8 0, .int .u8 0, .int .u8 0, .int .u8 0, .int .u8 0, .int .u8 0, .int .u8 0, .int .u8 0, .int .u8 0, .int .u8 0, .int .u8 0, .int .u8 0, .int .u8 0, .int .u8 0, .int .u8 0, .int .u8 0, .int .u8 0, .int .u8 0, .int .u8 0, .int .u8 0, .int .u8 0, .int .u8 0, .int .u8 0, .int .u8 0, .int .u8 0, .int .u8 0, .int .u8 0, .int .u8 0, .int .u8 0, .int .u8 0, .int .u8 0, .int .u8 0, .int .u8 0, .int .u8 0, .int .u8 0, .int .u8 0, .int .u8 0, .int .u8 0, .int .u8 0, .int .u8 0, .int .u8 0, .int .u8 0, .int .u8 0, .int .u8 0, .int .u8 0, .int .u8 0, .int .u8 0, .int .u8 0, .int .u8 0, .int .u8 0] := ⟨fun w => ⟨_, Tryd.zeroValue121 w, rfl⟩⟩
instance : TI Tryd.prog 122 false 1 := ⟨Tryd.isAgg122, Tryd.sizeOf122⟩
instance : ZeroT Tryd.prog 122 [.int .u64 0] := ⟨fun w => ⟨_, Tryd.zeroValue122 w, rfl⟩⟩
instance : IntT Tryd.prog 122 .u64 := ⟨Tryd.underlying122⟩
instance : TI Tryd.prog 123 false 1 := ⟨Tryd.isAgg123, Tryd.sizeOf123⟩
instance : TI Tryd.prog 125 false 1 := ⟨Tryd.isAgg125, Tryd.sizeOf125⟩
instance : TI Tryd.prog 126 false 1 := ⟨Tryd.isAgg126, Tryd.sizeOf126⟩
instance : ZeroT Tryd.prog 127 [.int .u8 0, .int .u8 0, .int .u8 0, .int .u8 0, .int .u8 0, .int .u8 0, .int .u8 0, .int .u8 0, .int .u8 0, .int .u8 0, .int .u8 0, .int .u8 0, .int .u8 0, .int .u8 0, .int .u8 0, .int .u8 0, .int .u8 0, .int .u8 0, .int .u8 0, .int .u8 0, .int .u8 0, .int .u8 0, .int .u8 0, .int .u8 0, .int .u8 0, .int .u8 0, .int .u8 0, .int .u8 0, .int .u8 0, .int .u8 0, .int .u8 0, .int .u8 0, .int .u8 0, .int .u8 0, .int .u8 0, .int .u8 0, .int .u8 0, .int .u8 0, .int .u8 0, .int .u8 0, .int .u8 0, .int .u8 0, .int .u8 0, .int .u8 0, .int .u8 0, .int .u8 0, .int .u8 0, .int .u8 0, .int .u8 0, .int .u8 0, .int .u8 0, .int .u8 0, .int .u8 0, .int .u8 0, .int .u8 0, .int .u8 0, .int .u8 0, .int .u8 0, .int .u8 0, .int .u8 0, .int .u8 0, .int .u8 0, .int .u8 0, .int .u8 0, .int .u8 0, .int .u8 0, .int .u8 0, .int .u8 0, .int .u8 0, .int .u8 0, .int .u8 0, .int .u8 0, .int .u8 0, .int .u8 0, .int .u8 0, .int .u8 0, .int .u8 0, .int .u8 0, .int .u8 0, .int .u8 0, .int .u8 0, .int .u8 0, .int .u8 0, .int .u8 0, .int .u8 0, .int .u8 0, .int .u8 0, .int .u8 0, .int .u8 0, .int .u8 0, .int .u8 0, .int .u8 0, .int .u8 0, .int .u8 0, .int .u8 0, .int .u8 0, .int .u8 0, .int .u8 0, .int .u8 0, .int .u8 0, .int .u8 0, .int .u8 0, .int .u8 0, .int .u8 0, .int .u8 0, .int .u8 0, .int .u8 0, .int .u8 0, .int .u8 0, .int .u8 0, .int .u8 0, .int .u8 0, .int .u8 0, .int .u8 0, .int .u8 0, .int .u8 0, .int .u8 0, .int .u8 0, .int .u8 0, .int .u8 0, .int .u8 0, .int .u8 0, .int .u8 0, .int .u8 0, .int .u8 0, .int .u8 0, .int .u8 0, .int .u8 0, .int .u8 0, .int .u8 0, .int .u8 0, .int .u8 0, .int .u8 0, .int .u8 0, .int .u8 0, .int .u8 0, .int .u8 0, .int .u8 0, .int .u8 0, .int .u8 0, .int .u8 0, .int .u8 0, .int .u8 0, .int .u8 0, .int .u8 0, .int .u8 0, .int .u8 0, .int .u8 0, .int .u8 0, .int .u8 0, .int .u8 0, .int .u8 0, .int .u8 0, .int .u8 0, .int .u8 0, .int .u8 0, .int .u8 0, .int .u8 0, .int .u8 0, .int .u8 0, .int .u8 0, .int .u8 0, .int .u8 0, .int .u8 0, .int .u8 0, .int .u8 0, .int .u8 0, .int .u8 0, .int .u8 0, .int .u8 0, .int .u8 0, .int .u8 0, .int .u8 0, .int .u8 0, .int .u8 0, .int .u8 0, .int .u8 0, .int .u8 0, .int .u8 0, .int .u8 0, .int .u8 0, .int .u8 0, .int .u8 0, .int .u8 0, .int .u8 0, .int .u8 0, .int .u8 0, .int .u8 0, .int .u8 0, .int .u8 0, .int .u8 0, .int .u8 0, .int .u8 0, .int .u8 0, .int .u8 0, .int .u8 0, .int .u8 0, .int .u8 0, .int .u8 0, .int .u8 0, .int .u8 0, .int .u8 0, .int .u8 0, .int .u8 0, .int .u8 0, .int .u8 0, .int .u8 0, .int .u8 0, .int .u8 0, .int .u8 0, .int .u8 0, .int .u8 0, .int .u8 0, .int .u8 0, .int .u8 0, .int .u8 0, .int .u8 0, .int .u8 0, .int .u8 0, .int .u8 0, .int .u8 0, .int .u8 0, .int .u8 0, .int .u8 0, .int .u8 0, .int .u8 0, .int .u8 0, .int .u8 0, .int .u8 0, .int .u8 0, .int .u8 0, .int .u8 0, .int .u8 0, .int .u8 0, .int .u8 0, .int .u8 0, .int .u8 0, .int .u8 0, .int .u8 0, .int .u8 0, .int .u8 0, .int .u8 0, .int .u8 0, .int .u8 0, .int .u8 0, .int .u8 0, .int .u8 0, .int .u8 0, .int .u8 0, .int .u8 0, .int .u8 0, .int .u8 0, .int .u8 0, .int .u8 0, .int .u8 0, .int .u8 0] := ⟨fun w => ⟨_, Tryd.zeroValue127 w, rfl⟩⟩
instance : TI Tryd.prog 128 true 2 := ⟨Tryd.isAgg128, Tryd.sizeOf128⟩
instance : ZeroT Tryd.prog 128 [.int .u8 0, .int .u8 0] := ⟨fun w => ⟨_, Tryd.zeroValue128 w, rfl⟩⟩
instance : FdT Tryd.prog 128 0 0 := ⟨fun w b o => by have h := run_fieldAt_of (f := 0) Tryd.underlying128 rfl Tryd.sizeOf5 (by decide) w b o; exact h⟩
instance : FlT Tryd.prog 128 0 0 false 1 := ⟨fun w cs r v ht hv => by have h := @run_field_of _ _ _ 0 _ _ _ Tryd.underlying128 rfl Tryd.isAgg5 Tryd.sizeOf5 w cs r v; exact h ht hv⟩
instance : FdT Tryd.prog 128 1 1 := ⟨fun w b o => by have h := run_fieldAt_of (f := 1) Tryd.underlying128 rfl Tryd.sizeOf5 (by decide) w b o; exact h⟩
instance : FlT Tryd.prog 128 1 1 false 1 := ⟨fun w cs r v ht hv => by have h := @run_field_of _ _ _ 1 _ _ _ Tryd.underlying128 rfl Tryd.isAgg5 Tryd.sizeOf5 w cs r v; exact h ht hv⟩
instance : TI Tryd.prog 129 true 2 := ⟨Tryd.isAgg129, Tryd.sizeOf129⟩
instance : ZeroT Tryd.prog 129 [.int .u8 0, .int .u8 0] := ⟨fun w => ⟨_, Tryd.zeroValue129 w, rfl⟩⟩
instance : FdT Tryd.prog 129 0 0 := ⟨fun w b o => by have h := run_fieldAt_of (f := 0) Tryd.underlying129 rfl Tryd.sizeOf5 (by decide) w b o; exact h⟩
instance : FlT Tryd.prog 129 0 0 false 1 := ⟨fun w cs r v ht hv => by have h := @run_field_of _ _ _ 0 _ _ _ Tryd.underlying129 rfl Tryd.isAgg5 Tryd.sizeOf5 w cs r v; exact h ht hv⟩
instance : FdT Tryd.prog 129 1 1 := ⟨fun w b o => by have h := run_fieldAt_of (f := 1) Tryd.underlying129 rfl Tryd.sizeOf5 (by decide) w b o; exact h⟩
instance : FlT Tryd.prog 129 1 1 false 1 := ⟨fun w cs r v ht hv => by have h := @run_field_of _ _ _ 1 _ _ _ Tryd.underlying129 rfl Tryd.isAgg5 Tryd.sizeOf5 w cs r v; exact h ht hv⟩
instance : ZeroT Tryd.prog 130 [.int .u8 0, .int .u8 0, .int .u8 0, .int .u8 0, .int .u8 0, .int .u8 0, .int .u8 0, .int .u8 0, .int .u8 0, .int .u8 0, .int .u8 0, .int .u8 0, .int .u8 0, .int .u8 0, .int .u8 0, .int .u8 0, .int .u8 0, .int .u8 0, .int .u8 0, .int .u8 0, .int .u8 0, .int .u8 0, .int .u8 0, .int .u8 0, .int .u8 0, .int .u8 0, .int .u8 0, .int .u8 0, .int .u8 0, .int .u8 0, .int .u8 0, .int .u8 0] := ⟨fun w => ⟨_, Tryd.zeroValue130 w, rfl⟩⟩
instance : TI Tryd.prog 131 false 1 := ⟨Tryd.isAgg131, Tryd.sizeOf131⟩
instance : TI Tryd.prog 133 false 1 := ⟨Tryd.isAgg133, Tryd.sizeOf133⟩
instance : ZeroT Tryd.prog 134 [.int .u8 0, .int .u8 0, .int .u8 0, .int .u8 0, .int .u8 0, .int .u8 0, .int .u8 0, .int .u8 0, .int .u8 0, .int .u8 0, .int .u8 0, .int .u8 0, .int .u8 0, .int .u8 0, .int .u8 0, .int .u8 0, .int .u8 0, .int .u8 0, .int .u8 0, .int .u8 0, .int .u8 0, .int .u8 0, .int .u8 0, .int .u8 0, .int .u8 0, .int .u8 0, .int .u8 0, .int .u8 0, .int .u8 0, .int .u8 0, .int .u8 0, .int .u8 0] := ⟨fun w => ⟨_, Tryd.zeroValue134 w, rfl⟩⟩
instance : ZeroT Tryd.prog 135 [.int .u8 0, .int .u8 0, .int .u8 0, .int .u8 0, .int .u8 0, .int .u8 0, .int .u8 0, .int .u8 0, .int .u8 0, .int .u8 0, .int .u8 0, .int .u8 0, .int .u8 0, .int .u8 0, .int .u8 0, .int .u8 0, .int .u8 0, .int .u8 0, .int .u8 0, .int .u8 0, .int .u8 0, .int .u8 0, .int .u8 0, .int .u8 0, .int .u8 0, .int .u8 0, .int .u8 0, .int .u8 0, .int .u8 0, .int .u8 0, .int .u8 0, .int .u8 0, .int .u8 0, .int .u8 0, .int .u8 0, .int .u8 0, .int .u8 0, .int .u8 0, .int .u8 0, .int .u8 0, .int .u8 0, .int .u8 0, .int .u8 0, .int .u8 0, .int .u8 0, .int .u8 0, .int .u8 0, .int .u8 0, .int .u8 0, .int .u8 0, .int .u8 0, .int .u8 0, .int .u8 0, .int .u8 0, .int .u8 0, .int .u8 0, .int .u8 0, .int .u8 0, .int .u8 0, .int .u8 0, .int .u8 0, .int .u8 0, .int .u8 0, .int .u8 0] := ⟨fun w => ⟨_, Tryd.zeroValue135 w, rfl⟩⟩
instance : TI Tryd.prog 136 true 4 := ⟨Tryd.isAgg136, Tryd.sizeOf136⟩
instance : FdT Tryd.prog 136 0 0 := ⟨fun w b o => by have h := run_fieldAt_of (f := 0) Tryd.underlying136 rfl Tryd.sizeOf17 (by decide) w b o; exact h⟩
instance : FlT Tryd.prog 136 0 0 false 1 := ⟨fun w cs r v ht hv => by have h := @run_field_of _ _ _ 0 _ _ _ Tryd.underlying136 rfl Tryd.isAgg17 Tryd.sizeOf17 w cs r v; exact h ht hv⟩
instance : FdT Tryd.prog 136 1 1 := ⟨fun w b o => by have h := run_fieldAt_of (f := 1) Tryd.underlying136 rfl Tryd.sizeOf17 (by decide) w b o; exact h⟩
instance : FlT Tryd.prog 136 1 1 false 1 := ⟨fun w cs r v ht hv => by have h := @run_field_of _ _ _ 1 _ _ _ Tryd.underlying136 rfl Tryd.isAgg17 Tryd.sizeOf17 w cs r v; exact h ht hv⟩
instance : FdT Tryd.prog 136 2 2 := ⟨fun w b o => by have h := run_fieldAt_of (f := 2) Tryd.underlying136 rfl Tryd.sizeOf17 (by decide) w b o; exact h⟩
instance : FlT Tryd.prog 136 2 2 false 1 := ⟨fun w cs r v ht hv => by have h := @run_field_of _ _ _ 2 _ _ _ Tryd.underlying136 rfl Tryd.isAgg17 Tryd.sizeOf17 w cs r v; exact h ht hv⟩
instance : FdT Tryd.prog 136 3 3 := ⟨fun w b o => by have h := run_fieldAt_of (f := 3) Tryd.underlying136 rfl Tryd.sizeOf9 (by decide) w b o; exact h⟩
instance : FlT Tryd.prog 136 3 3 false 1 := ⟨fun w cs r v ht hv => by have h := @run_field_of _ _ _ 3 _ _ _ Tryd.underlying136 rfl Tryd.isAgg9 Tryd.sizeOf9 w cs r v; exact h ht hv⟩
instance : TI Tryd.prog 137 true 4 := ⟨Tryd.isAgg137, Tryd.sizeOf137⟩
instance : FdT Tryd.prog 137 0 0 := ⟨fun w b o => by have h := run_fieldAt_of (f := 0) Tryd.underlying137 rfl Tryd.sizeOf17 (by decide) w b o; exact h⟩
instance : FlT Tryd.prog 137 0 0 false 1 := ⟨fun w cs r v ht hv => by have h := @run_field_of _ _ _ 0 _ _ _ Tryd.underlying137 rfl Tryd.isAgg17 Tryd.sizeOf17 w cs r v; exact h ht hv⟩
instance : FdT Tryd.prog 137 1 1 := ⟨fun w b o => by have h := run_fieldAt_of (f := 1) Tryd.underlying137 rfl Tryd.sizeOf17 (by decide) w b o; exact h⟩
instance : FlT Tryd.prog 137 1 1 false 1 := ⟨fun w cs r v ht hv => by have h := @run_field_of _ _ _ 1 _ _ _ Tryd.underlying137 rfl Tryd.isAgg17 Tryd.sizeOf17 w cs r v; exact h ht hv⟩
instance : FdT Tryd.prog 137 2 2 := ⟨fun w b o => by have h := run_fieldAt_of (f := 2) Tryd.underlying137 rfl Tryd.sizeOf17 (by decide) w b o; exact h⟩
instance : FlT Tryd.prog 137 2 2 false 1 := ⟨fun w cs r v ht hv => by have h := @run_field_of _ _ _ 2 _ _ _ Tryd.underlying137 rfl Tryd.isAgg17 Tryd.sizeOf17 w cs r v; exact h ht hv⟩
instance : FdT Tryd.prog 137 3 3 := ⟨fun w b o => by have h := run_fieldAt_of (f := 3) Tryd.underlying137 rfl Tryd.sizeOf9 (by decide) w b o; exact h⟩
instance : FlT Tryd.prog 137 3 3 false 1 := ⟨fun w cs r v ht hv => by have h := @run_field_of _ _ _ 3 _ _ _ Tryd.underlying137 rfl Tryd.isAgg9 Tryd.sizeOf9 w cs r v; exact h ht hv⟩
instance : ZeroT Tryd.prog 138 [] := ⟨fun w => ⟨_, Tryd.zeroValue138 w, rfl⟩⟩
instance : TI Tryd.prog 139 true 0 := ⟨Tryd.isAgg139, Tryd.sizeOf139⟩
instance : ZeroT Tryd.prog 139 [] := ⟨fun w => ⟨_, Tryd.zeroValue139 w, rfl⟩⟩
instance : TI Tryd.prog 140 true 0 := ⟨Tryd.isAgg140, Tryd.sizeOf140⟩
instance : ZeroT Tryd.prog 140 [] := ⟨fun w => ⟨_, Tryd.zeroValue140 w, rfl⟩⟩
instance : TI Tryd.prog 141 false 1 := ⟨Tryd.isAgg141, Tryd.sizeOf141⟩
instance : TI Tryd.prog 142 false 1 := ⟨Tryd.isAgg142, Tryd.sizeOf142⟩
instance : ZeroT Tryd.prog 142 [.int .u8 0] := ⟨fun w => ⟨_, Tryd.zeroValue142 w, rfl⟩⟩
instance : IntT Tryd.prog 142 .u8 := ⟨Tryd.underlying142⟩
instance : TI Tryd.prog 143 false 1 := ⟨Tryd.isAgg143, Tryd.sizeOf143⟩
instance : ZeroT Tryd.prog 143 [.int .u8 0] := ⟨fun w => ⟨_, Tryd.zeroValue143 w, rfl⟩⟩
instance : IntT Tryd.prog 143 .u8 := ⟨Tryd.underlying143⟩
instance : TI Tryd.prog 144 false 1 := ⟨Tryd.isAgg144, Tryd.sizeOf144⟩
instance : TI Tryd.prog 145 false 1 := ⟨Tryd.isAgg145, Tryd.sizeOf145⟩
instance : ZeroT Tryd.prog 145 [.int .i32 0] := ⟨fun w => ⟨_, Tryd.zeroValue145 w, rfl⟩⟩
instance : IntT Tryd.prog 145 .i32 := ⟨Tryd.underlying145⟩
instance : TI Tryd.prog 146 false 1 := ⟨Tryd.isAgg146, Tryd.sizeOf146⟩
instance : ZeroT Tryd.prog 146 [.int .i32 0] := ⟨fun w => ⟨_, Tryd.zeroValue146 w, rfl⟩⟩
instance : IntT Tryd.prog 146 .i32 := ⟨Tryd.underlying146⟩
instance : TI Tryd.prog 147 true 11 := ⟨Tryd.isAgg147, Tryd.sizeOf147⟩
instance : FdT Tryd.prog 147 0 0 := ⟨fun w b o => by have h := run_fieldAt_of (f := 0) Tryd.underlying147 rfl Tryd.sizeOf12 (by decide) w b o; exact h⟩
instance : FlT Tryd.prog 147 0 0 false 1 := ⟨fun w cs r v ht hv => by have h := @run_field_of _ _ _ 0 _ _ _ Tryd.underlying147 rfl Tryd.isAgg12 Tryd.sizeOf12 w cs r v; exact h ht hv⟩
instance : FdT Tryd.prog 147 1 1 := ⟨fun w b o => by have h := run_fieldAt_of (f := 1) Tryd.underlying147 rfl Tryd.sizeOf12 (by decide) w b o; exact h⟩
instance : FlT Tryd.prog 147 1 1 false 1 := ⟨fun w cs r v ht hv => by have h := @run_field_of _ _ _ 1 _ _ _ Tryd.underlying147 rfl Tryd.isAgg12 Tryd.sizeOf12 w cs r v; exact h ht hv⟩
instance : FdT Tryd.prog 147 2 2 := ⟨fun w b o => by have h := run_fieldAt_of (f := 2) Tryd.underlying147 rfl Tryd.sizeOf120 (by decide) w b o; exact h⟩
instance : FlT Tryd.prog 147 2 2 false 1 := ⟨fun w cs r v ht hv => by have h := @run_field_of _ _ _ 2 _ _ _ Tryd.underlying147 rfl Tryd.isAgg120 Tryd.sizeOf120 w cs r v; exact h ht hv⟩
instance : FdT Tryd.prog 147 3 3 := ⟨fun w b o => by have h := run_fieldAt_of (f := 3) Tryd.underlying147 rfl Tryd.sizeOf142 (by decide) w b o; exact h⟩
instance : FlT Tryd.prog 147 3 3 false 1 := ⟨fun w cs r v ht hv => by have h := @run_field_of _ _ _ 3 _ _ _ Tryd.underlying147 rfl Tryd.isAgg142 Tryd.sizeOf142 w cs r v; exact h ht hv⟩
instance : FdT Tryd.prog 147 4 4 := ⟨fun w b o => by have h := run_fieldAt_of (f := 4) Tryd.underlying147 rfl Tryd.sizeOf5 (by decide) w b o; exact h⟩
instance : FlT Tryd.prog 147 4 4 false 1 := ⟨fun w cs r v ht hv => by have h := @run_field_of _ _ _ 4 _ _ _ Tryd.underlying147 rfl Tryd.isAgg5 Tryd.sizeOf5 w cs r v; exact h ht hv⟩
instance : FdT Tryd.prog 147 5 5 := ⟨fun w b o => by have h := run_fieldAt_of (f := 5) Tryd.underlying147 rfl Tryd.sizeOf5 (by decide) w b o; exact h⟩
instance : FlT Tryd.prog 147 5 5 false 1 := ⟨fun w cs r v ht hv => by have h := @run_field_of _ _ _ 5 _ _ _ Tryd.underlying147 rfl Tryd.isAgg5 Tryd.sizeOf5 w cs r v; exact h ht hv⟩
instance : FdT Tryd.prog 147 6 6 := ⟨fun w b o => by have h := run_fieldAt_of (f := 6) Tryd.underlying147 rfl Tryd.sizeOf143 (by decide) w b o; exact h⟩
instance : FlT Tryd.prog 147 6 6 false 1 := ⟨fun w cs r v ht hv => by have h := @run_field_of _ _ _ 6 _ _ _ Tryd.underlying147 rfl Tryd.isAgg143 Tryd.sizeOf143 w cs r v; exact h ht hv⟩
instance : FdT Tryd.prog 147 7 7 := ⟨fun w b o => by have h := run_fieldAt_of (f := 7) Tryd.underlying147 rfl Tryd.sizeOf144 (by decide) w b o; exact h⟩
instance : FlT Tryd.prog 147 7 7 false 1 := ⟨fun w cs r v ht hv => by have h := @run_field_of _ _ _ 7 _ _ _ Tryd.underlying147 rfl Tryd.isAgg144 Tryd.sizeOf144 w cs r v; exact h ht hv⟩
instance : FdT Tryd.prog 147 8 8 := ⟨fun w b o => by have h := run_fieldAt_of (f := 8) Tryd.underlying147 rfl Tryd.sizeOf116 (by decide) w b o; exact h⟩
instance : FlT Tryd.prog 147 8 8 false 1 := ⟨fun w cs r v ht hv => by have h := @run_field_of _ _ _ 8 _ _ _ Tryd.underlying147 rfl Tryd.isAgg116 Tryd.sizeOf116 w cs r v; exact h ht hv⟩
instance : FdT Tryd.prog 147 9 9 := ⟨fun w b o => by have h := run_fieldAt_of (f := 9) Tryd.underlying147 rfl Tryd.sizeOf145 (by decide) w b o; exact h⟩
instance : FlT Tryd.prog 147 9 9 false 1 := ⟨fun w cs r v ht hv => by have h := @run_field_of _ _ _ 9 _ _ _ Tryd.underlying147 rfl Tryd.isAgg145 Tryd.sizeOf145 w cs r v; exact h ht hv⟩
instance : FdT Tryd.prog 147 10 10 := ⟨fun w b o => by have h := run_fieldAt_of (f := 10) Tryd.underlying147 rfl Tryd.sizeOf146 (by decide) w b o; exact h⟩
instance : FlT Tryd.prog 147 10 10 false 1 := ⟨fun w cs r v ht hv => by have h := @run_field_of _ _ _ 10 _ _ _ Tryd.underlying147 rfl Tryd.isAgg146 Tryd.sizeOf146 w cs r v; exact h ht hv⟩
instance : TI Tryd.prog 148 true 11 := ⟨Tryd.isAgg148, Tryd.sizeOf148⟩
instance : FdT Tryd.prog 148 0 0 := ⟨fun w b o => by have h := run_fieldAt_of (f := 0) Tryd.underlying148 rfl Tryd.sizeOf12 (by decide) w b o; exact h⟩
instance : FlT Tryd.prog 148 0 0 false 1 := ⟨fun w cs r v ht hv => by have h := @run_field_of _ _ _ 0 _ _ _ Tryd.underlying148 rfl Tryd.isAgg12 Tryd.sizeOf12 w cs r v; exact h ht hv⟩
instance : FdT Tryd.prog 148 1 1 := ⟨fun w b o => by have h := run_fieldAt_of (f := 1) Tryd.underlying148 rfl Tryd.sizeOf12 (by decide) w b o; exact h⟩
instance : FlT Tryd.prog 148 1 1 false 1 := ⟨fun w cs r v ht hv => by have h := @run_field_of _ _ _ 1 _ _ _ Tryd.underlying148 rfl Tryd.isAgg12 Tryd.sizeOf12 w cs r v; exact h ht hv⟩
instance : FdT Tryd.prog 148 2 2 := ⟨fun w b o => by have h := run_fieldAt_of (f := 2) Tryd.underlying148 rfl Tryd.sizeOf120 (by decide) w b o; exact h⟩
instance : FlT Tryd.prog 148 2 2 false 1 := ⟨fun w cs r v ht hv => by have h := @run_field_of _ _ _ 2 _ _ _ Tryd.underlying148 rfl Tryd.isAgg120 Tryd.sizeOf120 w cs r v; exact h ht hv⟩
instance : FdT Tryd.prog 148 3 3 := ⟨fun w b o => by have h := run_fieldAt_of (f := 3) Tryd.underlying148 rfl Tryd.sizeOf142 (by decide) w b o; exact h⟩
instance : FlT Tryd.prog 148 3 3 false 1 := ⟨fun w cs r v ht hv => by have h := @run_field_of _ _ _ 3 _ _ _ Tryd.underlying148 rfl Tryd.isAgg142 Tryd.sizeOf142 w cs r v; exact h ht hv⟩
instance : FdT Tryd.prog 148 4 4 := ⟨fun w b o => by have h := run_fieldAt_of (f := 4) Tryd.underlying148 rfl Tryd.sizeOf5 (by decide) w b o; exact h⟩
instance : FlT Tryd.prog 148 4 4 false 1 := ⟨fun w cs r v ht hv => by have h := @run_field_of _ _ _ 4 _ _ _ Tryd.underlying148 rfl Tryd.isAgg5 Tryd.sizeOf5 w cs r v; exact h ht hv⟩
instance : FdT Tryd.prog 148 5 5 := ⟨fun w b o => by have h := run_fieldAt_of (f := 5) Tryd.underlying148 rfl Tryd.sizeOf5 (by decide) w b o; exact h⟩
instance : FlT Tryd.prog 148 5 5 false 1 := ⟨fun w cs r v ht hv => by have h := @run_field_of _ _ _ 5 _ _ _ Tryd.underlying148 rfl Tryd.isAgg5 Tryd.sizeOf5 w cs r v; exact h ht hv⟩
instance : FdT Tryd.prog 148 6 6 := ⟨fun w b o => by have h := run_fieldAt_of (f := 6) Tryd.underlying148 rfl Tryd.sizeOf143 (by decide) w b o; exact h⟩
instance : FlT Tryd.prog 148 6 6 false 1 := ⟨fun w cs r v ht hv => by have h := @run_field_of _ _ _ 6 _ _ _ Tryd.underlying148 rfl Tryd.isAgg143 Tryd.sizeOf143 w cs r v; exact h ht hv⟩
instance : FdT Tryd.prog 148 7 7 := ⟨fun w b o => by have h := run_fieldAt_of (f := 7) Tryd.underlying148 rfl Tryd.sizeOf144 (by decide) w b o; exact h⟩
instance : FlT Tryd.prog 148 7 7 false 1 := ⟨fun w cs r v ht hv => by have h := @run_field_of _ _ _ 7 _ _ _ Tryd.underlying148 rfl Tryd.isAgg144 Tryd.sizeOf144 w cs r v; exact h ht hv⟩
instance : FdT Tryd.prog 148 8 8 := ⟨fun w b o => by have h := run_fieldAt_of (f := 8) Tryd.underlying148 rfl Tryd.sizeOf116 (by decide) w b o; exact h⟩
instance : FlT Tryd.prog 148 8 8 false 1 := ⟨fun w cs r v ht hv => by have h := @run_field_of _ _ _ 8 _ _ _ Tryd.underlying148 rfl Tryd.isAgg116 Tryd.sizeOf116 w cs r v; exact h ht hv⟩
instance : FdT Tryd.prog 148 9 9 := ⟨fun w b o => by have h := run_fieldAt_of (f := 9) Tryd.underlying148 rfl Tryd.sizeOf145 (by decide) w b o; exact h⟩
instance : FlT Tryd.prog 148 9 9 false 1 := ⟨fun w cs r v ht hv => by have h := @run_field_of _ _ _ 9 _ _ _ Tryd.underlying148 rfl Tryd.isAgg145 Tryd.sizeOf145 w cs r v; exact h ht hv⟩
instance : FdT Tryd.prog 148 10 10 := ⟨fun w b o => by have h := run_fieldAt_of (f := 10) Tryd.underlying148 rfl Tryd.sizeOf146 (by decide) w b o; exact h⟩
instance : FlT Tryd.prog 148 10 10 false 1 := ⟨fun w cs r v ht hv => by have h := @run_field_of _ _ _ 10 _ _ _ Tryd.underlying148 rfl Tryd.isAgg146 Tryd.sizeOf146 w cs r v; exact h ht hv⟩
instance : BdT Tryd.prog 7 [(0, 1), (1, 1), (2, 1), (3, 1)] [.int .i64 0, .int .i64 0, .bool false, .int .u8 0] := bdT_of Tryd.underlying7 Tryd.zeroValue7 rfl (fun w => by simp)
instance : BdT Tryd.prog 8 [(0, 1), (1, 1), (2, 1), (3, 1)] [.int .i64 0, .int .i64 0, .bool false, .int .u8 0] := bdT_of Tryd.underlying8 Tryd.zeroValue8 rfl (fun w => by simp)
instance : BdT Tryd.prog 13 [(0, 1), (1, 1)] [.string ⟨#[]⟩, .int .u64 0] := bdT_of Tryd.underlying13 Tryd.zeroValue13 rfl (fun w => by simp)
instance : BdT Tryd.prog 14 [(0, 1), (1, 1)] [.string ⟨#[]⟩, .int .u64 0] := bdT_of Tryd.underlying14 Tryd.zeroValue14 rfl (fun w => by simp)
instance : BdT Tryd.prog 23 [(0, 1), (1, 1), (2, 1)] [.int .i64 0, .int .i64 0, .slice none 0 0] := bdT_of Tryd.underlying23 Tryd.zeroValue23 rfl (fun w => by simp)
instance : BdT Tryd.prog 24 [(0, 1), (1, 1), (2, 1)] [.int .i64 0, .int .i64 0, .slice none 0 0] := bdT_of Tryd.underlying24 Tryd.zeroValue24 rfl (fun w => by simp)
instance : BdT Tryd.prog 28 [(0, 1), (1, 1), (2, 1)] [.int .i64 0, .int .i64 0, .slice none 0 0] := bdT_of Tryd.underlying28 Tryd.zeroValue28 rfl (fun w => by simp)
instance : BdT Tryd.prog 29 [(0, 1), (1, 1), (2, 1)] [.int .i64 0, .int .i64 0, .slice none 0 0] := bdT_of Tryd.underlying29 Tryd.zeroValue29 rfl (fun w => by simp)
instance : BdT Tryd.prog 33 [(0, 1), (1, 1), (2, 1), (3, 1)] [.int .i64 0, .int .i64 0, .int .i64 0, .slice none 0 0] := bdT_of Tryd.underlying33 Tryd.zeroValue33 rfl (fun w => by simp)
instance : BdT Tryd.prog 34 [(0, 1), (1, 1), (2, 1), (3, 1)] [.int .i64 0, .int .i64 0, .int .i64 0, .slice none 0 0] := bdT_of Tryd.underlying34 Tryd.zeroValue34 rfl (fun w => by simp)
instance : BdT Tryd.prog 37 [(0, 1), (1, 1), (2, 1), (3, 1)] [.int .i64 0, .int .i64 0, .int .i64 0, .slice none 0 0] := bdT_of Tryd.underlying37 Tryd.zeroValue37 rfl (fun w => by simp)
instance : BdT Tryd.prog 38 [(0, 1), (1, 1), (2, 1), (3, 1)] [.int .i64 0, .int .i64 0, .int .i64 0, .slice none 0 0] := bdT_of Tryd.underlying38 Tryd.zeroValue38 rfl (fun w => by simp)
instance : BdT Tryd.prog 44 [(0, 1), (1, 1), (2, 1), (3, 1)] [.int .i64 0, .int .i64 0, .slice none 0 0, .slice none 0 0] := bdT_of Tryd.underlying44 Tryd.zeroValue44 rfl (fun w => by simp)
instance : BdT Tryd.prog 45 [(0, 1), (1, 1), (2, 1), (3, 1)] [.int .i64 0, .int .i64 0, .slice none 0 0, .slice none 0 0] := bdT_of Tryd.underlying45 Tryd.zeroValue45 rfl (fun w => by simp)
instance : BdT Tryd.prog 49 [(0, 1), (1, 1), (2, 1), (3, 1)] [.int .i64 0, .int .i64 0, .slice none 0 0, .slice none 0 0] := bdT_of Tryd.underlying49 Tryd.zeroValue49 rfl (fun w => by simp)
instance : BdT Tryd.prog 50 [(0, 1), (1, 1), (2, 1), (3, 1)] [.int .i64 0, .int .i64 0, .slice none 0 0, .slice none 0 0] := bdT_of Tryd.underlying50 Tryd.zeroValue50 rfl (fun w => by simp)
instance : BdT Tryd.prog 69 [(0, 1), (1, 1), (2, 1)] [.int .i64 0, .int .i64 0, .slice none 0 0] := bdT_of Tryd.underlying69 Tryd.zeroValue69 rfl (fun w => by simp)
instance : BdT Tryd.prog 70 [(0, 1), (1, 1), (2, 1)] [.int .i64 0, .int .i64 0, .slice none 0 0] := bdT_of Tryd.underlying70 Tryd.zeroValue70 rfl (fun w => by simp)
instance : BdT Tryd.prog 72 [(0, 1), (1, 1), (2, 1)] [.int .i64 0, .int .i64 0, .slice none 0 0] := bdT_of Tryd.underlying72 Tryd.zeroValue72 rfl (fun w => by simp)
instance : BdT Tryd.prog 88 [(0, 1), (1, 1), (2, 1)] [.slice none 0 0, .slice none 0 0, .int .i64 0] := bdT_of Tryd.underlying88 Tryd.zeroValue88 rfl (fun w => by simp)
instance : BdT Tryd.prog 89 [(0, 1), (1, 1), (2, 1)] [.slice none 0 0, .slice none 0 0, .int .i64 0] := bdT_of Tryd.underlying89 Tryd.zeroValue89 rfl (fun w => by simp)
instance : BdT Tryd.prog 128 [(0, 1), (1, 1)] [.int .u8 0, .int .u8 0] := bdT_of Tryd.underlying128 Tryd.zeroValue128 rfl (fun w => by simp)
instance : BdT Tryd.prog 129 [(0, 1), (1, 1)] [.int .u8 0, .int .u8 0] := bdT_of Tryd.underlying129 Tryd.zeroValue129 rfl (fun w => by simp)
instance : CallT Tryd.prog 3 := ⟨Tryd.call3⟩
instance : CallT Tryd.prog 4 := ⟨Tryd.call4⟩
instance : CallT Tryd.prog 5 := ⟨Tryd.call5⟩
instance : CallT Tryd.prog 6 := ⟨Tryd.call6⟩
instance : CallT Tryd.prog 7 := ⟨Tryd.call7⟩
instance : CallT Tryd.prog 8 := ⟨Tryd.call8⟩
instance : CallT Tryd.prog 9 := ⟨Tryd.call9⟩
instance : CallT Tryd.prog 10 := ⟨Tryd.call10⟩
instance : CallT Tryd.prog 11 := ⟨Tryd.call11⟩
instance : CallT Tryd.prog 12 := ⟨Tryd.call12⟩
instance : CallT Tryd.prog 13 := ⟨Tryd.call13⟩
instance : CallT Tryd.prog 14 := ⟨Tryd.call14⟩
instance : CallT Tryd.prog 15 := ⟨Tryd.call15⟩
instance : CallT Tryd.prog 16 := ⟨Tryd.call16⟩
instance : CallT Tryd.prog 17 := ⟨Tryd.call17⟩
instance : CallT Tryd.prog 18 := ⟨Tryd.call18⟩
instance : CallT Tryd.prog 19 := ⟨Tryd.call19⟩
instance : CallT Tryd.prog 20 := ⟨Tryd.call20⟩
instance : CallT Tryd.prog 21 := ⟨Tryd.call21⟩
instance : CallT Tryd.prog 22 := ⟨Tryd.call22⟩
instance : CallT Tryd.prog 23 := ⟨Tryd.call23⟩
instance : CallT Tryd.prog 24 := ⟨Tryd.call24⟩
instance : CallT Tryd.prog 25 := ⟨Tryd.call25⟩
instance : CallT Tryd.prog 26 := ⟨Tryd.call26⟩
instance : CallT Tryd.prog 27 := ⟨Tryd.call27⟩
instance : CallT Tryd.prog 28 := ⟨Tryd.call28⟩
instance : CallT Tryd.prog 29 := ⟨Tryd.call29⟩
instance : CallT Tryd.prog 30 := ⟨Tryd.call30⟩
instance : CallT Tryd.prog 31 := ⟨Tryd.call31⟩
instance : CallT Tryd.prog 32 := ⟨Tryd.call32⟩
instance : CallT Tryd.prog 33 := ⟨Tryd.call33⟩
instance : CallT Tryd.prog 34 := ⟨Tryd.call34⟩
instance : CallT Tryd.prog 35 := ⟨Tryd.call35⟩
instance : CallT Tryd.prog 36 := ⟨Tryd.call36⟩
instance : CallT Tryd.prog 37 := ⟨Tryd.call37⟩
instance : CallT Tryd.prog 38 := ⟨Tryd.call38⟩
instance : CallT Tryd.prog 39 := ⟨Tryd.call39⟩
instance : CallT Tryd.prog 40 := ⟨Tryd.call40⟩
instance : CallT Tryd.prog 41 := ⟨Tryd.call41⟩
instance : CallT Tryd.prog 42 := ⟨Tryd.call42⟩
instance : CallT Tryd.prog 43 := ⟨Tryd.call43⟩
instance : CallT Tryd.prog 44 := ⟨Tryd.call44⟩
instance : CallT Tryd.prog 45 := ⟨Tryd.call45⟩
instance : CallT Tryd.prog 46 := ⟨Tryd.call46⟩
instance : CallT Tryd.prog 47 := ⟨Tryd.call47⟩
instance : CallT Tryd.prog 48 := ⟨Tryd.call48⟩
instance : CallT Tryd.prog 49 := ⟨Tryd.call49⟩
instance : CallT Tryd.prog 50 := ⟨Tryd.call50⟩
instance : CallT Tryd.prog 51 := ⟨Tryd.call51⟩
instance : CallT Tryd.prog 52 := ⟨Tryd.call52⟩
instance : CallT Tryd.prog 53 := ⟨Tryd.call53⟩
instance : CallT Tryd.prog 54 := ⟨Tryd.call54⟩
instance : CallT Tryd.prog 55 := ⟨Tryd.call55⟩
instance : CallT Tryd.prog 56 := ⟨Tryd.call56⟩
instance : CallT Tryd.prog 57 := ⟨Tryd.call57⟩
instance : CallT Tryd.prog 58 := ⟨Tryd.call58⟩
instance : CallT Tryd.prog 59 := ⟨Tryd.call59⟩
instance : CallT Tryd.prog 60 := ⟨Tryd.call60⟩
instance : CallT Tryd.prog 61 := ⟨Tryd.call61⟩
instance : CallT Tryd.prog 62 := ⟨Tryd.call62⟩
instance : CallT Tryd.prog 63 := ⟨Tryd.call63⟩
instance : CallT Tryd.prog 64 := ⟨Tryd.call64⟩
instance : CallT Tryd.prog 65 := ⟨Tryd.call65⟩
instance : CallT Tryd.prog 66 := ⟨Tryd.call66⟩
instance : CallT Tryd.prog 67 := ⟨Tryd.call67⟩
instance : CallT Tryd.prog 68 := ⟨Tryd.call68⟩
instance : CallT Tryd.prog 69 := ⟨Tryd.call69⟩
instance : CallT Tryd.prog 70 := ⟨Tryd.call70⟩
instance : CallT Tryd.prog 71 := ⟨Tryd.call71⟩
instance : CallT Tryd.prog 72 := ⟨Tryd.call72⟩
instance : CallT Tryd.prog 73 := ⟨Tryd.call73⟩
instance : CallT Tryd.prog 74 := ⟨Tryd.call74⟩
instance : CallT Tryd.prog 75 := ⟨Tryd.call75⟩
instance : CallT Tryd.prog 76 := ⟨Tryd.call76⟩
instance : CallT Tryd.prog 77 := ⟨Tryd.call77⟩
instance : CallT Tryd.prog 78 := ⟨Tryd.call78⟩
instance : CallT Tryd.prog 79 := ⟨Tryd.call79⟩
instance : CallT Tryd.prog 80 := ⟨Tryd.call80⟩
instance : CallT Tryd.prog 81 := ⟨Tryd.call81⟩
instance : CallT Tryd.prog 82 := ⟨Tryd.call82⟩
instance : CallT Tryd.prog 83 := ⟨Tryd.call83⟩
instance : CallT Tryd.prog 84 := ⟨Tryd.call84⟩
instance : CallT Tryd.prog 85 := ⟨Tryd.call85⟩
instance : CallT Tryd.prog 86 := ⟨Tryd.call86⟩
instance : CallT Tryd.prog 87 := ⟨Tryd.call87⟩
instance : CallT Tryd.prog 88 := ⟨Tryd.call88⟩
instance : CallT Tryd.prog 89 := ⟨Tryd.call89⟩
instance : CallT Tryd.prog 91 := ⟨Tryd.call91⟩
instance : CallT Tryd.prog 92 := ⟨Tryd.call92⟩
instance : CallT Tryd.prog 93 := ⟨Tryd.call93⟩
instance : CallT Tryd.prog 94 := ⟨Tryd.call94⟩
instance : CallT Tryd.prog 95 := ⟨Tryd.call95⟩
instance : CallT Tryd.prog 96 := ⟨Tryd.call96⟩
instance : CallT Tryd.prog 97 := ⟨Tryd.call97⟩
instance : CallT Tryd.prog 98 := ⟨Tryd.call98⟩
instance : CallT Tryd.prog 99 := ⟨Tryd.call99⟩
instance : CallT Tryd.prog 100 := ⟨Tryd.call100⟩
instance : CallT Tryd.prog 103 := ⟨Tryd.call103⟩
instance : CallT Tryd.prog 105 := ⟨Tryd.call105⟩
instance : CallT Tryd.prog 106 := ⟨Tryd.call106⟩
instance : CallT Tryd.prog 107 := ⟨Tryd.call107⟩
instance : CallT Tryd.prog 108 := ⟨Tryd.call108⟩
instance : CallT Tryd.prog 110 := ⟨Tryd.call110⟩

end Go.Proofs.YtcmhkkhiipdbbaaDoor
