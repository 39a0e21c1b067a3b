/- Operations as words; names. No condition. -/
import Derived.Test.YtiobmbicldjikaaGreatDoorText

set_option linter.unusedVariables false

namespace Go.Proofs.YtiobmbicldjikaaGreatDoor

theorem index_cons_eq (x : UInt8) (l : List UInt8) : Lib.index (x :: l) [x] = ((0 : Nat) : Int) := by simp [Lib.index]
theorem index_cons_ne {b x : UInt8} (h : b ≠ x) (l : List UInt8) : Lib.index (b :: l) [x] = if Lib.index l [x] == -1 then -1 else Lib.index l [x] + 1 := by
  have hp : ¬ [x].isPrefixOf (b :: l) = true := by
    simp only [List.isPrefixOf, Bool.and_true, beq_iff_eq]
    exact fun h' => h h'.symm
  rw [Lib.index, if_neg hp]
theorem replaceK_one (x y : UInt8) : ∀ s : List UInt8, Lib.replaceK [x] [y] (Lib.count s [x]) s = s.map fun c => if c = x then y else c
  | [] => by
    have : Lib.index [] [x] = -1 := rfl
    rw [Lib.count_miss this]; rfl
  | b :: l => by
    have ih := replaceK_one x y l
    by_cases hb : b = x
    · subst hb
      rw [Lib.count_hit (by simp) (index_cons_eq b l), Nat.add_comm, Lib.replaceK_hit _ _ _ _ 0 (index_cons_eq b l)]
      simpa using ih
    · have hi := index_cons_ne hb l
      rcases Lib.index_spec l [x] with ⟨h1, _⟩ | ⟨i, h1, _⟩
      · rw [h1] at hi
        have hi' : Lib.index (b :: l) [x] = -1 := by simpa using hi
        rw [Lib.count_miss h1] at ih
        rw [Lib.count_miss hi', List.map_cons, ← ih]
        simp [Lib.replaceK, hb]
      · have hne : ¬ ((i : Int) == -1) = true := by simp
        rw [h1, if_neg hne] at hi
        have hi' : Lib.index (b :: l) [x] = ((i + 1 : Nat) : Int) := by rw [hi]; omega
        rw [Lib.count_hit (by simp) h1, Nat.add_comm, Lib.replaceK_hit _ _ _ _ i h1] at ih
        rw [Lib.count_hit (by simp) hi', Nat.add_comm, Lib.replaceK_hit _ _ _ _ (i + 1) hi', List.map_cons, ← ih]
        simp [hb]
def cm (c : UInt8) : UInt8 := if c = 32 then 44 else c
theorem replaceAll_one (s : List UInt8) : Lib.replaceAll s [32] [44] = s.map cm := by
  unfold Lib.replaceAll Lib.replace Lib.replaceNum
  rw [if_neg (by decide), if_pos (.inl (by decide))]
  exact replaceK_one 32 44 s
theorem opT_len (l : List DPart) : (opT l).length ≤ 2800002000 := by
  unfold opT
  split
  · split
    · simp
    · have := join_len [32] 1400000 ((opNorm l).map partT) (fun x hx => by obtain ⟨p, hp, rfl⟩ := List.mem_map.1 hx; exact partT_len (opNorm_mem l p hp))
      have h2 := opNorm_len l
      rw [List.length_map] at this
      simp only [List.length_cons, List.length_nil] at this
      omega
  · simp
def opW (l : List DPart) : List UInt8 := (opT l).map cm
theorem iOpW_c (W : World) (hL : LibOk W) {a : Option Addr} {cap : Nat} {l : List DPart} (hl : RdS W a cap l) : CR Tryz.prog 49 [.slice a l.length cap] W (Is (.string (str (opW l)))) := by
  have hlen := opT_len l
  have hc := Lib.countB_le (str [32]) (by decide) (opT l).length (str (opT l)) (Nat.le_refl _)
  rw [str_size] at hc
  have hr : str (Lib.replaceAll (str (opT l)).data.toList (str [32]).data.toList (str [44]).data.toList) = str (opW l) := congrArg str (replaceAll_one (opT l))
  refine calls_j Tryz.func49 rfl rfl rfl ?_
  repeat' (first | (show J _ _ _ _ _ (_ :: _) _ _; refine j_call (fun _ hw => iOpT_c _ (hL.st hw) (hl.st hw)) ?_; rintro _ _ ⟨rfl, rfl⟩) | (show JP _ _ _ _ _ _ _ _ (_ :: _) _ _; refine jp_call (fun _ hw => iOpT_c _ (hL.st hw) (hl.st hw)) ?_) | (show J _ _ _ _ _ (_ :: _) _ _; refine j_call (fun _ hw => replace_c (s := str (opT l)) (old := str [32]) (new := str [44]) _ (hL.st hw) (by rw [str_size]; omega) (by decide) (by simp only [str_size, List.length_cons, List.length_nil]; omega)) ?_; rintro _ _ ⟨rfl, rfl⟩) | (show JP _ _ _ _ _ _ _ _ (_ :: _) _ _; refine jp_call (fun _ hw => replace_c (s := str (opT l)) (old := str [32]) (new := str [44]) _ (hL.st hw) (by rw [str_size]; omega) (by decide) (by simp only [str_size, List.length_cons, List.length_nil]; omega)) ?_) | refine j_nil ?_ | (show J _ _ _ _ _ (_ :: _) _ _; first | refine j_skip ?_ | refine j_skipU ?_ | refine j_alloc (fun _ => ?_) | refine j_box (fun _ => ?_) | refine j_store ?_ | refine j_build ?_ | refine j_buildSlice (fun _ => ?_) | refine j_makeFunc ?_ | refine j_skip0 ?_ | refine j_op ?_ | ((fail_if_success refine j_look ?_); first | refine j_guard_dec (fun _ => ?_) (fun _ => ?_) | refine j_guard_eq (fun _ => ?_) (fun _ => ?_) | refine j_guard_ne (fun _ => ?_) (fun _ => ?_) | refine j_guard_not (fun _ => ?_) (fun _ => ?_) | refine j_guard (fun _ => ?_) (fun _ => ?_))) | (show JC _ _ _ _ _ _ _; first | refine jc_seq ?_ | refine jc_region ?_ | refine jc_lex ?_ | refine jc_skip ?_ | refine jc_block ?_ | refine jc_ret ?_ | refine jc_exit ?_ | refine jc_true ?_ | refine jc_false ?_ | refine jc_dec (fun _ => ?_) (fun _ => ?_) | refine jc_eq (fun _ => ?_) (fun _ => ?_) | refine jc_ne (fun _ => ?_) (fun _ => ?_) | refine jc_not (fun _ => ?_) (fun _ => ?_) | refine jc_cond (fun _ => ?_) (fun _ => ?_)) | (show JP _ _ _ _ _ _ _ _ (_ :: _) _ _; first | refine jp_do ?_ | refine jp_skip ?_ | refine jp_skipU ?_ | refine jp_build ?_ | refine jp_op ?_) | refine jp_nil ?_ | (show JX _ _ _ _ _ _; first | refine jx_qp ?_ | refine jx_then ?_ | refine jx_block ?_ | refine jx_then_ret ?_ | refine jx_block_ret ?_ | refine jx_then_exit ?_ | refine jx_block_here ?_ | refine jx_block_past ?_ | refine jx_is ?_))
  rw [← hr]; rfl
/-! In place -/

def bsAt (B : List UInt8) (k : Nat) : List UInt8 := (B.take k).map cm ++ B.drop k
theorem bsAt_len (B : List UInt8) (k : Nat) : (bsAt B k).length = B.length := by simp [bsAt]; omega
theorem bsAt_get {B : List UInt8} {k : Nat} (h : k < B.length) (h' : k < (bsAt B k).length) : (bsAt B k)[k] = B[k] := by
  simp [bsAt, Nat.min_eq_left (Nat.le_of_lt h)]
theorem bsAt_succ {B : List UInt8} {k : Nat} (h : k < B.length) : bsAt B (k + 1) = (bsAt B k).set k (cm B[k]) := by
  unfold bsAt
  rw [map_take_succ _ h, List.set_append_right _ _ (by simp; omega)]
  rw [show k - (List.map cm (List.take k B)).length = 0 by simp; omega, List.drop_eq_getElem_cons h, List.set_cons_zero]
  simp
theorem bsAt_all (B : List UInt8) : bsAt B B.length = B.map cm := by simp [bsAt]
theorem Slc.elB {a : Option Addr} {cap : Nat} {l : List UInt8} {H : Hp} (h : Slc a cap l H) {i : Nat} (hi : i < l.length) : ∀ x, x ∈ cellsAt (blk a) (ofs a + i * 1) [.int .u8 (l[i].toNat : Int)] → x ∈ H := by
  obtain ⟨c, Hx, ⟨rfl, _⟩, h2, _⟩ := h.subs hi
  exact h2
structure BIx where
  k : Nat
  H : Hp
theorem sOpW_c (W : World) {a : Option Addr} {cap : Nat} {l : List DPart} (hl : RdS W a cap l) : CR Tryz.prog 36 [.slice a l.length cap] W (Is (.string (str (opW l)))) := by
  refine calls_j Tryz.func36 rfl rfl rfl ?_
  repeat' (first | (show J _ _ _ _ _ (_ :: _) _ _; refine j_call (fun _ hw => sOpT_c _ (hl.st hw)) ?_; rintro _ _ ⟨rfl, rfl⟩) | (show JP _ _ _ _ _ _ _ _ (_ :: _) _ _; refine jp_call (fun _ hw => sOpT_c _ (hl.st hw)) ?_) | refine j_nil ?_ | (show J _ _ _ _ _ (_ :: _) _ _; first | refine j_skip ?_ | refine j_skipU ?_ | refine j_alloc (fun _ => ?_) | refine j_box (fun _ => ?_) | refine j_store ?_ | refine j_build ?_ | refine j_buildSlice (fun _ => ?_) | refine j_makeFunc ?_ | refine j_skip0 ?_ | refine j_op ?_ | ((fail_if_success refine j_look ?_); first | refine j_guard_dec (fun _ => ?_) (fun _ => ?_) | refine j_guard_eq (fun _ => ?_) (fun _ => ?_) | refine j_guard_ne (fun _ => ?_) (fun _ => ?_) | refine j_guard_not (fun _ => ?_) (fun _ => ?_) | refine j_guard (fun _ => ?_) (fun _ => ?_))) | (show JC _ _ _ _ _ _ _; first | refine jc_seq ?_ | refine jc_region ?_ | refine jc_lex ?_ | refine jc_skip ?_ | refine jc_block ?_ | refine jc_ret ?_ | refine jc_exit ?_ | refine jc_true ?_ | refine jc_false ?_ | refine jc_dec (fun _ => ?_) (fun _ => ?_) | refine jc_eq (fun _ => ?_) (fun _ => ?_) | refine jc_ne (fun _ => ?_) (fun _ => ?_) | refine jc_not (fun _ => ?_) (fun _ => ?_) | refine jc_cond (fun _ => ?_) (fun _ => ?_)) | (show JP _ _ _ _ _ _ _ _ (_ :: _) _ _; first | refine jp_do ?_ | refine jp_skip ?_ | refine jp_skipU ?_ | refine jp_build ?_ | refine jp_op ?_) | refine jp_nil ?_ | (show JX _ _ _ _ _ _; first | refine jx_qp ?_ | refine jx_then ?_ | refine jx_block ?_ | refine jx_then_ret ?_ | refine jx_block_ret ?_ | refine jx_then_exit ?_ | refine jx_block_here ?_ | refine jx_block_past ?_ | refine jx_is ?_))
  have hb := opT_len l
  refine j_bytes (u := str (opT l)) (by rw [str_size]; omega) (fun a1 cap1 H1 hS => ?_)
  have hadr1 := hS.adr
  repeat' (first | refine j_nil ?_ | (show J _ _ _ _ _ (_ :: _) _ _; first | refine j_skip ?_ | refine j_skipU ?_ | refine j_alloc (fun _ => ?_) | refine j_box (fun _ => ?_) | refine j_store ?_ | refine j_build ?_ | refine j_buildSlice (fun _ => ?_) | refine j_makeFunc ?_ | refine j_skip0 ?_ | refine j_op ?_ | ((fail_if_success refine j_look ?_); first | refine j_guard_dec (fun _ => ?_) (fun _ => ?_) | refine j_guard_eq (fun _ => ?_) (fun _ => ?_) | refine j_guard_ne (fun _ => ?_) (fun _ => ?_) | refine j_guard_not (fun _ => ?_) (fun _ => ?_) | refine j_guard (fun _ => ?_) (fun _ => ?_))) | (show JC _ _ _ _ _ _ _; first | refine jc_seq ?_ | refine jc_region ?_ | refine jc_lex ?_ | refine jc_skip ?_ | refine jc_block ?_ | refine jc_ret ?_ | refine jc_exit ?_ | refine jc_true ?_ | refine jc_false ?_ | refine jc_dec (fun _ => ?_) (fun _ => ?_) | refine jc_eq (fun _ => ?_) (fun _ => ?_) | refine jc_ne (fun _ => ?_) (fun _ => ?_) | refine jc_not (fun _ => ?_) (fun _ => ?_) | refine jc_cond (fun _ => ?_) (fun _ => ?_)) | (show JP _ _ _ _ _ _ _ _ (_ :: _) _ _; first | refine jp_do ?_ | refine jp_skip ?_ | refine jp_skipU ?_ | refine jp_build ?_ | refine jp_op ?_) | refine jp_nil ?_ | (show JX _ _ _ _ _ _; first | refine jx_qp ?_ | refine jx_then ?_ | refine jx_block ?_ | refine jx_then_ret ?_ | refine jx_block_ret ?_ | refine jx_then_exit ?_ | refine jx_block_here ?_ | refine jx_block_past ?_ | refine jx_is ?_))
  rw [show opW l = (opT l).map cm from rfl]
  generalize opT l = B at *
  have hS : Slc a1 cap1 B H1 := hS
  refine jc_loop (fun x : BIx => [(3, .slice a1 B.length cap1), (9, .slice a1 B.length cap1), (10, .int .i64 B.length), (11, .int .i64 x.k)]) (fun x => [x.H])
    (fun x => x.k ≤ B.length ∧ Slc a1 cap1 (bsAt B x.k) x.H) (fun x => B.length - x.k) ⟨0, H1⟩ ⟨by simp, hS⟩ ⟨rfl, rfl, rfl, rfl, trivial⟩ (fun w => St.sel (by repeat (first | exact .nil | apply Sel.cons (by repeat (first | exact .here | exact .e rfl | apply Rm.there))))) ?_
  rintro ⟨k, H⟩ ⟨hk, hS3⟩
  dsimp only at hk hS3 ⊢
  have hadr : Adr a1 B.length := hadr1
  by_cases h : k < B.length
  · have hk' : k < (bsAt B k).length := by rw [bsAt_len]; exact h
    have hsub := hS3.elB hk'
    rw [bsAt_get h hk'] at hsub
    repeat' (first | refine j_nil ?_ | (show J _ _ _ _ _ (_ :: _) _ _; first | refine j_skip ?_ | refine j_skipU ?_ | refine j_alloc (fun _ => ?_) | refine j_box (fun _ => ?_) | refine j_store ?_ | refine j_build ?_ | refine j_buildSlice (fun _ => ?_) | refine j_makeFunc ?_ | refine j_skip0 ?_ | refine j_op ?_ | ((fail_if_success refine j_look ?_); first | refine j_guard_dec (fun _ => ?_) (fun _ => ?_) | refine j_guard_eq (fun _ => ?_) (fun _ => ?_) | refine j_guard_ne (fun _ => ?_) (fun _ => ?_) | refine j_guard_not (fun _ => ?_) (fun _ => ?_) | refine j_guard (fun _ => ?_) (fun _ => ?_))) | (show JC _ _ _ _ _ _ _; first | refine jc_seq ?_ | refine jc_region ?_ | refine jc_lex ?_ | refine jc_skip ?_ | refine jc_block ?_ | refine jc_ret ?_ | refine jc_exit ?_ | refine jc_true ?_ | refine jc_false ?_ | refine jc_dec (fun _ => ?_) (fun _ => ?_) | refine jc_eq (fun _ => ?_) (fun _ => ?_) | refine jc_ne (fun _ => ?_) (fun _ => ?_) | refine jc_not (fun _ => ?_) (fun _ => ?_) | refine jc_cond (fun _ => ?_) (fun _ => ?_)) | (show JP _ _ _ _ _ _ _ _ (_ :: _) _ _; first | refine jp_do ?_ | refine jp_skip ?_ | refine jp_skipU ?_ | refine jp_build ?_ | refine jp_op ?_) | refine jp_nil ?_ | (show JX _ _ _ _ _ _; first | refine jx_qp ?_ | refine jx_then ?_ | refine jx_block ?_ | refine jx_then_ret ?_ | refine jx_block_ret ?_ | refine jx_then_exit ?_ | refine jx_block_here ?_ | refine jx_block_past ?_ | refine jx_is ?_))
    case refine_1 g1 =>
      have hc : B[k] = 32 := UInt8.toNat_inj.1 (by show B[k].toNat = 32; omega)
      obtain ⟨c', Hx', R, ⟨hx1, hx2⟩, op, cl⟩ := hS3.opj hk'
      subst hx1; subst hx2
      obtain ⟨H5, s1, s2⟩ := cl [.int .u8 44] 44 [] ⟨rfl, rfl⟩
      refine J.perm (L' := _ :: _ :: _ :: []) ?_ (fun w hw => op _ _ _ hw)
      repeat' (first | refine j_nil ?_ | (show J _ _ _ _ _ (_ :: _) _ _; first | refine j_skip ?_ | refine j_skipU ?_ | refine j_alloc (fun _ => ?_) | refine j_box (fun _ => ?_) | refine j_store ?_ | refine j_build ?_ | refine j_buildSlice (fun _ => ?_) | refine j_makeFunc ?_ | refine j_skip0 ?_ | refine j_op ?_ | ((fail_if_success refine j_look ?_); first | refine j_guard_dec (fun _ => ?_) (fun _ => ?_) | refine j_guard_eq (fun _ => ?_) (fun _ => ?_) | refine j_guard_ne (fun _ => ?_) (fun _ => ?_) | refine j_guard_not (fun _ => ?_) (fun _ => ?_) | refine j_guard (fun _ => ?_) (fun _ => ?_))) | (show JC _ _ _ _ _ _ _; first | refine jc_seq ?_ | refine jc_region ?_ | refine jc_lex ?_ | refine jc_skip ?_ | refine jc_block ?_ | refine jc_ret ?_ | refine jc_exit ?_ | refine jc_true ?_ | refine jc_false ?_ | refine jc_dec (fun _ => ?_) (fun _ => ?_) | refine jc_eq (fun _ => ?_) (fun _ => ?_) | refine jc_ne (fun _ => ?_) (fun _ => ?_) | refine jc_not (fun _ => ?_) (fun _ => ?_) | refine jc_cond (fun _ => ?_) (fun _ => ?_)) | (show JP _ _ _ _ _ _ _ _ (_ :: _) _ _; first | refine jp_do ?_ | refine jp_skip ?_ | refine jp_skipU ?_ | refine jp_build ?_ | refine jp_op ?_) | refine jp_nil ?_ | (show JX _ _ _ _ _ _; first | refine jx_qp ?_ | refine jx_then ?_ | refine jx_block ?_ | refine jx_then_ret ?_ | refine jx_block_ret ?_ | refine jx_then_exit ?_ | refine jx_block_here ?_ | refine jx_block_past ?_ | refine jx_is ?_))
      refine jx_round ⟨k + 1, H5⟩ ⟨h, by rw [bsAt_succ h, hc]; exact s1⟩ (by show B.length - (k + 1) < B.length - k; omega) ⟨rfl, rfl, rfl, rfl, trivial⟩ (fun w hw => s2 _ _ [] hw)
    case refine_2 g1 =>
      have hc : cm B[k] = B[k] := by unfold cm; rw [if_neg]; intro h'; rw [h'] at g1; exact g1 rfl
      have e : bsAt B (k + 1) = bsAt B k := by rw [bsAt_succ h, hc, ← bsAt_get h hk', List.set_getElem_self]
      refine jx_round ⟨k + 1, H⟩ ⟨h, by rw [e]; exact hS3⟩ (by show B.length - (k + 1) < B.length - k; omega) ⟨rfl, rfl, rfl, rfl, trivial⟩ (fun w => St.sel (by repeat (first | exact .nil | apply Sel.cons (by repeat (first | exact .here | exact .e rfl | apply Rm.there)))))
  · obtain rfl : k = B.length := by omega
    rw [bsAt_all] at hS3
    repeat' (first | refine j_nil ?_ | (show J _ _ _ _ _ (_ :: _) _ _; first | refine j_skip ?_ | refine j_skipU ?_ | refine j_alloc (fun _ => ?_) | refine j_box (fun _ => ?_) | refine j_store ?_ | refine j_build ?_ | refine j_buildSlice (fun _ => ?_) | refine j_makeFunc ?_ | refine j_skip0 ?_ | refine j_op ?_ | ((fail_if_success refine j_look ?_); first | refine j_guard_dec (fun _ => ?_) (fun _ => ?_) | refine j_guard_eq (fun _ => ?_) (fun _ => ?_) | refine j_guard_ne (fun _ => ?_) (fun _ => ?_) | refine j_guard_not (fun _ => ?_) (fun _ => ?_) | refine j_guard (fun _ => ?_) (fun _ => ?_))) | (show JC _ _ _ _ _ _ _; first | refine jc_seq ?_ | refine jc_region ?_ | refine jc_lex ?_ | refine jc_skip ?_ | refine jc_block ?_ | refine jc_ret ?_ | refine jc_exit ?_ | refine jc_true ?_ | refine jc_false ?_ | refine jc_dec (fun _ => ?_) (fun _ => ?_) | refine jc_eq (fun _ => ?_) (fun _ => ?_) | refine jc_ne (fun _ => ?_) (fun _ => ?_) | refine jc_not (fun _ => ?_) (fun _ => ?_) | refine jc_cond (fun _ => ?_) (fun _ => ?_)) | (show JP _ _ _ _ _ _ _ _ (_ :: _) _ _; first | refine jp_do ?_ | refine jp_skip ?_ | refine jp_skipU ?_ | refine jp_build ?_ | refine jp_op ?_) | refine jp_nil ?_ | (show JX _ _ _ _ _ _; first | refine jx_qp ?_ | refine jx_then ?_ | refine jx_block ?_ | refine jx_then_ret ?_ | refine jx_block_ret ?_ | refine jx_then_exit ?_ | refine jx_block_here ?_ | refine jx_block_past ?_ | refine jx_is ?_))
    refine j_q ?_ (q_string (l := B.map cm) (fun w hw => .own hS3 (by repeat (first | exact .here | apply InL.there)) hw) rfl (by rw [List.length_map]; rfl))
    repeat' (first | refine j_nil ?_ | (show J _ _ _ _ _ (_ :: _) _ _; first | refine j_skip ?_ | refine j_skipU ?_ | refine j_alloc (fun _ => ?_) | refine j_box (fun _ => ?_) | refine j_store ?_ | refine j_build ?_ | refine j_buildSlice (fun _ => ?_) | refine j_makeFunc ?_ | refine j_skip0 ?_ | refine j_op ?_ | ((fail_if_success refine j_look ?_); first | refine j_guard_dec (fun _ => ?_) (fun _ => ?_) | refine j_guard_eq (fun _ => ?_) (fun _ => ?_) | refine j_guard_ne (fun _ => ?_) (fun _ => ?_) | refine j_guard_not (fun _ => ?_) (fun _ => ?_) | refine j_guard (fun _ => ?_) (fun _ => ?_))) | (show JC _ _ _ _ _ _ _; first | refine jc_seq ?_ | refine jc_region ?_ | refine jc_lex ?_ | refine jc_skip ?_ | refine jc_block ?_ | refine jc_ret ?_ | refine jc_exit ?_ | refine jc_true ?_ | refine jc_false ?_ | refine jc_dec (fun _ => ?_) (fun _ => ?_) | refine jc_eq (fun _ => ?_) (fun _ => ?_) | refine jc_ne (fun _ => ?_) (fun _ => ?_) | refine jc_not (fun _ => ?_) (fun _ => ?_) | refine jc_cond (fun _ => ?_) (fun _ => ?_)) | (show JP _ _ _ _ _ _ _ _ (_ :: _) _ _; first | refine jp_do ?_ | refine jp_skip ?_ | refine jp_skipU ?_ | refine jp_build ?_ | refine jp_op ?_) | refine jp_nil ?_ | (show JX _ _ _ _ _ _; first | refine jx_qp ?_ | refine jx_then ?_ | refine jx_block ?_ | refine jx_then_ret ?_ | refine jx_block_ret ?_ | refine jx_then_exit ?_ | refine jx_block_here ?_ | refine jx_block_past ?_ | refine jx_is ?_))
    rfl
/-! ### Names -/

theorem mem_strs (b : Nat) (l : List ByteArray) {i : Nat} (hi : i < l.length) : ∀ x, x ∈ cellsAt b (0 + i * 1) [.string l[i]] → x ∈ cellsAt b 0 (l.map Value.string) := by
  rintro ⟨p, v⟩ hx
  obtain ⟨j, hj, rfl⟩ := mem_cellsAt.1 hx
  have hj0 : j = 0 := by have := (List.getElem?_eq_some_iff.1 hj).1; simpa using this
  subst hj0
  refine mem_cellsAt.2 ⟨i, ?_, by simp⟩
  simp only [List.getElem?_cons_zero, Option.some.injEq] at hj
  rw [List.getElem?_map, List.getElem?_eq_getElem hi]
  simp [hj]
def otNames : List ByteArray := [⟨#[111, 107]⟩, ⟨#[105, 110, 118, 97, 108, 105, 100]⟩, ⟨#[102, 117, 116, 117, 114, 101]⟩, ⟨#[111, 108, 100]⟩, ⟨#[115, 101, 113]⟩, ⟨#[108, 97, 114, 103, 101]⟩, ⟨#[110, 111, 100, 111, 99]⟩, ⟨#[104, 97, 118, 101]⟩, ⟨#[110, 111, 115, 117, 98]⟩, ⟨#[101, 118, 105, 99, 116, 101, 100]⟩, ⟨#[102, 117, 108, 108]⟩, ⟨#[98, 117, 115, 121]⟩, ⟨#[99, 108, 111, 115, 101, 100]⟩]
def evNames : List ByteArray := [⟨#[101, 100, 105, 116]⟩, ⟨#[115, 101, 110, 100]⟩, ⟨#[108, 111, 115, 101]⟩, ⟨#[97, 103, 97, 105, 110]⟩, ⟨#[116, 97, 107, 101]⟩, ⟨#[97, 110, 101, 119]⟩]
def evNames0 : List ByteArray := [⟨#[]⟩, ⟨#[101, 100, 105, 116]⟩, ⟨#[115, 101, 110, 100]⟩, ⟨#[108, 111, 115, 101]⟩, ⟨#[97, 103, 97, 105, 110]⟩, ⟨#[116, 97, 107, 101]⟩, ⟨#[97, 110, 101, 119]⟩]
def otName (z : Int) : ByteArray := if h : z.toNat < otNames.length ∧ inR z 0 12 = true then otNames[z.toNat]'h.1 else ⟨#[]⟩
theorem otName_no {z : Int} (h : inR z 0 12 = false) : otName z = ⟨#[]⟩ := by unfold otName; rw [dif_neg (by rw [h]; simp)]
theorem otName_in {z : Int} (h : inR z 0 12 = true) (hi : z.toNat < otNames.length) : otName z = otNames[z.toNat] := by unfold otName; rw [dif_pos ⟨hi, h⟩]
def evName (z : Int) : ByteArray := if h : z.toNat < evNames0.length ∧ inR z 1 6 = true then evNames0[z.toNat]'h.1 else ⟨#[]⟩
theorem evName_no {z : Int} (h : inR z 1 6 = false) : evName z = ⟨#[]⟩ := by unfold evName; rw [dif_neg (by rw [h]; simp)]
theorem evName_in {z : Int} (h : inR z 1 6 = true) (hi : z.toNat < evNames0.length) : evName z = evNames0[z.toNat] := by unfold evName; rw [dif_pos ⟨hi, h⟩]
theorem evName_in' {z : Int} (h : inR z 1 6 = true) (hi : (z - 1).toNat < evNames.length) : evName z = evNames[(z - 1).toNat] := by
  have hr := h
  simp only [inR, Bool.and_eq_true, decide_eq_true_eq] at hr
  have : z = 1 ∨ z = 2 ∨ z = 3 ∨ z = 4 ∨ z = 5 ∨ z = 6 := by omega
  rcases this with rfl | rfl | rfl | rfl | rfl | rfl <;> rfl
theorem iEvName_c (W : World) (z : Int) : CR Tryz.prog 59 [.int .i64 z] W (Is (.string (evName z))) := by
  refine calls_j Tryz.func59 rfl rfl rfl ?_
  by_cases h : inR z 1 6 = true
  · have hr := h
    simp only [inR, Bool.and_eq_true, decide_eq_true_eq] at hr
    have hi : (z - 1).toNat < evNames.length := by show (z - 1).toNat < 6; omega
    repeat' (first | (show J _ _ _ _ _ (_ :: _) _ _; refine j_call (fun _ hw => within_c _ _ _ _) ?_; rintro _ _ ⟨rfl, rfl⟩) | (show JP _ _ _ _ _ _ _ _ (_ :: _) _ _; refine jp_call (fun _ hw => within_c _ _ _ _) ?_) | refine j_nil ?_ | (show J _ _ _ _ _ (_ :: _) _ _; first | refine j_skip ?_ | refine j_skipU ?_ | refine j_alloc (fun _ => ?_) | refine j_box (fun _ => ?_) | refine j_store ?_ | refine j_build ?_ | refine j_buildSlice (fun _ => ?_) | refine j_makeFunc ?_ | refine j_skip0 ?_ | refine j_op ?_ | ((fail_if_success refine j_look ?_); first | refine j_guard_dec (fun _ => ?_) (fun _ => ?_) | refine j_guard_eq (fun _ => ?_) (fun _ => ?_) | refine j_guard_ne (fun _ => ?_) (fun _ => ?_) | refine j_guard_not (fun _ => ?_) (fun _ => ?_) | refine j_guard (fun _ => ?_) (fun _ => ?_))) | (show JC _ _ _ _ _ _ _; first | refine jc_seq ?_ | refine jc_region ?_ | refine jc_lex ?_ | refine jc_skip ?_ | refine jc_block ?_ | refine jc_ret ?_ | refine jc_exit ?_ | refine jc_true ?_ | refine jc_false ?_ | refine jc_dec (fun _ => ?_) (fun _ => ?_) | refine jc_eq (fun _ => ?_) (fun _ => ?_) | refine jc_ne (fun _ => ?_) (fun _ => ?_) | refine jc_not (fun _ => ?_) (fun _ => ?_) | refine jc_cond (fun _ => ?_) (fun _ => ?_)) | (show JP _ _ _ _ _ _ _ _ (_ :: _) _ _; first | refine jp_do ?_ | refine jp_skip ?_ | refine jp_skipU ?_ | refine jp_build ?_ | refine jp_op ?_) | refine jp_nil ?_ | (show JX _ _ _ _ _ _; first | refine jx_qp ?_ | refine jx_then ?_ | refine jx_block ?_ | refine jx_then_ret ?_ | refine jx_block_ret ?_ | refine jx_then_exit ?_ | refine jx_block_here ?_ | refine jx_block_past ?_ | refine jx_is ?_))
    rename_i b
    refine j_q ?_ (q_load rfl rfl (src_sub (mem_strs b evNames hi) (by repeat (first | exact .here | apply InL.there))) (.take .done) .one) rfl rfl .none
    repeat' (first | refine j_nil ?_ | (show J _ _ _ _ _ (_ :: _) _ _; first | refine j_skip ?_ | refine j_skipU ?_ | refine j_alloc (fun _ => ?_) | refine j_box (fun _ => ?_) | refine j_store ?_ | refine j_build ?_ | refine j_buildSlice (fun _ => ?_) | refine j_makeFunc ?_ | refine j_skip0 ?_ | refine j_op ?_ | ((fail_if_success refine j_look ?_); first | refine j_guard_dec (fun _ => ?_) (fun _ => ?_) | refine j_guard_eq (fun _ => ?_) (fun _ => ?_) | refine j_guard_ne (fun _ => ?_) (fun _ => ?_) | refine j_guard_not (fun _ => ?_) (fun _ => ?_) | refine j_guard (fun _ => ?_) (fun _ => ?_))) | (show JC _ _ _ _ _ _ _; first | refine jc_seq ?_ | refine jc_region ?_ | refine jc_lex ?_ | refine jc_skip ?_ | refine jc_block ?_ | refine jc_ret ?_ | refine jc_exit ?_ | refine jc_true ?_ | refine jc_false ?_ | refine jc_dec (fun _ => ?_) (fun _ => ?_) | refine jc_eq (fun _ => ?_) (fun _ => ?_) | refine jc_ne (fun _ => ?_) (fun _ => ?_) | refine jc_not (fun _ => ?_) (fun _ => ?_) | refine jc_cond (fun _ => ?_) (fun _ => ?_)) | (show JP _ _ _ _ _ _ _ _ (_ :: _) _ _; first | refine jp_do ?_ | refine jp_skip ?_ | refine jp_skipU ?_ | refine jp_build ?_ | refine jp_op ?_) | refine jp_nil ?_ | (show JX _ _ _ _ _ _; first | refine jx_qp ?_ | refine jx_then ?_ | refine jx_block ?_ | refine jx_then_ret ?_ | refine jx_block_ret ?_ | refine jx_then_exit ?_ | refine jx_block_here ?_ | refine jx_block_past ?_ | refine jx_is ?_))
    rw [evName_in' h hi]; rfl
  · have h := Bool.eq_false_iff.2 h
    repeat' (first | (show J _ _ _ _ _ (_ :: _) _ _; refine j_call (fun _ hw => within_c _ _ _ _) ?_; rintro _ _ ⟨rfl, rfl⟩) | (show JP _ _ _ _ _ _ _ _ (_ :: _) _ _; refine jp_call (fun _ hw => within_c _ _ _ _) ?_) | refine j_nil ?_ | (show J _ _ _ _ _ (_ :: _) _ _; first | refine j_skip ?_ | refine j_skipU ?_ | refine j_alloc (fun _ => ?_) | refine j_box (fun _ => ?_) | refine j_store ?_ | refine j_build ?_ | refine j_buildSlice (fun _ => ?_) | refine j_makeFunc ?_ | refine j_skip0 ?_ | refine j_op ?_ | ((fail_if_success refine j_look ?_); first | refine j_guard_dec (fun _ => ?_) (fun _ => ?_) | refine j_guard_eq (fun _ => ?_) (fun _ => ?_) | refine j_guard_ne (fun _ => ?_) (fun _ => ?_) | refine j_guard_not (fun _ => ?_) (fun _ => ?_) | refine j_guard (fun _ => ?_) (fun _ => ?_))) | (show JC _ _ _ _ _ _ _; first | refine jc_seq ?_ | refine jc_region ?_ | refine jc_lex ?_ | refine jc_skip ?_ | refine jc_block ?_ | refine jc_ret ?_ | refine jc_exit ?_ | refine jc_true ?_ | refine jc_false ?_ | refine jc_dec (fun _ => ?_) (fun _ => ?_) | refine jc_eq (fun _ => ?_) (fun _ => ?_) | refine jc_ne (fun _ => ?_) (fun _ => ?_) | refine jc_not (fun _ => ?_) (fun _ => ?_) | refine jc_cond (fun _ => ?_) (fun _ => ?_)) | (show JP _ _ _ _ _ _ _ _ (_ :: _) _ _; first | refine jp_do ?_ | refine jp_skip ?_ | refine jp_skipU ?_ | refine jp_build ?_ | refine jp_op ?_) | refine jp_nil ?_ | (show JX _ _ _ _ _ _; first | refine jx_qp ?_ | refine jx_then ?_ | refine jx_block ?_ | refine jx_then_ret ?_ | refine jx_block_ret ?_ | refine jx_then_exit ?_ | refine jx_block_here ?_ | refine jx_block_past ?_ | refine jx_is ?_))
    rw [evName_no h]; rfl
theorem sEvName_c (W : World) (z : Int) : CR Tryz.prog 54 [.int .i64 z] W (Is (.string (evName z))) := by
  refine calls_j Tryz.func54 rfl rfl rfl ?_
  by_cases h : inR z 1 6 = true
  · have hr := h
    simp only [inR, Bool.and_eq_true, decide_eq_true_eq] at hr
    have hi : (z).toNat < evNames0.length := by show (z).toNat < 7; omega
    repeat' (first | (show J _ _ _ _ _ (_ :: _) _ _; refine j_call (fun _ hw => l01In_c _ _ _ _) ?_; rintro _ _ ⟨rfl, rfl⟩) | (show JP _ _ _ _ _ _ _ _ (_ :: _) _ _; refine jp_call (fun _ hw => l01In_c _ _ _ _) ?_) | refine j_nil ?_ | (show J _ _ _ _ _ (_ :: _) _ _; first | refine j_skip ?_ | refine j_skipU ?_ | refine j_alloc (fun _ => ?_) | refine j_box (fun _ => ?_) | refine j_store ?_ | refine j_build ?_ | refine j_buildSlice (fun _ => ?_) | refine j_makeFunc ?_ | refine j_skip0 ?_ | refine j_op ?_ | ((fail_if_success refine j_look ?_); first | refine j_guard_dec (fun _ => ?_) (fun _ => ?_) | refine j_guard_eq (fun _ => ?_) (fun _ => ?_) | refine j_guard_ne (fun _ => ?_) (fun _ => ?_) | refine j_guard_not (fun _ => ?_) (fun _ => ?_) | refine j_guard (fun _ => ?_) (fun _ => ?_))) | (show JC _ _ _ _ _ _ _; first | refine jc_seq ?_ | refine jc_region ?_ | refine jc_lex ?_ | refine jc_skip ?_ | refine jc_block ?_ | refine jc_ret ?_ | refine jc_exit ?_ | refine jc_true ?_ | refine jc_false ?_ | refine jc_dec (fun _ => ?_) (fun _ => ?_) | refine jc_eq (fun _ => ?_) (fun _ => ?_) | refine jc_ne (fun _ => ?_) (fun _ => ?_) | refine jc_not (fun _ => ?_) (fun _ => ?_) | refine jc_cond (fun _ => ?_) (fun _ => ?_)) | (show JP _ _ _ _ _ _ _ _ (_ :: _) _ _; first | refine jp_do ?_ | refine jp_skip ?_ | refine jp_skipU ?_ | refine jp_build ?_ | refine jp_op ?_) | refine jp_nil ?_ | (show JX _ _ _ _ _ _; first | refine jx_qp ?_ | refine jx_then ?_ | refine jx_block ?_ | refine jx_then_ret ?_ | refine jx_block_ret ?_ | refine jx_then_exit ?_ | refine jx_block_here ?_ | refine jx_block_past ?_ | refine jx_is ?_))
    rename_i b
    refine j_q ?_ (q_load rfl rfl (src_sub (mem_strs b evNames0 hi) (by repeat (first | exact .here | apply InL.there))) (.take .done) .one) rfl rfl .none
    repeat' (first | refine j_nil ?_ | (show J _ _ _ _ _ (_ :: _) _ _; first | refine j_skip ?_ | refine j_skipU ?_ | refine j_alloc (fun _ => ?_) | refine j_box (fun _ => ?_) | refine j_store ?_ | refine j_build ?_ | refine j_buildSlice (fun _ => ?_) | refine j_makeFunc ?_ | refine j_skip0 ?_ | refine j_op ?_ | ((fail_if_success refine j_look ?_); first | refine j_guard_dec (fun _ => ?_) (fun _ => ?_) | refine j_guard_eq (fun _ => ?_) (fun _ => ?_) | refine j_guard_ne (fun _ => ?_) (fun _ => ?_) | refine j_guard_not (fun _ => ?_) (fun _ => ?_) | refine j_guard (fun _ => ?_) (fun _ => ?_))) | (show JC _ _ _ _ _ _ _; first | refine jc_seq ?_ | refine jc_region ?_ | refine jc_lex ?_ | refine jc_skip ?_ | refine jc_block ?_ | refine jc_ret ?_ | refine jc_exit ?_ | refine jc_true ?_ | refine jc_false ?_ | refine jc_dec (fun _ => ?_) (fun _ => ?_) | refine jc_eq (fun _ => ?_) (fun _ => ?_) | refine jc_ne (fun _ => ?_) (fun _ => ?_) | refine jc_not (fun _ => ?_) (fun _ => ?_) | refine jc_cond (fun _ => ?_) (fun _ => ?_)) | (show JP _ _ _ _ _ _ _ _ (_ :: _) _ _; first | refine jp_do ?_ | refine jp_skip ?_ | refine jp_skipU ?_ | refine jp_build ?_ | refine jp_op ?_) | refine jp_nil ?_ | (show JX _ _ _ _ _ _; first | refine jx_qp ?_ | refine jx_then ?_ | refine jx_block ?_ | refine jx_then_ret ?_ | refine jx_block_ret ?_ | refine jx_then_exit ?_ | refine jx_block_here ?_ | refine jx_block_past ?_ | refine jx_is ?_))
    rw [evName_in h hi]; rfl
  · have h := Bool.eq_false_iff.2 h
    repeat' (first | (show J _ _ _ _ _ (_ :: _) _ _; refine j_call (fun _ hw => l01In_c _ _ _ _) ?_; rintro _ _ ⟨rfl, rfl⟩) | (show JP _ _ _ _ _ _ _ _ (_ :: _) _ _; refine jp_call (fun _ hw => l01In_c _ _ _ _) ?_) | refine j_nil ?_ | (show J _ _ _ _ _ (_ :: _) _ _; first | refine j_skip ?_ | refine j_skipU ?_ | refine j_alloc (fun _ => ?_) | refine j_box (fun _ => ?_) | refine j_store ?_ | refine j_build ?_ | refine j_buildSlice (fun _ => ?_) | refine j_makeFunc ?_ | refine j_skip0 ?_ | refine j_op ?_ | ((fail_if_success refine j_look ?_); first | refine j_guard_dec (fun _ => ?_) (fun _ => ?_) | refine j_guard_eq (fun _ => ?_) (fun _ => ?_) | refine j_guard_ne (fun _ => ?_) (fun _ => ?_) | refine j_guard_not (fun _ => ?_) (fun _ => ?_) | refine j_guard (fun _ => ?_) (fun _ => ?_))) | (show JC _ _ _ _ _ _ _; first | refine jc_seq ?_ | refine jc_region ?_ | refine jc_lex ?_ | refine jc_skip ?_ | refine jc_block ?_ | refine jc_ret ?_ | refine jc_exit ?_ | refine jc_true ?_ | refine jc_false ?_ | refine jc_dec (fun _ => ?_) (fun _ => ?_) | refine jc_eq (fun _ => ?_) (fun _ => ?_) | refine jc_ne (fun _ => ?_) (fun _ => ?_) | refine jc_not (fun _ => ?_) (fun _ => ?_) | refine jc_cond (fun _ => ?_) (fun _ => ?_)) | (show JP _ _ _ _ _ _ _ _ (_ :: _) _ _; first | refine jp_do ?_ | refine jp_skip ?_ | refine jp_skipU ?_ | refine jp_build ?_ | refine jp_op ?_) | refine jp_nil ?_ | (show JX _ _ _ _ _ _; first | refine jx_qp ?_ | refine jx_then ?_ | refine jx_block ?_ | refine jx_then_ret ?_ | refine jx_block_ret ?_ | refine jx_then_exit ?_ | refine jx_block_here ?_ | refine jx_block_past ?_ | refine jx_is ?_))
    rw [evName_no h]; rfl
theorem evName_ne {z : Int} (h : inR z 1 6 = true) : evName z ≠ ⟨#[]⟩ := by
  have hr := h
  simp only [inR, Bool.and_eq_true, decide_eq_true_eq] at hr
  have : z = 1 ∨ z = 2 ∨ z = 3 ∨ z = 4 ∨ z = 5 ∨ z = 6 := by omega
  rcases this with rfl | rfl | rfl | rfl | rfl | rfl <;> decide
theorem evName_size (z : Int) : (evName z).size ≤ 10 := by
  unfold evName; split
  · rename_i h
    have : ∀ x ∈ evNames0, x.size ≤ 10 := by decide
    exact this _ (List.getElem_mem _)
  · decide
theorem otName_size (z : Int) : (otName z).size ≤ 10 := by
  unfold otName; split
  · rename_i h
    have : ∀ x ∈ otNames, x.size ≤ 10 := by decide
    exact this _ (List.getElem_mem _)
  · decide
end Go.Proofs.YtiobmbicldjikaaGreatDoor
