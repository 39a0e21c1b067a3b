/- The reference's texts of calls. No condition. -/
import Derived.Test.YtiobmbicldjikaaGreatDoorCallJoin

set_option linter.unusedVariables false

set_option linter.unusedSimpArgs false

namespace Go.Proofs.YtiobmbicldjikaaGreatDoor

theorem Slc.oneS (b : Nat) (s : ByteArray) : Slc (some ⟨b, 0, none⟩) 1 [s] (cellsAt b 0 [.string s]) :=
  .inr ⟨b, 0, [.string s], [], [], rfl, ⟨Nat.le_refl _, by decide⟩, rfl, (fun v h => by cases h), Elems.single (show rep [Value.string s] s [] from ⟨rfl, rfl⟩), by simp⟩
--EIGHT--
theorem sCallT_1 (W : World) {doc : ByteArray} {client seq n : Int} {o : List DPart} {text : List Int} {a0 a1 : Option Addr} {c0 c1 : Nat} (hR : Rd W [.int .i64 1, .string doc, .int .i64 client, .int .i64 seq, .int .i64 n, .slice a0 o.length c0, .slice a1 text.length c1] (⟨1, doc, client, seq, n, o, text⟩ : DCall)) (h5 : RdS W a0 c0 o) (h6 : RdS W a1 c1 text) (h1 : SB doc) (hg : callGood ⟨1, doc, client, seq, n, o, text⟩ = true) :
    CR Tryz.prog 8 [.agg #[.int .i64 1, .string doc, .int .i64 client, .int .i64 seq, .int .i64 n, .slice a0 o.length c0, .slice a1 text.length c1]] W (Is (.string (callT ⟨1, doc, client, seq, n, o, text⟩))) := by
  have hd : callT ⟨1, doc, client, seq, n, o, text⟩ = str (Lib.join (List.map nameL [clName 1, doc, str (signT text)]) [32]) := by
    rw [callT_words hg]
    have e : callWords ⟨1, doc, client, seq, n, o, text⟩ = [nameL (clName 1), nameL (doc), nameL (str (signT text))] := by unfold callWords; simp [onDoc, hasWho, hasN, inR, nameL_str]
    rw [e]; rfl
  obtain ⟨g1, g2, g3, g4, g5, g6, g7, g8, g9⟩ := callGood_parts hg
  dsimp only at g1 g2 g3 g4 g5 g6 g7 g8 g9
  clear hg
  have k0 := cw (W := W) fun w hw => sCallOk_c w (hR.st hw)
  have k1 := cw (W := W) fun w hw => sOpOk_c w (h5.st hw)
  have k2 := cw (W := W) fun w hw => sOnDoc_c w 1
  have k3 := cw (W := W) fun w hw => sNameOk_c w doc h1
  have k4a := cw (W := W) fun w hw => l01In_c w client 0 1000000000
  have k4b := cw (W := W) fun w hw => l01In_c w seq 0 1000000000
  have k4c := cw (W := W) fun w hw => l01In_c w n 0 1000000000
  rw [g3] at k4a
  rw [g4] at k4b
  rw [g5] at k4c
  have k5 := cw (W := W) fun w hw => sClName_c w 1
  have k6 := fun z => cw (W := W) fun w hw => sNum_c w z
  have k7 := cw (W := W) fun w hw => sSignT_c w (h6.st hw) (by omega)
  have k8 := cw (W := W) fun w hw => sOpW_c w (h5.st hw)
  have k9 := cw (W := W) fun w hw => l19Has_c w 1
  rw [g1] at k0
  rw [g2] at k1
  rw [g6 rfl] at k3
  have z0 := clName_size 1
  have z1 := numT_len client
  have z2 := numT_len seq
  have z3 := numT_len n
  have z4 := signT_len text
  have z5 := opW_len o
  clear g6 g7
  refine calls_j Tryz.func8 rfl rfl rfl ?_
  rw [hd]
  clear hd
  refine r1 ?_
  intro b0 b1 b2
  refine j_append0 (α := ByteArray) (Slc.oneS b1 (clName 1)) (Elems.single (show rep [Value.string (doc)] (doc) [] from ⟨rfl, rfl⟩)) (news_src (src_box (by repeat (first | exact .here | apply InL.there))) rfl) (by simp) (fun a2 c2 H1 hS1 => ?_)
  refine r1 ?_
  intro b2
  refine j_append0 (α := ByteArray) hS1 (Elems.single (show rep [Value.string (str (signT text))] (str (signT text)) [] from ⟨rfl, rfl⟩)) (news_src (src_box (by repeat (first | exact .here | apply InL.there))) rfl) (by simp) (fun a3 c3 H2 hS2 => ?_)
  repeat' (first | (show J _ _ _ _ _ (_ :: _) _ _; refine j_call (fun _ hw => sJoin_c _ (.own hS2 (by repeat (first | exact .here | apply InL.there)) hw) (by simp) (by simp only [List.cons_append, List.nil_append, List.mem_cons, List.not_mem_nil, or_false]; intro y hy; rcases hy with rfl | rfl | rfl <;> (try simp only [str_size]) <;> omega)) ?_; rintro _ _ ⟨rfl, rfl⟩) | (show JP _ _ _ _ _ _ _ _ (_ :: _) _ _; refine jp_call (fun _ hw => sJoin_c _ (.own hS2 (by repeat (first | exact .here | apply InL.there)) hw) (by simp) (by simp only [List.cons_append, List.nil_append, List.mem_cons, List.not_mem_nil, or_false]; intro y hy; rcases hy with rfl | rfl | rfl <;> (try simp only [str_size]) <;> omega)) ?_) | refine j_nil ?_ | (show J _ _ _ _ _ (_ :: _) _ _; first | refine j_skip ?_ | refine j_skipU ?_ | refine j_alloc (fun _ => ?_) | refine j_box (fun _ => ?_) | refine j_store ?_ | refine j_build ?_ | refine j_buildSlice (fun _ => ?_) | refine j_makeFunc ?_ | refine j_skip0 ?_ | refine j_op ?_ | ((fail_if_success refine j_look ?_); first | refine j_guard_dec (fun _ => ?_) (fun _ => ?_) | refine j_guard_eq (fun _ => ?_) (fun _ => ?_) | refine j_guard_ne (fun _ => ?_) (fun _ => ?_) | refine j_guard_not (fun _ => ?_) (fun _ => ?_) | refine j_guard (fun _ => ?_) (fun _ => ?_))) | (show JC _ _ _ _ _ _ _; first | refine jc_seq ?_ | refine jc_region ?_ | refine jc_lex ?_ | refine jc_skip ?_ | refine jc_block ?_ | refine jc_ret ?_ | refine jc_exit ?_ | refine jc_true ?_ | refine jc_false ?_ | refine jc_dec (fun _ => ?_) (fun _ => ?_) | refine jc_eq (fun _ => ?_) (fun _ => ?_) | refine jc_ne (fun _ => ?_) (fun _ => ?_) | refine jc_not (fun _ => ?_) (fun _ => ?_) | refine jc_cond (fun _ => ?_) (fun _ => ?_)) | (show JP _ _ _ _ _ _ _ _ (_ :: _) _ _; first | refine jp_do ?_ | refine jp_skip ?_ | refine jp_skipU ?_ | refine jp_build ?_ | refine jp_op ?_) | refine jp_nil ?_ | (show JX _ _ _ _ _ _; first | refine jx_qp ?_ | refine jx_then ?_ | refine jx_block ?_ | refine jx_then_ret ?_ | refine jx_block_ret ?_ | refine jx_then_exit ?_ | refine jx_block_here ?_ | refine jx_block_past ?_ | refine jx_is ?_))
  rfl
theorem sCallT_2 (W : World) {doc : ByteArray} {client seq n : Int} {o : List DPart} {text : List Int} {a0 a1 : Option Addr} {c0 c1 : Nat} (hR : Rd W [.int .i64 2, .string doc, .int .i64 client, .int .i64 seq, .int .i64 n, .slice a0 o.length c0, .slice a1 text.length c1] (⟨2, doc, client, seq, n, o, text⟩ : DCall)) (h5 : RdS W a0 c0 o) (h6 : RdS W a1 c1 text) (h1 : SB doc) (hg : callGood ⟨2, doc, client, seq, n, o, text⟩ = true) :
    CR Tryz.prog 8 [.agg #[.int .i64 2, .string doc, .int .i64 client, .int .i64 seq, .int .i64 n, .slice a0 o.length c0, .slice a1 text.length c1]] W (Is (.string (callT ⟨2, doc, client, seq, n, o, text⟩))) := by
  have hd : callT ⟨2, doc, client, seq, n, o, text⟩ = str (Lib.join (List.map nameL [clName 2, doc, str (numT client), str (numT seq), str (numT n), str (opW o)]) [32]) := by
    rw [callT_words hg]
    have e : callWords ⟨2, doc, client, seq, n, o, text⟩ = [nameL (clName 2), nameL (doc), nameL (str (numT client)), nameL (str (numT seq)), nameL (str (numT n)), nameL (str (opW o))] := by unfold callWords; simp [onDoc, hasWho, hasN, inR, nameL_str]
    rw [e]; rfl
  obtain ⟨g1, g2, g3, g4, g5, g6, g7, g8, g9⟩ := callGood_parts hg
  dsimp only at g1 g2 g3 g4 g5 g6 g7 g8 g9
  clear hg
  have k0 := cw (W := W) fun w hw => sCallOk_c w (hR.st hw)
  have k1 := cw (W := W) fun w hw => sOpOk_c w (h5.st hw)
  have k2 := cw (W := W) fun w hw => sOnDoc_c w 2
  have k3 := cw (W := W) fun w hw => sNameOk_c w doc h1
  have k4a := cw (W := W) fun w hw => l01In_c w client 0 1000000000
  have k4b := cw (W := W) fun w hw => l01In_c w seq 0 1000000000
  have k4c := cw (W := W) fun w hw => l01In_c w n 0 1000000000
  rw [g3] at k4a
  rw [g4] at k4b
  rw [g5] at k4c
  have k5 := cw (W := W) fun w hw => sClName_c w 2
  have k6 := fun z => cw (W := W) fun w hw => sNum_c w z
  have k7 := cw (W := W) fun w hw => sSignT_c w (h6.st hw) (by omega)
  have k8 := cw (W := W) fun w hw => sOpW_c w (h5.st hw)
  have k9 := cw (W := W) fun w hw => l19Has_c w 2
  rw [g1] at k0
  rw [g2] at k1
  rw [g6 rfl] at k3
  have z0 := clName_size 2
  have z1 := numT_len client
  have z2 := numT_len seq
  have z3 := numT_len n
  have z4 := signT_len text
  have z5 := opW_len o
  clear g6 g7
  refine calls_j Tryz.func8 rfl rfl rfl ?_
  rw [hd]
  clear hd
  refine r1 ?_
  intro b0 b1 b2
  refine j_append0 (α := ByteArray) (Slc.oneS b1 (clName 2)) (Elems.single (show rep [Value.string (doc)] (doc) [] from ⟨rfl, rfl⟩)) (news_src (src_box (by repeat (first | exact .here | apply InL.there))) rfl) (by simp) (fun a2 c2 H1 hS1 => ?_)
  refine r1 ?_
  intro b2
  refine j_append0 (α := ByteArray) hS1 (Elems.single (show rep [Value.string (str (numT client))] (str (numT client)) [] from ⟨rfl, rfl⟩)) (news_src (src_box (by repeat (first | exact .here | apply InL.there))) rfl) (by simp) (fun a3 c3 H2 hS2 => ?_)
  refine r1 ?_
  intro b2
  refine j_append0 (α := ByteArray) hS2 (Elems.single (show rep [Value.string (str (numT seq))] (str (numT seq)) [] from ⟨rfl, rfl⟩)) (news_src (src_box (by repeat (first | exact .here | apply InL.there))) rfl) (by simp) (fun a4 c4 H3 hS3 => ?_)
  refine r1 ?_
  intro b2
  refine j_append0 (α := ByteArray) hS3 (Elems.single (show rep [Value.string (str (numT n))] (str (numT n)) [] from ⟨rfl, rfl⟩)) (news_src (src_box (by repeat (first | exact .here | apply InL.there))) rfl) (by simp) (fun a5 c5 H4 hS4 => ?_)
  refine r1 ?_
  intro b2
  refine j_append0 (α := ByteArray) hS4 (Elems.single (show rep [Value.string (str (opW o))] (str (opW o)) [] from ⟨rfl, rfl⟩)) (news_src (src_box (by repeat (first | exact .here | apply InL.there))) rfl) (by simp) (fun a6 c6 H5 hS5 => ?_)
  repeat' (first | (show J _ _ _ _ _ (_ :: _) _ _; refine j_call (fun _ hw => sJoin_c _ (.own hS5 (by repeat (first | exact .here | apply InL.there)) hw) (by simp) (by simp only [List.cons_append, List.nil_append, List.mem_cons, List.not_mem_nil, or_false]; intro y hy; rcases hy with rfl | rfl | rfl | rfl | rfl | rfl <;> (try simp only [str_size]) <;> omega)) ?_; rintro _ _ ⟨rfl, rfl⟩) | (show JP _ _ _ _ _ _ _ _ (_ :: _) _ _; refine jp_call (fun _ hw => sJoin_c _ (.own hS5 (by repeat (first | exact .here | apply InL.there)) hw) (by simp) (by simp only [List.cons_append, List.nil_append, List.mem_cons, List.not_mem_nil, or_false]; intro y hy; rcases hy with rfl | rfl | rfl | rfl | rfl | rfl <;> (try simp only [str_size]) <;> omega)) ?_) | refine j_nil ?_ | (show J _ _ _ _ _ (_ :: _) _ _; first | refine j_skip ?_ | refine j_skipU ?_ | refine j_alloc (fun _ => ?_) | refine j_box (fun _ => ?_) | refine j_store ?_ | refine j_build ?_ | refine j_buildSlice (fun _ => ?_) | refine j_makeFunc ?_ | refine j_skip0 ?_ | refine j_op ?_ | ((fail_if_success refine j_look ?_); first | refine j_guard_dec (fun _ => ?_) (fun _ => ?_) | refine j_guard_eq (fun _ => ?_) (fun _ => ?_) | refine j_guard_ne (fun _ => ?_) (fun _ => ?_) | refine j_guard_not (fun _ => ?_) (fun _ => ?_) | refine j_guard (fun _ => ?_) (fun _ => ?_))) | (show JC _ _ _ _ _ _ _; first | refine jc_seq ?_ | refine jc_region ?_ | refine jc_lex ?_ | refine jc_skip ?_ | refine jc_block ?_ | refine jc_ret ?_ | refine jc_exit ?_ | refine jc_true ?_ | refine jc_false ?_ | refine jc_dec (fun _ => ?_) (fun _ => ?_) | refine jc_eq (fun _ => ?_) (fun _ => ?_) | refine jc_ne (fun _ => ?_) (fun _ => ?_) | refine jc_not (fun _ => ?_) (fun _ => ?_) | refine jc_cond (fun _ => ?_) (fun _ => ?_)) | (show JP _ _ _ _ _ _ _ _ (_ :: _) _ _; first | refine jp_do ?_ | refine jp_skip ?_ | refine jp_skipU ?_ | refine jp_build ?_ | refine jp_op ?_) | refine jp_nil ?_ | (show JX _ _ _ _ _ _; first | refine jx_qp ?_ | refine jx_then ?_ | refine jx_block ?_ | refine jx_then_ret ?_ | refine jx_block_ret ?_ | refine jx_then_exit ?_ | refine jx_block_here ?_ | refine jx_block_past ?_ | refine jx_is ?_))
  rfl
theorem sCallT_3 (W : World) {doc : ByteArray} {client seq n : Int} {o : List DPart} {text : List Int} {a0 a1 : Option Addr} {c0 c1 : Nat} (hR : Rd W [.int .i64 3, .string doc, .int .i64 client, .int .i64 seq, .int .i64 n, .slice a0 o.length c0, .slice a1 text.length c1] (⟨3, doc, client, seq, n, o, text⟩ : DCall)) (h5 : RdS W a0 c0 o) (h6 : RdS W a1 c1 text) (h1 : SB doc) (hg : callGood ⟨3, doc, client, seq, n, o, text⟩ = true) :
    CR Tryz.prog 8 [.agg #[.int .i64 3, .string doc, .int .i64 client, .int .i64 seq, .int .i64 n, .slice a0 o.length c0, .slice a1 text.length c1]] W (Is (.string (callT ⟨3, doc, client, seq, n, o, text⟩))) := by
  have hd : callT ⟨3, doc, client, seq, n, o, text⟩ = str (Lib.join (List.map nameL [clName 3, doc, str (numT n)]) [32]) := by
    rw [callT_words hg]
    have e : callWords ⟨3, doc, client, seq, n, o, text⟩ = [nameL (clName 3), nameL (doc), nameL (str (numT n))] := by unfold callWords; simp [onDoc, hasWho, hasN, inR, nameL_str]
    rw [e]; rfl
  obtain ⟨g1, g2, g3, g4, g5, g6, g7, g8, g9⟩ := callGood_parts hg
  dsimp only at g1 g2 g3 g4 g5 g6 g7 g8 g9
  clear hg
  have k0 := cw (W := W) fun w hw => sCallOk_c w (hR.st hw)
  have k1 := cw (W := W) fun w hw => sOpOk_c w (h5.st hw)
  have k2 := cw (W := W) fun w hw => sOnDoc_c w 3
  have k3 := cw (W := W) fun w hw => sNameOk_c w doc h1
  have k4a := cw (W := W) fun w hw => l01In_c w client 0 1000000000
  have k4b := cw (W := W) fun w hw => l01In_c w seq 0 1000000000
  have k4c := cw (W := W) fun w hw => l01In_c w n 0 1000000000
  rw [g3] at k4a
  rw [g4] at k4b
  rw [g5] at k4c
  have k5 := cw (W := W) fun w hw => sClName_c w 3
  have k6 := fun z => cw (W := W) fun w hw => sNum_c w z
  have k7 := cw (W := W) fun w hw => sSignT_c w (h6.st hw) (by omega)
  have k8 := cw (W := W) fun w hw => sOpW_c w (h5.st hw)
  have k9 := cw (W := W) fun w hw => l19Has_c w 3
  rw [g1] at k0
  rw [g2] at k1
  rw [g6 rfl] at k3
  have z0 := clName_size 3
  have z1 := numT_len client
  have z2 := numT_len seq
  have z3 := numT_len n
  have z4 := signT_len text
  have z5 := opW_len o
  clear g6 g7
  refine calls_j Tryz.func8 rfl rfl rfl ?_
  rw [hd]
  clear hd
  refine r1 ?_
  intro b0 b1 b2
  refine j_append0 (α := ByteArray) (Slc.oneS b1 (clName 3)) (Elems.single (show rep [Value.string (doc)] (doc) [] from ⟨rfl, rfl⟩)) (news_src (src_box (by repeat (first | exact .here | apply InL.there))) rfl) (by simp) (fun a2 c2 H1 hS1 => ?_)
  refine r1 ?_
  intro b2
  refine j_append0 (α := ByteArray) hS1 (Elems.single (show rep [Value.string (str (numT n))] (str (numT n)) [] from ⟨rfl, rfl⟩)) (news_src (src_box (by repeat (first | exact .here | apply InL.there))) rfl) (by simp) (fun a3 c3 H2 hS2 => ?_)
  repeat' (first | (show J _ _ _ _ _ (_ :: _) _ _; refine j_call (fun _ hw => sJoin_c _ (.own hS2 (by repeat (first | exact .here | apply InL.there)) hw) (by simp) (by simp only [List.cons_append, List.nil_append, List.mem_cons, List.not_mem_nil, or_false]; intro y hy; rcases hy with rfl | rfl | rfl <;> (try simp only [str_size]) <;> omega)) ?_; rintro _ _ ⟨rfl, rfl⟩) | (show JP _ _ _ _ _ _ _ _ (_ :: _) _ _; refine jp_call (fun _ hw => sJoin_c _ (.own hS2 (by repeat (first | exact .here | apply InL.there)) hw) (by simp) (by simp only [List.cons_append, List.nil_append, List.mem_cons, List.not_mem_nil, or_false]; intro y hy; rcases hy with rfl | rfl | rfl <;> (try simp only [str_size]) <;> omega)) ?_) | refine j_nil ?_ | (show J _ _ _ _ _ (_ :: _) _ _; first | refine j_skip ?_ | refine j_skipU ?_ | refine j_alloc (fun _ => ?_) | refine j_box (fun _ => ?_) | refine j_store ?_ | refine j_build ?_ | refine j_buildSlice (fun _ => ?_) | refine j_makeFunc ?_ | refine j_skip0 ?_ | refine j_op ?_ | ((fail_if_success refine j_look ?_); first | refine j_guard_dec (fun _ => ?_) (fun _ => ?_) | refine j_guard_eq (fun _ => ?_) (fun _ => ?_) | refine j_guard_ne (fun _ => ?_) (fun _ => ?_) | refine j_guard_not (fun _ => ?_) (fun _ => ?_) | refine j_guard (fun _ => ?_) (fun _ => ?_))) | (show JC _ _ _ _ _ _ _; first | refine jc_seq ?_ | refine jc_region ?_ | refine jc_lex ?_ | refine jc_skip ?_ | refine jc_block ?_ | refine jc_ret ?_ | refine jc_exit ?_ | refine jc_true ?_ | refine jc_false ?_ | refine jc_dec (fun _ => ?_) (fun _ => ?_) | refine jc_eq (fun _ => ?_) (fun _ => ?_) | refine jc_ne (fun _ => ?_) (fun _ => ?_) | refine jc_not (fun _ => ?_) (fun _ => ?_) | refine jc_cond (fun _ => ?_) (fun _ => ?_)) | (show JP _ _ _ _ _ _ _ _ (_ :: _) _ _; first | refine jp_do ?_ | refine jp_skip ?_ | refine jp_skipU ?_ | refine jp_build ?_ | refine jp_op ?_) | refine jp_nil ?_ | (show JX _ _ _ _ _ _; first | refine jx_qp ?_ | refine jx_then ?_ | refine jx_block ?_ | refine jx_then_ret ?_ | refine jx_block_ret ?_ | refine jx_then_exit ?_ | refine jx_block_here ?_ | refine jx_block_past ?_ | refine jx_is ?_))
  rfl
theorem sCallT_4 (W : World) {doc : ByteArray} {client seq n : Int} {o : List DPart} {text : List Int} {a0 a1 : Option Addr} {c0 c1 : Nat} (hR : Rd W [.int .i64 4, .string doc, .int .i64 client, .int .i64 seq, .int .i64 n, .slice a0 o.length c0, .slice a1 text.length c1] (⟨4, doc, client, seq, n, o, text⟩ : DCall)) (h5 : RdS W a0 c0 o) (h6 : RdS W a1 c1 text) (h1 : SB doc) (hg : callGood ⟨4, doc, client, seq, n, o, text⟩ = true) :
    CR Tryz.prog 8 [.agg #[.int .i64 4, .string doc, .int .i64 client, .int .i64 seq, .int .i64 n, .slice a0 o.length c0, .slice a1 text.length c1]] W (Is (.string (callT ⟨4, doc, client, seq, n, o, text⟩))) := by
  have hd : callT ⟨4, doc, client, seq, n, o, text⟩ = str (Lib.join (List.map nameL [clName 4, doc]) [32]) := by
    rw [callT_words hg]
    have e : callWords ⟨4, doc, client, seq, n, o, text⟩ = [nameL (clName 4), nameL (doc)] := by unfold callWords; simp [onDoc, hasWho, hasN, inR, nameL_str]
    rw [e]; rfl
  obtain ⟨g1, g2, g3, g4, g5, g6, g7, g8, g9⟩ := callGood_parts hg
  dsimp only at g1 g2 g3 g4 g5 g6 g7 g8 g9
  clear hg
  have k0 := cw (W := W) fun w hw => sCallOk_c w (hR.st hw)
  have k1 := cw (W := W) fun w hw => sOpOk_c w (h5.st hw)
  have k2 := cw (W := W) fun w hw => sOnDoc_c w 4
  have k3 := cw (W := W) fun w hw => sNameOk_c w doc h1
  have k4a := cw (W := W) fun w hw => l01In_c w client 0 1000000000
  have k4b := cw (W := W) fun w hw => l01In_c w seq 0 1000000000
  have k4c := cw (W := W) fun w hw => l01In_c w n 0 1000000000
  rw [g3] at k4a
  rw [g4] at k4b
  rw [g5] at k4c
  have k5 := cw (W := W) fun w hw => sClName_c w 4
  have k6 := fun z => cw (W := W) fun w hw => sNum_c w z
  have k7 := cw (W := W) fun w hw => sSignT_c w (h6.st hw) (by omega)
  have k8 := cw (W := W) fun w hw => sOpW_c w (h5.st hw)
  have k9 := cw (W := W) fun w hw => l19Has_c w 4
  rw [g1] at k0
  rw [g2] at k1
  rw [g6 rfl] at k3
  have z0 := clName_size 4
  have z1 := numT_len client
  have z2 := numT_len seq
  have z3 := numT_len n
  have z4 := signT_len text
  have z5 := opW_len o
  clear g6 g7
  refine calls_j Tryz.func8 rfl rfl rfl ?_
  rw [hd]
  clear hd
  refine r1 ?_
  intro b0 b1 b2
  refine j_append0 (α := ByteArray) (Slc.oneS b1 (clName 4)) (Elems.single (show rep [Value.string (doc)] (doc) [] from ⟨rfl, rfl⟩)) (news_src (src_box (by repeat (first | exact .here | apply InL.there))) rfl) (by simp) (fun a2 c2 H1 hS1 => ?_)
  repeat' (first | (show J _ _ _ _ _ (_ :: _) _ _; refine j_call (fun _ hw => sJoin_c _ (.own hS1 (by repeat (first | exact .here | apply InL.there)) hw) (by simp) (by simp only [List.cons_append, List.nil_append, List.mem_cons, List.not_mem_nil, or_false]; intro y hy; rcases hy with rfl | rfl <;> (try simp only [str_size]) <;> omega)) ?_; rintro _ _ ⟨rfl, rfl⟩) | (show JP _ _ _ _ _ _ _ _ (_ :: _) _ _; refine jp_call (fun _ hw => sJoin_c _ (.own hS1 (by repeat (first | exact .here | apply InL.there)) hw) (by simp) (by simp only [List.cons_append, List.nil_append, List.mem_cons, List.not_mem_nil, or_false]; intro y hy; rcases hy with rfl | rfl <;> (try simp only [str_size]) <;> omega)) ?_) | refine j_nil ?_ | (show J _ _ _ _ _ (_ :: _) _ _; first | refine j_skip ?_ | refine j_skipU ?_ | refine j_alloc (fun _ => ?_) | refine j_box (fun _ => ?_) | refine j_store ?_ | refine j_build ?_ | refine j_buildSlice (fun _ => ?_) | refine j_makeFunc ?_ | refine j_skip0 ?_ | refine j_op ?_ | ((fail_if_success refine j_look ?_); first | refine j_guard_dec (fun _ => ?_) (fun _ => ?_) | refine j_guard_eq (fun _ => ?_) (fun _ => ?_) | refine j_guard_ne (fun _ => ?_) (fun _ => ?_) | refine j_guard_not (fun _ => ?_) (fun _ => ?_) | refine j_guard (fun _ => ?_) (fun _ => ?_))) | (show JC _ _ _ _ _ _ _; first | refine jc_seq ?_ | refine jc_region ?_ | refine jc_lex ?_ | refine jc_skip ?_ | refine jc_block ?_ | refine jc_ret ?_ | refine jc_exit ?_ | refine jc_true ?_ | refine jc_false ?_ | refine jc_dec (fun _ => ?_) (fun _ => ?_) | refine jc_eq (fun _ => ?_) (fun _ => ?_) | refine jc_ne (fun _ => ?_) (fun _ => ?_) | refine jc_not (fun _ => ?_) (fun _ => ?_) | refine jc_cond (fun _ => ?_) (fun _ => ?_)) | (show JP _ _ _ _ _ _ _ _ (_ :: _) _ _; first | refine jp_do ?_ | refine jp_skip ?_ | refine jp_skipU ?_ | refine jp_build ?_ | refine jp_op ?_) | refine jp_nil ?_ | (show JX _ _ _ _ _ _; first | refine jx_qp ?_ | refine jx_then ?_ | refine jx_block ?_ | refine jx_then_ret ?_ | refine jx_block_ret ?_ | refine jx_then_exit ?_ | refine jx_block_here ?_ | refine jx_block_past ?_ | refine jx_is ?_))
  rfl
theorem sCallT_5 (W : World) {doc : ByteArray} {client seq n : Int} {o : List DPart} {text : List Int} {a0 a1 : Option Addr} {c0 c1 : Nat} (hR : Rd W [.int .i64 5, .string doc, .int .i64 client, .int .i64 seq, .int .i64 n, .slice a0 o.length c0, .slice a1 text.length c1] (⟨5, doc, client, seq, n, o, text⟩ : DCall)) (h5 : RdS W a0 c0 o) (h6 : RdS W a1 c1 text) (h1 : SB doc) (hg : callGood ⟨5, doc, client, seq, n, o, text⟩ = true) :
    CR Tryz.prog 8 [.agg #[.int .i64 5, .string doc, .int .i64 client, .int .i64 seq, .int .i64 n, .slice a0 o.length c0, .slice a1 text.length c1]] W (Is (.string (callT ⟨5, doc, client, seq, n, o, text⟩))) := by
  have hd : callT ⟨5, doc, client, seq, n, o, text⟩ = str (Lib.join (List.map nameL [clName 5, doc, str (numT n)]) [32]) := by
    rw [callT_words hg]
    have e : callWords ⟨5, doc, client, seq, n, o, text⟩ = [nameL (clName 5), nameL (doc), nameL (str (numT n))] := by unfold callWords; simp [onDoc, hasWho, hasN, inR, nameL_str]
    rw [e]; rfl
  obtain ⟨g1, g2, g3, g4, g5, g6, g7, g8, g9⟩ := callGood_parts hg
  dsimp only at g1 g2 g3 g4 g5 g6 g7 g8 g9
  clear hg
  have k0 := cw (W := W) fun w hw => sCallOk_c w (hR.st hw)
  have k1 := cw (W := W) fun w hw => sOpOk_c w (h5.st hw)
  have k2 := cw (W := W) fun w hw => sOnDoc_c w 5
  have k3 := cw (W := W) fun w hw => sNameOk_c w doc h1
  have k4a := cw (W := W) fun w hw => l01In_c w client 0 1000000000
  have k4b := cw (W := W) fun w hw => l01In_c w seq 0 1000000000
  have k4c := cw (W := W) fun w hw => l01In_c w n 0 1000000000
  rw [g3] at k4a
  rw [g4] at k4b
  rw [g5] at k4c
  have k5 := cw (W := W) fun w hw => sClName_c w 5
  have k6 := fun z => cw (W := W) fun w hw => sNum_c w z
  have k7 := cw (W := W) fun w hw => sSignT_c w (h6.st hw) (by omega)
  have k8 := cw (W := W) fun w hw => sOpW_c w (h5.st hw)
  have k9 := cw (W := W) fun w hw => l19Has_c w 5
  rw [g1] at k0
  rw [g2] at k1
  rw [g6 rfl] at k3
  have z0 := clName_size 5
  have z1 := numT_len client
  have z2 := numT_len seq
  have z3 := numT_len n
  have z4 := signT_len text
  have z5 := opW_len o
  clear g6 g7
  refine calls_j Tryz.func8 rfl rfl rfl ?_
  rw [hd]
  clear hd
  refine r1 ?_
  intro b0 b1 b2
  refine j_append0 (α := ByteArray) (Slc.oneS b1 (clName 5)) (Elems.single (show rep [Value.string (doc)] (doc) [] from ⟨rfl, rfl⟩)) (news_src (src_box (by repeat (first | exact .here | apply InL.there))) rfl) (by simp) (fun a2 c2 H1 hS1 => ?_)
  refine r1 ?_
  intro b2
  refine j_append0 (α := ByteArray) hS1 (Elems.single (show rep [Value.string (str (numT n))] (str (numT n)) [] from ⟨rfl, rfl⟩)) (news_src (src_box (by repeat (first | exact .here | apply InL.there))) rfl) (by simp) (fun a3 c3 H2 hS2 => ?_)
  repeat' (first | (show J _ _ _ _ _ (_ :: _) _ _; refine j_call (fun _ hw => sJoin_c _ (.own hS2 (by repeat (first | exact .here | apply InL.there)) hw) (by simp) (by simp only [List.cons_append, List.nil_append, List.mem_cons, List.not_mem_nil, or_false]; intro y hy; rcases hy with rfl | rfl | rfl <;> (try simp only [str_size]) <;> omega)) ?_; rintro _ _ ⟨rfl, rfl⟩) | (show JP _ _ _ _ _ _ _ _ (_ :: _) _ _; refine jp_call (fun _ hw => sJoin_c _ (.own hS2 (by repeat (first | exact .here | apply InL.there)) hw) (by simp) (by simp only [List.cons_append, List.nil_append, List.mem_cons, List.not_mem_nil, or_false]; intro y hy; rcases hy with rfl | rfl | rfl <;> (try simp only [str_size]) <;> omega)) ?_) | refine j_nil ?_ | (show J _ _ _ _ _ (_ :: _) _ _; first | refine j_skip ?_ | refine j_skipU ?_ | refine j_alloc (fun _ => ?_) | refine j_box (fun _ => ?_) | refine j_store ?_ | refine j_build ?_ | refine j_buildSlice (fun _ => ?_) | refine j_makeFunc ?_ | refine j_skip0 ?_ | refine j_op ?_ | ((fail_if_success refine j_look ?_); first | refine j_guard_dec (fun _ => ?_) (fun _ => ?_) | refine j_guard_eq (fun _ => ?_) (fun _ => ?_) | refine j_guard_ne (fun _ => ?_) (fun _ => ?_) | refine j_guard_not (fun _ => ?_) (fun _ => ?_) | refine j_guard (fun _ => ?_) (fun _ => ?_))) | (show JC _ _ _ _ _ _ _; first | refine jc_seq ?_ | refine jc_region ?_ | refine jc_lex ?_ | refine jc_skip ?_ | refine jc_block ?_ | refine jc_ret ?_ | refine jc_exit ?_ | refine jc_true ?_ | refine jc_false ?_ | refine jc_dec (fun _ => ?_) (fun _ => ?_) | refine jc_eq (fun _ => ?_) (fun _ => ?_) | refine jc_ne (fun _ => ?_) (fun _ => ?_) | refine jc_not (fun _ => ?_) (fun _ => ?_) | refine jc_cond (fun _ => ?_) (fun _ => ?_)) | (show JP _ _ _ _ _ _ _ _ (_ :: _) _ _; first | refine jp_do ?_ | refine jp_skip ?_ | refine jp_skipU ?_ | refine jp_build ?_ | refine jp_op ?_) | refine jp_nil ?_ | (show JX _ _ _ _ _ _; first | refine jx_qp ?_ | refine jx_then ?_ | refine jx_block ?_ | refine jx_then_ret ?_ | refine jx_block_ret ?_ | refine jx_then_exit ?_ | refine jx_block_here ?_ | refine jx_block_past ?_ | refine jx_is ?_))
  rfl
theorem sCallT_6 (W : World) {doc : ByteArray} {client seq n : Int} {o : List DPart} {text : List Int} {a0 a1 : Option Addr} {c0 c1 : Nat} (hR : Rd W [.int .i64 6, .string doc, .int .i64 client, .int .i64 seq, .int .i64 n, .slice a0 o.length c0, .slice a1 text.length c1] (⟨6, doc, client, seq, n, o, text⟩ : DCall)) (h5 : RdS W a0 c0 o) (h6 : RdS W a1 c1 text) (h1 : SB doc) (hg : callGood ⟨6, doc, client, seq, n, o, text⟩ = true) :
    CR Tryz.prog 8 [.agg #[.int .i64 6, .string doc, .int .i64 client, .int .i64 seq, .int .i64 n, .slice a0 o.length c0, .slice a1 text.length c1]] W (Is (.string (callT ⟨6, doc, client, seq, n, o, text⟩))) := by
  have hd : callT ⟨6, doc, client, seq, n, o, text⟩ = str (Lib.join (List.map nameL [clName 6, str (numT client), str (numT n)]) [32]) := by
    rw [callT_words hg]
    have e : callWords ⟨6, doc, client, seq, n, o, text⟩ = [nameL (clName 6), nameL (str (numT client)), nameL (str (numT n))] := by unfold callWords; simp [onDoc, hasWho, hasN, inR, nameL_str]
    rw [e]; rfl
  obtain ⟨g1, g2, g3, g4, g5, g6, g7, g8, g9⟩ := callGood_parts hg
  dsimp only at g1 g2 g3 g4 g5 g6 g7 g8 g9
  clear hg
  have k0 := cw (W := W) fun w hw => sCallOk_c w (hR.st hw)
  have k1 := cw (W := W) fun w hw => sOpOk_c w (h5.st hw)
  have k2 := cw (W := W) fun w hw => sOnDoc_c w 6
  have k3 := cw (W := W) fun w hw => sNameOk_c w doc h1
  have k4a := cw (W := W) fun w hw => l01In_c w client 0 1000000000
  have k4b := cw (W := W) fun w hw => l01In_c w seq 0 1000000000
  have k4c := cw (W := W) fun w hw => l01In_c w n 0 1000000000
  rw [g3] at k4a
  rw [g4] at k4b
  rw [g5] at k4c
  have k5 := cw (W := W) fun w hw => sClName_c w 6
  have k6 := fun z => cw (W := W) fun w hw => sNum_c w z
  have k7 := cw (W := W) fun w hw => sSignT_c w (h6.st hw) (by omega)
  have k8 := cw (W := W) fun w hw => sOpW_c w (h5.st hw)
  have k9 := cw (W := W) fun w hw => l19Has_c w 6
  rw [g1] at k0
  rw [g2] at k1
  skip
  have z0 := clName_size 6
  have z1 := numT_len client
  have z2 := numT_len seq
  have z3 := numT_len n
  have z4 := signT_len text
  have z5 := opW_len o
  clear g6 g7
  refine calls_j Tryz.func8 rfl rfl rfl ?_
  rw [hd]
  clear hd
  refine r1 ?_
  intro b0 b1 b2
  refine j_append0 (α := ByteArray) (Slc.oneS b1 (clName 6)) (Elems.single (show rep [Value.string (str (numT client))] (str (numT client)) [] from ⟨rfl, rfl⟩)) (news_src (src_box (by repeat (first | exact .here | apply InL.there))) rfl) (by simp) (fun a2 c2 H1 hS1 => ?_)
  refine r1 ?_
  intro b2
  refine j_append0 (α := ByteArray) hS1 (Elems.single (show rep [Value.string (str (numT n))] (str (numT n)) [] from ⟨rfl, rfl⟩)) (news_src (src_box (by repeat (first | exact .here | apply InL.there))) rfl) (by simp) (fun a3 c3 H2 hS2 => ?_)
  repeat' (first | (show J _ _ _ _ _ (_ :: _) _ _; refine j_call (fun _ hw => sJoin_c _ (.own hS2 (by repeat (first | exact .here | apply InL.there)) hw) (by simp) (by simp only [List.cons_append, List.nil_append, List.mem_cons, List.not_mem_nil, or_false]; intro y hy; rcases hy with rfl | rfl | rfl <;> (try simp only [str_size]) <;> omega)) ?_; rintro _ _ ⟨rfl, rfl⟩) | (show JP _ _ _ _ _ _ _ _ (_ :: _) _ _; refine jp_call (fun _ hw => sJoin_c _ (.own hS2 (by repeat (first | exact .here | apply InL.there)) hw) (by simp) (by simp only [List.cons_append, List.nil_append, List.mem_cons, List.not_mem_nil, or_false]; intro y hy; rcases hy with rfl | rfl | rfl <;> (try simp only [str_size]) <;> omega)) ?_) | refine j_nil ?_ | (show J _ _ _ _ _ (_ :: _) _ _; first | refine j_skip ?_ | refine j_skipU ?_ | refine j_alloc (fun _ => ?_) | refine j_box (fun _ => ?_) | refine j_store ?_ | refine j_build ?_ | refine j_buildSlice (fun _ => ?_) | refine j_makeFunc ?_ | refine j_skip0 ?_ | refine j_op ?_ | ((fail_if_success refine j_look ?_); first | refine j_guard_dec (fun _ => ?_) (fun _ => ?_) | refine j_guard_eq (fun _ => ?_) (fun _ => ?_) | refine j_guard_ne (fun _ => ?_) (fun _ => ?_) | refine j_guard_not (fun _ => ?_) (fun _ => ?_) | refine j_guard (fun _ => ?_) (fun _ => ?_))) | (show JC _ _ _ _ _ _ _; first | refine jc_seq ?_ | refine jc_region ?_ | refine jc_lex ?_ | refine jc_skip ?_ | refine jc_block ?_ | refine jc_ret ?_ | refine jc_exit ?_ | refine jc_true ?_ | refine jc_false ?_ | refine jc_dec (fun _ => ?_) (fun _ => ?_) | refine jc_eq (fun _ => ?_) (fun _ => ?_) | refine jc_ne (fun _ => ?_) (fun _ => ?_) | refine jc_not (fun _ => ?_) (fun _ => ?_) | refine jc_cond (fun _ => ?_) (fun _ => ?_)) | (show JP _ _ _ _ _ _ _ _ (_ :: _) _ _; first | refine jp_do ?_ | refine jp_skip ?_ | refine jp_skipU ?_ | refine jp_build ?_ | refine jp_op ?_) | refine jp_nil ?_ | (show JX _ _ _ _ _ _; first | refine jx_qp ?_ | refine jx_then ?_ | refine jx_block ?_ | refine jx_then_ret ?_ | refine jx_block_ret ?_ | refine jx_then_exit ?_ | refine jx_block_here ?_ | refine jx_block_past ?_ | refine jx_is ?_))
  rfl
theorem sCallT_7 (W : World) {doc : ByteArray} {client seq n : Int} {o : List DPart} {text : List Int} {a0 a1 : Option Addr} {c0 c1 : Nat} (hR : Rd W [.int .i64 7, .string doc, .int .i64 client, .int .i64 seq, .int .i64 n, .slice a0 o.length c0, .slice a1 text.length c1] (⟨7, doc, client, seq, n, o, text⟩ : DCall)) (h5 : RdS W a0 c0 o) (h6 : RdS W a1 c1 text) (h1 : SB doc) (hg : callGood ⟨7, doc, client, seq, n, o, text⟩ = true) :
    CR Tryz.prog 8 [.agg #[.int .i64 7, .string doc, .int .i64 client, .int .i64 seq, .int .i64 n, .slice a0 o.length c0, .slice a1 text.length c1]] W (Is (.string (callT ⟨7, doc, client, seq, n, o, text⟩))) := by
  have hd : callT ⟨7, doc, client, seq, n, o, text⟩ = str (Lib.join (List.map nameL [clName 7, str (numT client)]) [32]) := by
    rw [callT_words hg]
    have e : callWords ⟨7, doc, client, seq, n, o, text⟩ = [nameL (clName 7), nameL (str (numT client))] := by unfold callWords; simp [onDoc, hasWho, hasN, inR, nameL_str]
    rw [e]; rfl
  obtain ⟨g1, g2, g3, g4, g5, g6, g7, g8, g9⟩ := callGood_parts hg
  dsimp only at g1 g2 g3 g4 g5 g6 g7 g8 g9
  clear hg
  have k0 := cw (W := W) fun w hw => sCallOk_c w (hR.st hw)
  have k1 := cw (W := W) fun w hw => sOpOk_c w (h5.st hw)
  have k2 := cw (W := W) fun w hw => sOnDoc_c w 7
  have k3 := cw (W := W) fun w hw => sNameOk_c w doc h1
  have k4a := cw (W := W) fun w hw => l01In_c w client 0 1000000000
  have k4b := cw (W := W) fun w hw => l01In_c w seq 0 1000000000
  have k4c := cw (W := W) fun w hw => l01In_c w n 0 1000000000
  rw [g3] at k4a
  rw [g4] at k4b
  rw [g5] at k4c
  have k5 := cw (W := W) fun w hw => sClName_c w 7
  have k6 := fun z => cw (W := W) fun w hw => sNum_c w z
  have k7 := cw (W := W) fun w hw => sSignT_c w (h6.st hw) (by omega)
  have k8 := cw (W := W) fun w hw => sOpW_c w (h5.st hw)
  have k9 := cw (W := W) fun w hw => l19Has_c w 7
  rw [g1] at k0
  rw [g2] at k1
  skip
  have z0 := clName_size 7
  have z1 := numT_len client
  have z2 := numT_len seq
  have z3 := numT_len n
  have z4 := signT_len text
  have z5 := opW_len o
  clear g6 g7
  refine calls_j Tryz.func8 rfl rfl rfl ?_
  rw [hd]
  clear hd
  refine r1 ?_
  intro b0 b1 b2
  refine j_append0 (α := ByteArray) (Slc.oneS b1 (clName 7)) (Elems.single (show rep [Value.string (str (numT client))] (str (numT client)) [] from ⟨rfl, rfl⟩)) (news_src (src_box (by repeat (first | exact .here | apply InL.there))) rfl) (by simp) (fun a2 c2 H1 hS1 => ?_)
  repeat' (first | (show J _ _ _ _ _ (_ :: _) _ _; refine j_call (fun _ hw => sJoin_c _ (.own hS1 (by repeat (first | exact .here | apply InL.there)) hw) (by simp) (by simp only [List.cons_append, List.nil_append, List.mem_cons, List.not_mem_nil, or_false]; intro y hy; rcases hy with rfl | rfl <;> (try simp only [str_size]) <;> omega)) ?_; rintro _ _ ⟨rfl, rfl⟩) | (show JP _ _ _ _ _ _ _ _ (_ :: _) _ _; refine jp_call (fun _ hw => sJoin_c _ (.own hS1 (by repeat (first | exact .here | apply InL.there)) hw) (by simp) (by simp only [List.cons_append, List.nil_append, List.mem_cons, List.not_mem_nil, or_false]; intro y hy; rcases hy with rfl | rfl <;> (try simp only [str_size]) <;> omega)) ?_) | refine j_nil ?_ | (show J _ _ _ _ _ (_ :: _) _ _; first | refine j_skip ?_ | refine j_skipU ?_ | refine j_alloc (fun _ => ?_) | refine j_box (fun _ => ?_) | refine j_store ?_ | refine j_build ?_ | refine j_buildSlice (fun _ => ?_) | refine j_makeFunc ?_ | refine j_skip0 ?_ | refine j_op ?_ | ((fail_if_success refine j_look ?_); first | refine j_guard_dec (fun _ => ?_) (fun _ => ?_) | refine j_guard_eq (fun _ => ?_) (fun _ => ?_) | refine j_guard_ne (fun _ => ?_) (fun _ => ?_) | refine j_guard_not (fun _ => ?_) (fun _ => ?_) | refine j_guard (fun _ => ?_) (fun _ => ?_))) | (show JC _ _ _ _ _ _ _; first | refine jc_seq ?_ | refine jc_region ?_ | refine jc_lex ?_ | refine jc_skip ?_ | refine jc_block ?_ | refine jc_ret ?_ | refine jc_exit ?_ | refine jc_true ?_ | refine jc_false ?_ | refine jc_dec (fun _ => ?_) (fun _ => ?_) | refine jc_eq (fun _ => ?_) (fun _ => ?_) | refine jc_ne (fun _ => ?_) (fun _ => ?_) | refine jc_not (fun _ => ?_) (fun _ => ?_) | refine jc_cond (fun _ => ?_) (fun _ => ?_)) | (show JP _ _ _ _ _ _ _ _ (_ :: _) _ _; first | refine jp_do ?_ | refine jp_skip ?_ | refine jp_skipU ?_ | refine jp_build ?_ | refine jp_op ?_) | refine jp_nil ?_ | (show JX _ _ _ _ _ _; first | refine jx_qp ?_ | refine jx_then ?_ | refine jx_block ?_ | refine jx_then_ret ?_ | refine jx_block_ret ?_ | refine jx_then_exit ?_ | refine jx_block_here ?_ | refine jx_block_past ?_ | refine jx_is ?_))
  rfl
theorem sCallT_8 (W : World) {doc : ByteArray} {client seq n : Int} {o : List DPart} {text : List Int} {a0 a1 : Option Addr} {c0 c1 : Nat} (hR : Rd W [.int .i64 8, .string doc, .int .i64 client, .int .i64 seq, .int .i64 n, .slice a0 o.length c0, .slice a1 text.length c1] (⟨8, doc, client, seq, n, o, text⟩ : DCall)) (h5 : RdS W a0 c0 o) (h6 : RdS W a1 c1 text) (h1 : SB doc) (hg : callGood ⟨8, doc, client, seq, n, o, text⟩ = true) :
    CR Tryz.prog 8 [.agg #[.int .i64 8, .string doc, .int .i64 client, .int .i64 seq, .int .i64 n, .slice a0 o.length c0, .slice a1 text.length c1]] W (Is (.string (callT ⟨8, doc, client, seq, n, o, text⟩))) := by
  have hd : callT ⟨8, doc, client, seq, n, o, text⟩ = str (Lib.join (List.map nameL [clName 8]) [32]) := by
    rw [callT_words hg]
    have e : callWords ⟨8, doc, client, seq, n, o, text⟩ = [nameL (clName 8)] := by unfold callWords; simp [onDoc, hasWho, hasN, inR, nameL_str]
    rw [e]; rfl
  obtain ⟨g1, g2, g3, g4, g5, g6, g7, g8, g9⟩ := callGood_parts hg
  dsimp only at g1 g2 g3 g4 g5 g6 g7 g8 g9
  clear hg
  have k0 := cw (W := W) fun w hw => sCallOk_c w (hR.st hw)
  have k1 := cw (W := W) fun w hw => sOpOk_c w (h5.st hw)
  have k2 := cw (W := W) fun w hw => sOnDoc_c w 8
  have k3 := cw (W := W) fun w hw => sNameOk_c w doc h1
  have k4a := cw (W := W) fun w hw => l01In_c w client 0 1000000000
  have k4b := cw (W := W) fun w hw => l01In_c w seq 0 1000000000
  have k4c := cw (W := W) fun w hw => l01In_c w n 0 1000000000
  rw [g3] at k4a
  rw [g4] at k4b
  rw [g5] at k4c
  have k5 := cw (W := W) fun w hw => sClName_c w 8
  have k6 := fun z => cw (W := W) fun w hw => sNum_c w z
  have k7 := cw (W := W) fun w hw => sSignT_c w (h6.st hw) (by omega)
  have k8 := cw (W := W) fun w hw => sOpW_c w (h5.st hw)
  have k9 := cw (W := W) fun w hw => l19Has_c w 8
  rw [g1] at k0
  rw [g2] at k1
  skip
  have z0 := clName_size 8
  have z1 := numT_len client
  have z2 := numT_len seq
  have z3 := numT_len n
  have z4 := signT_len text
  have z5 := opW_len o
  clear g6 g7
  refine calls_j Tryz.func8 rfl rfl rfl ?_
  rw [hd]
  clear hd
  refine r1 ?_
  intro b0 b1
  repeat' (first | (show J _ _ _ _ _ (_ :: _) _ _; refine j_call (fun _ hw => sJoin_c _ (.own (Slc.oneS b1 (clName 8)) (by repeat (first | exact .here | apply InL.there)) hw) (by simp) (by simp only [List.mem_cons, List.not_mem_nil, or_false]; intro y hy; rcases hy with rfl; omega)) ?_; rintro _ _ ⟨rfl, rfl⟩) | (show JP _ _ _ _ _ _ _ _ (_ :: _) _ _; refine jp_call (fun _ hw => sJoin_c _ (.own (Slc.oneS b1 (clName 8)) (by repeat (first | exact .here | apply InL.there)) hw) (by simp) (by simp only [List.mem_cons, List.not_mem_nil, or_false]; intro y hy; rcases hy with rfl; omega)) ?_) | refine j_nil ?_ | (show J _ _ _ _ _ (_ :: _) _ _; first | refine j_skip ?_ | refine j_skipU ?_ | refine j_alloc (fun _ => ?_) | refine j_box (fun _ => ?_) | refine j_store ?_ | refine j_build ?_ | refine j_buildSlice (fun _ => ?_) | refine j_makeFunc ?_ | refine j_skip0 ?_ | refine j_op ?_ | ((fail_if_success refine j_look ?_); first | refine j_guard_dec (fun _ => ?_) (fun _ => ?_) | refine j_guard_eq (fun _ => ?_) (fun _ => ?_) | refine j_guard_ne (fun _ => ?_) (fun _ => ?_) | refine j_guard_not (fun _ => ?_) (fun _ => ?_) | refine j_guard (fun _ => ?_) (fun _ => ?_))) | (show JC _ _ _ _ _ _ _; first | refine jc_seq ?_ | refine jc_region ?_ | refine jc_lex ?_ | refine jc_skip ?_ | refine jc_block ?_ | refine jc_ret ?_ | refine jc_exit ?_ | refine jc_true ?_ | refine jc_false ?_ | refine jc_dec (fun _ => ?_) (fun _ => ?_) | refine jc_eq (fun _ => ?_) (fun _ => ?_) | refine jc_ne (fun _ => ?_) (fun _ => ?_) | refine jc_not (fun _ => ?_) (fun _ => ?_) | refine jc_cond (fun _ => ?_) (fun _ => ?_)) | (show JP _ _ _ _ _ _ _ _ (_ :: _) _ _; first | refine jp_do ?_ | refine jp_skip ?_ | refine jp_skipU ?_ | refine jp_build ?_ | refine jp_op ?_) | refine jp_nil ?_ | (show JX _ _ _ _ _ _; first | refine jx_qp ?_ | refine jx_then ?_ | refine jx_block ?_ | refine jx_then_ret ?_ | refine jx_block_ret ?_ | refine jx_then_exit ?_ | refine jx_block_here ?_ | refine jx_block_past ?_ | refine jx_is ?_))
  rfl
--EIGHT--
theorem sCallT_no (W : World) {x : DCall} {a0 a1 : Option Addr} {c0 c1 : Nat} (hR : Rd W [.int .i64 x.kind, .string x.doc, .int .i64 x.client, .int .i64 x.seq, .int .i64 x.n, .slice a0 x.o.length c0, .slice a1 x.text.length c1] x) (h1 : SB x.doc) (h5 : RdS W a0 c0 x.o) (hg : callGood x = false) :
    CR Tryz.prog 8 [.agg #[.int .i64 x.kind, .string x.doc, .int .i64 x.client, .int .i64 x.seq, .int .i64 x.n, .slice a0 x.o.length c0, .slice a1 x.text.length c1]] W (Is (.string (callT x))) := by
  refine calls_j Tryz.func8 rfl rfl rfl ?_
  rw [good_no hg]
  have k0 := cw (W := W) fun w hw => sCallOk_c w (hR.st hw)
  have k1 := cw (W := W) fun w hw => sOpOk_c w (h5.st hw)
  have k2 := fun z => cw (W := W) fun w hw => sOnDoc_c w z
  have k3 := cw (W := W) fun w hw => sNameOk_c w x.doc h1
  have k4 := fun x y z => cw (W := W) fun w hw => l01In_c w x y z
  have d := callGood.eq_1 x
  rw [hg] at d
  refine r2 ?_ ?_
  · intro _ g1 g2 g3 g4 g5 g6 g7
    rw [g1, g2, g3, g4, g5, g6, g7] at d
    exact absurd d (by simp)
  · intro _ g1 g2 g3 g4 g5 g6
    rw [g1, g2, g3, g4, g5, g6] at d
    exact absurd d (by simp)
theorem sCallT_c (W : World) {c : List Value} {x : DCall} (h : Rd W c x) : CR Tryz.prog 8 [.agg c.toArray] W (Is (.string (callT x))) := by
  obtain ⟨a0, c0, a1, c1, rfl, h0, h1, h2, h3, h4, h5, h6⟩ := DCall.rd h
  have hR := DCall.mk_rd h0 h1 h2 h3 h4 h5 h6
  cases hg : callGood x with
  | false => exact sCallT_no W hR h1 h5 hg
  | true =>
    have hk := (clGood hg).k
    obtain ⟨kind, doc, client, seq, n, o, text⟩ := x
    dsimp only at hR h1 h5 h6 hk ⊢
    rcases clK_cases hk with rfl | rfl | rfl | rfl | rfl | rfl | rfl | rfl
    · exact sCallT_1 W hR h5 h6 h1 hg
    · exact sCallT_2 W hR h5 h6 h1 hg
    · exact sCallT_3 W hR h5 h6 h1 hg
    · exact sCallT_4 W hR h5 h6 h1 hg
    · exact sCallT_5 W hR h5 h6 h1 hg
    · exact sCallT_6 W hR h5 h6 h1 hg
    · exact sCallT_7 W hR h5 h6 h1 hg
    · exact sCallT_8 W hR h5 h6 h1 hg
end Go.Proofs.YtiobmbicldjikaaGreatDoor
