/- The program's texts of calls. No condition. -/
import Derived.Test.YtiobmbicldjikaaGreatDoorCallJoin

set_option linter.unusedVariables false

set_option linter.unusedSimpArgs false

namespace Go.Proofs.YtiobmbicldjikaaGreatDoor

--EIGHT--
theorem callT_1 {doc : ByteArray} {client seq n : Int} {o : List DPart} {text : List Int} (hg : callGood ⟨1, doc, client, seq, n, o, text⟩ = true) : callT ⟨1, doc, client, seq, n, o, text⟩ = (clName 1 ++ (⟨#[32]⟩ ++ doc)) ++ (⟨#[32]⟩ ++ str (signT text)) := by
  rw [callT_words hg]
  have e : callWords ⟨1, doc, client, seq, n, o, text⟩ = [nameL (clName 1), nameL (doc), nameL (str (signT text))] := by unfold callWords; simp [onDoc, hasWho, hasN, inR, nameL_str]
  rw [e]
  simp only [str_join2, str_join1, str_nameL, ByteArray.append_assoc]
theorem iCallT_1 (W : World) (hL : LibOk W) {doc : ByteArray} {client seq n : Int} {o : List DPart} {text : List Int} {a0 a1 : Option Addr} {c0 c1 : Nat} (hR : Rd W [.int .i64 1, .string doc, .int .i64 client, .int .i64 seq, .int .i64 n, .slice a0 o.length c0, .slice a1 text.length c1] (⟨1, doc, client, seq, n, o, text⟩ : DCall)) (h5 : RdS W a0 c0 o) (h6 : RdS W a1 c1 text) (h1 : SB doc) (hg : callGood ⟨1, doc, client, seq, n, o, text⟩ = true) :
    CR Tryz.prog 10 [.agg #[.int .i64 1, .string doc, .int .i64 client, .int .i64 seq, .int .i64 n, .slice a0 o.length c0, .slice a1 text.length c1]] W (Is (.string (callT ⟨1, doc, client, seq, n, o, text⟩))) := by
  have hd := callT_1 hg
  obtain ⟨g1, g2, g3, g4, g5, g6, g7, g8, g9⟩ := callGood_parts hg
  dsimp only at g1 g2 g3 g4 g5 g6 g7 g8 g9
  clear hg
  have k0 := cw (W := W) fun w hw => iCallOk_c w (hR.st hw)
  have k1 := cw (W := W) fun w hw => iOpOk_c w (h5.st hw)
  have k2 := cw (W := W) fun w hw => iOnDoc_c w 1
  have k3 := cw (W := W) fun w hw => iNameOk_c w doc h1
  have k4 := fun x y z => cw (W := W) fun w hw => within_c w x y z
  have k5 := cw (W := W) fun w hw => iClName_c w 1
  have k6 := fun z => cw (W := W) fun w hw => iNum_c w (hL.st hw) z
  have k7 := cw (W := W) fun w hw => iSignT_c w (hL.st hw) (h6.st hw) (by omega)
  have k8 := cw (W := W) fun w hw => iOpW_c w (hL.st hw) (h5.st hw)
  rw [g1] at k0
  rw [g2] at k1
  rw [g6 rfl] at k3
  have z0 := clName_size 1
  have z1 := numT_len client
  have z2 := numT_len seq
  have z3 := numT_len n
  have z4 := signT_len text
  have z5 := opW_len o
  clear g6 g7
  refine calls_j Tryz.func10 rfl rfl rfl ?_
  rw [hd]
  clear hd
  exact r0
theorem callT_2 {doc : ByteArray} {client seq n : Int} {o : List DPart} {text : List Int} (hg : callGood ⟨2, doc, client, seq, n, o, text⟩ = true) : callT ⟨2, doc, client, seq, n, o, text⟩ = (clName 2 ++ (⟨#[32]⟩ ++ doc)) ++ (((((((⟨#[32]⟩ ++ str (numT client)) ++ ⟨#[32]⟩) ++ str (numT seq)) ++ ⟨#[32]⟩) ++ str (numT n)) ++ ⟨#[32]⟩) ++ str (opW o)) := by
  rw [callT_words hg]
  have e : callWords ⟨2, doc, client, seq, n, o, text⟩ = [nameL (clName 2), nameL (doc), nameL (str (numT client)), nameL (str (numT seq)), nameL (str (numT n)), nameL (str (opW o))] := by unfold callWords; simp [onDoc, hasWho, hasN, inR, nameL_str]
  rw [e]
  simp only [str_join2, str_join1, str_nameL, ByteArray.append_assoc]
theorem iCallT_2 (W : World) (hL : LibOk W) {doc : ByteArray} {client seq n : Int} {o : List DPart} {text : List Int} {a0 a1 : Option Addr} {c0 c1 : Nat} (hR : Rd W [.int .i64 2, .string doc, .int .i64 client, .int .i64 seq, .int .i64 n, .slice a0 o.length c0, .slice a1 text.length c1] (⟨2, doc, client, seq, n, o, text⟩ : DCall)) (h5 : RdS W a0 c0 o) (h6 : RdS W a1 c1 text) (h1 : SB doc) (hg : callGood ⟨2, doc, client, seq, n, o, text⟩ = true) :
    CR Tryz.prog 10 [.agg #[.int .i64 2, .string doc, .int .i64 client, .int .i64 seq, .int .i64 n, .slice a0 o.length c0, .slice a1 text.length c1]] W (Is (.string (callT ⟨2, doc, client, seq, n, o, text⟩))) := by
  have hd := callT_2 hg
  obtain ⟨g1, g2, g3, g4, g5, g6, g7, g8, g9⟩ := callGood_parts hg
  dsimp only at g1 g2 g3 g4 g5 g6 g7 g8 g9
  clear hg
  have k0 := cw (W := W) fun w hw => iCallOk_c w (hR.st hw)
  have k1 := cw (W := W) fun w hw => iOpOk_c w (h5.st hw)
  have k2 := cw (W := W) fun w hw => iOnDoc_c w 2
  have k3 := cw (W := W) fun w hw => iNameOk_c w doc h1
  have k4 := fun x y z => cw (W := W) fun w hw => within_c w x y z
  have k5 := cw (W := W) fun w hw => iClName_c w 2
  have k6 := fun z => cw (W := W) fun w hw => iNum_c w (hL.st hw) z
  have k7 := cw (W := W) fun w hw => iSignT_c w (hL.st hw) (h6.st hw) (by omega)
  have k8 := cw (W := W) fun w hw => iOpW_c w (hL.st hw) (h5.st hw)
  rw [g1] at k0
  rw [g2] at k1
  rw [g6 rfl] at k3
  have z0 := clName_size 2
  have z1 := numT_len client
  have z2 := numT_len seq
  have z3 := numT_len n
  have z4 := signT_len text
  have z5 := opW_len o
  clear g6 g7
  refine calls_j Tryz.func10 rfl rfl rfl ?_
  rw [hd]
  clear hd
  exact r0
theorem callT_3 {doc : ByteArray} {client seq n : Int} {o : List DPart} {text : List Int} (hg : callGood ⟨3, doc, client, seq, n, o, text⟩ = true) : callT ⟨3, doc, client, seq, n, o, text⟩ = (clName 3 ++ (⟨#[32]⟩ ++ doc)) ++ (⟨#[32]⟩ ++ str (numT n)) := by
  rw [callT_words hg]
  have e : callWords ⟨3, doc, client, seq, n, o, text⟩ = [nameL (clName 3), nameL (doc), nameL (str (numT n))] := by unfold callWords; simp [onDoc, hasWho, hasN, inR, nameL_str]
  rw [e]
  simp only [str_join2, str_join1, str_nameL, ByteArray.append_assoc]
theorem iCallT_3 (W : World) (hL : LibOk W) {doc : ByteArray} {client seq n : Int} {o : List DPart} {text : List Int} {a0 a1 : Option Addr} {c0 c1 : Nat} (hR : Rd W [.int .i64 3, .string doc, .int .i64 client, .int .i64 seq, .int .i64 n, .slice a0 o.length c0, .slice a1 text.length c1] (⟨3, doc, client, seq, n, o, text⟩ : DCall)) (h5 : RdS W a0 c0 o) (h6 : RdS W a1 c1 text) (h1 : SB doc) (hg : callGood ⟨3, doc, client, seq, n, o, text⟩ = true) :
    CR Tryz.prog 10 [.agg #[.int .i64 3, .string doc, .int .i64 client, .int .i64 seq, .int .i64 n, .slice a0 o.length c0, .slice a1 text.length c1]] W (Is (.string (callT ⟨3, doc, client, seq, n, o, text⟩))) := by
  have hd := callT_3 hg
  obtain ⟨g1, g2, g3, g4, g5, g6, g7, g8, g9⟩ := callGood_parts hg
  dsimp only at g1 g2 g3 g4 g5 g6 g7 g8 g9
  clear hg
  have k0 := cw (W := W) fun w hw => iCallOk_c w (hR.st hw)
  have k1 := cw (W := W) fun w hw => iOpOk_c w (h5.st hw)
  have k2 := cw (W := W) fun w hw => iOnDoc_c w 3
  have k3 := cw (W := W) fun w hw => iNameOk_c w doc h1
  have k4 := fun x y z => cw (W := W) fun w hw => within_c w x y z
  have k5 := cw (W := W) fun w hw => iClName_c w 3
  have k6 := fun z => cw (W := W) fun w hw => iNum_c w (hL.st hw) z
  have k7 := cw (W := W) fun w hw => iSignT_c w (hL.st hw) (h6.st hw) (by omega)
  have k8 := cw (W := W) fun w hw => iOpW_c w (hL.st hw) (h5.st hw)
  rw [g1] at k0
  rw [g2] at k1
  rw [g6 rfl] at k3
  have z0 := clName_size 3
  have z1 := numT_len client
  have z2 := numT_len seq
  have z3 := numT_len n
  have z4 := signT_len text
  have z5 := opW_len o
  clear g6 g7
  refine calls_j Tryz.func10 rfl rfl rfl ?_
  rw [hd]
  clear hd
  exact r0
theorem callT_4 {doc : ByteArray} {client seq n : Int} {o : List DPart} {text : List Int} (hg : callGood ⟨4, doc, client, seq, n, o, text⟩ = true) : callT ⟨4, doc, client, seq, n, o, text⟩ = (clName 4 ++ (⟨#[32]⟩ ++ doc)) := by
  rw [callT_words hg]
  have e : callWords ⟨4, doc, client, seq, n, o, text⟩ = [nameL (clName 4), nameL (doc)] := by unfold callWords; simp [onDoc, hasWho, hasN, inR, nameL_str]
  rw [e]
  simp only [str_join2, str_join1, str_nameL, ByteArray.append_assoc]
theorem iCallT_4 (W : World) (hL : LibOk W) {doc : ByteArray} {client seq n : Int} {o : List DPart} {text : List Int} {a0 a1 : Option Addr} {c0 c1 : Nat} (hR : Rd W [.int .i64 4, .string doc, .int .i64 client, .int .i64 seq, .int .i64 n, .slice a0 o.length c0, .slice a1 text.length c1] (⟨4, doc, client, seq, n, o, text⟩ : DCall)) (h5 : RdS W a0 c0 o) (h6 : RdS W a1 c1 text) (h1 : SB doc) (hg : callGood ⟨4, doc, client, seq, n, o, text⟩ = true) :
    CR Tryz.prog 10 [.agg #[.int .i64 4, .string doc, .int .i64 client, .int .i64 seq, .int .i64 n, .slice a0 o.length c0, .slice a1 text.length c1]] W (Is (.string (callT ⟨4, doc, client, seq, n, o, text⟩))) := by
  have hd := callT_4 hg
  obtain ⟨g1, g2, g3, g4, g5, g6, g7, g8, g9⟩ := callGood_parts hg
  dsimp only at g1 g2 g3 g4 g5 g6 g7 g8 g9
  clear hg
  have k0 := cw (W := W) fun w hw => iCallOk_c w (hR.st hw)
  have k1 := cw (W := W) fun w hw => iOpOk_c w (h5.st hw)
  have k2 := cw (W := W) fun w hw => iOnDoc_c w 4
  have k3 := cw (W := W) fun w hw => iNameOk_c w doc h1
  have k4 := fun x y z => cw (W := W) fun w hw => within_c w x y z
  have k5 := cw (W := W) fun w hw => iClName_c w 4
  have k6 := fun z => cw (W := W) fun w hw => iNum_c w (hL.st hw) z
  have k7 := cw (W := W) fun w hw => iSignT_c w (hL.st hw) (h6.st hw) (by omega)
  have k8 := cw (W := W) fun w hw => iOpW_c w (hL.st hw) (h5.st hw)
  rw [g1] at k0
  rw [g2] at k1
  rw [g6 rfl] at k3
  have z0 := clName_size 4
  have z1 := numT_len client
  have z2 := numT_len seq
  have z3 := numT_len n
  have z4 := signT_len text
  have z5 := opW_len o
  clear g6 g7
  refine calls_j Tryz.func10 rfl rfl rfl ?_
  rw [hd]
  clear hd
  exact r0
theorem callT_5 {doc : ByteArray} {client seq n : Int} {o : List DPart} {text : List Int} (hg : callGood ⟨5, doc, client, seq, n, o, text⟩ = true) : callT ⟨5, doc, client, seq, n, o, text⟩ = (clName 5 ++ (⟨#[32]⟩ ++ doc)) ++ (⟨#[32]⟩ ++ str (numT n)) := by
  rw [callT_words hg]
  have e : callWords ⟨5, doc, client, seq, n, o, text⟩ = [nameL (clName 5), nameL (doc), nameL (str (numT n))] := by unfold callWords; simp [onDoc, hasWho, hasN, inR, nameL_str]
  rw [e]
  simp only [str_join2, str_join1, str_nameL, ByteArray.append_assoc]
theorem iCallT_5 (W : World) (hL : LibOk W) {doc : ByteArray} {client seq n : Int} {o : List DPart} {text : List Int} {a0 a1 : Option Addr} {c0 c1 : Nat} (hR : Rd W [.int .i64 5, .string doc, .int .i64 client, .int .i64 seq, .int .i64 n, .slice a0 o.length c0, .slice a1 text.length c1] (⟨5, doc, client, seq, n, o, text⟩ : DCall)) (h5 : RdS W a0 c0 o) (h6 : RdS W a1 c1 text) (h1 : SB doc) (hg : callGood ⟨5, doc, client, seq, n, o, text⟩ = true) :
    CR Tryz.prog 10 [.agg #[.int .i64 5, .string doc, .int .i64 client, .int .i64 seq, .int .i64 n, .slice a0 o.length c0, .slice a1 text.length c1]] W (Is (.string (callT ⟨5, doc, client, seq, n, o, text⟩))) := by
  have hd := callT_5 hg
  obtain ⟨g1, g2, g3, g4, g5, g6, g7, g8, g9⟩ := callGood_parts hg
  dsimp only at g1 g2 g3 g4 g5 g6 g7 g8 g9
  clear hg
  have k0 := cw (W := W) fun w hw => iCallOk_c w (hR.st hw)
  have k1 := cw (W := W) fun w hw => iOpOk_c w (h5.st hw)
  have k2 := cw (W := W) fun w hw => iOnDoc_c w 5
  have k3 := cw (W := W) fun w hw => iNameOk_c w doc h1
  have k4 := fun x y z => cw (W := W) fun w hw => within_c w x y z
  have k5 := cw (W := W) fun w hw => iClName_c w 5
  have k6 := fun z => cw (W := W) fun w hw => iNum_c w (hL.st hw) z
  have k7 := cw (W := W) fun w hw => iSignT_c w (hL.st hw) (h6.st hw) (by omega)
  have k8 := cw (W := W) fun w hw => iOpW_c w (hL.st hw) (h5.st hw)
  rw [g1] at k0
  rw [g2] at k1
  rw [g6 rfl] at k3
  have z0 := clName_size 5
  have z1 := numT_len client
  have z2 := numT_len seq
  have z3 := numT_len n
  have z4 := signT_len text
  have z5 := opW_len o
  clear g6 g7
  refine calls_j Tryz.func10 rfl rfl rfl ?_
  rw [hd]
  clear hd
  exact r0
theorem callT_6 {doc : ByteArray} {client seq n : Int} {o : List DPart} {text : List Int} (hg : callGood ⟨6, doc, client, seq, n, o, text⟩ = true) : callT ⟨6, doc, client, seq, n, o, text⟩ = clName 6 ++ (((⟨#[32]⟩ ++ str (numT client)) ++ ⟨#[32]⟩) ++ str (numT n)) := by
  rw [callT_words hg]
  have e : callWords ⟨6, doc, client, seq, n, o, text⟩ = [nameL (clName 6), nameL (str (numT client)), nameL (str (numT n))] := by unfold callWords; simp [onDoc, hasWho, hasN, inR, nameL_str]
  rw [e]
  simp only [str_join2, str_join1, str_nameL, ByteArray.append_assoc]
theorem iCallT_6 (W : World) (hL : LibOk W) {doc : ByteArray} {client seq n : Int} {o : List DPart} {text : List Int} {a0 a1 : Option Addr} {c0 c1 : Nat} (hR : Rd W [.int .i64 6, .string doc, .int .i64 client, .int .i64 seq, .int .i64 n, .slice a0 o.length c0, .slice a1 text.length c1] (⟨6, doc, client, seq, n, o, text⟩ : DCall)) (h5 : RdS W a0 c0 o) (h6 : RdS W a1 c1 text) (h1 : SB doc) (hg : callGood ⟨6, doc, client, seq, n, o, text⟩ = true) :
    CR Tryz.prog 10 [.agg #[.int .i64 6, .string doc, .int .i64 client, .int .i64 seq, .int .i64 n, .slice a0 o.length c0, .slice a1 text.length c1]] W (Is (.string (callT ⟨6, doc, client, seq, n, o, text⟩))) := by
  have hd := callT_6 hg
  obtain ⟨g1, g2, g3, g4, g5, g6, g7, g8, g9⟩ := callGood_parts hg
  dsimp only at g1 g2 g3 g4 g5 g6 g7 g8 g9
  clear hg
  have k0 := cw (W := W) fun w hw => iCallOk_c w (hR.st hw)
  have k1 := cw (W := W) fun w hw => iOpOk_c w (h5.st hw)
  have k2 := cw (W := W) fun w hw => iOnDoc_c w 6
  have k3 := cw (W := W) fun w hw => iNameOk_c w doc h1
  have k4 := fun x y z => cw (W := W) fun w hw => within_c w x y z
  have k5 := cw (W := W) fun w hw => iClName_c w 6
  have k6 := fun z => cw (W := W) fun w hw => iNum_c w (hL.st hw) z
  have k7 := cw (W := W) fun w hw => iSignT_c w (hL.st hw) (h6.st hw) (by omega)
  have k8 := cw (W := W) fun w hw => iOpW_c w (hL.st hw) (h5.st hw)
  rw [g1] at k0
  rw [g2] at k1
  skip
  have z0 := clName_size 6
  have z1 := numT_len client
  have z2 := numT_len seq
  have z3 := numT_len n
  have z4 := signT_len text
  have z5 := opW_len o
  clear g6 g7
  refine calls_j Tryz.func10 rfl rfl rfl ?_
  rw [hd]
  clear hd
  exact r0
theorem callT_7 {doc : ByteArray} {client seq n : Int} {o : List DPart} {text : List Int} (hg : callGood ⟨7, doc, client, seq, n, o, text⟩ = true) : callT ⟨7, doc, client, seq, n, o, text⟩ = clName 7 ++ (⟨#[32]⟩ ++ str (numT client)) := by
  rw [callT_words hg]
  have e : callWords ⟨7, doc, client, seq, n, o, text⟩ = [nameL (clName 7), nameL (str (numT client))] := by unfold callWords; simp [onDoc, hasWho, hasN, inR, nameL_str]
  rw [e]
  simp only [str_join2, str_join1, str_nameL, ByteArray.append_assoc]
theorem iCallT_7 (W : World) (hL : LibOk W) {doc : ByteArray} {client seq n : Int} {o : List DPart} {text : List Int} {a0 a1 : Option Addr} {c0 c1 : Nat} (hR : Rd W [.int .i64 7, .string doc, .int .i64 client, .int .i64 seq, .int .i64 n, .slice a0 o.length c0, .slice a1 text.length c1] (⟨7, doc, client, seq, n, o, text⟩ : DCall)) (h5 : RdS W a0 c0 o) (h6 : RdS W a1 c1 text) (h1 : SB doc) (hg : callGood ⟨7, doc, client, seq, n, o, text⟩ = true) :
    CR Tryz.prog 10 [.agg #[.int .i64 7, .string doc, .int .i64 client, .int .i64 seq, .int .i64 n, .slice a0 o.length c0, .slice a1 text.length c1]] W (Is (.string (callT ⟨7, doc, client, seq, n, o, text⟩))) := by
  have hd := callT_7 hg
  obtain ⟨g1, g2, g3, g4, g5, g6, g7, g8, g9⟩ := callGood_parts hg
  dsimp only at g1 g2 g3 g4 g5 g6 g7 g8 g9
  clear hg
  have k0 := cw (W := W) fun w hw => iCallOk_c w (hR.st hw)
  have k1 := cw (W := W) fun w hw => iOpOk_c w (h5.st hw)
  have k2 := cw (W := W) fun w hw => iOnDoc_c w 7
  have k3 := cw (W := W) fun w hw => iNameOk_c w doc h1
  have k4 := fun x y z => cw (W := W) fun w hw => within_c w x y z
  have k5 := cw (W := W) fun w hw => iClName_c w 7
  have k6 := fun z => cw (W := W) fun w hw => iNum_c w (hL.st hw) z
  have k7 := cw (W := W) fun w hw => iSignT_c w (hL.st hw) (h6.st hw) (by omega)
  have k8 := cw (W := W) fun w hw => iOpW_c w (hL.st hw) (h5.st hw)
  rw [g1] at k0
  rw [g2] at k1
  skip
  have z0 := clName_size 7
  have z1 := numT_len client
  have z2 := numT_len seq
  have z3 := numT_len n
  have z4 := signT_len text
  have z5 := opW_len o
  clear g6 g7
  refine calls_j Tryz.func10 rfl rfl rfl ?_
  rw [hd]
  clear hd
  exact r0
theorem callT_8 {doc : ByteArray} {client seq n : Int} {o : List DPart} {text : List Int} (hg : callGood ⟨8, doc, client, seq, n, o, text⟩ = true) : callT ⟨8, doc, client, seq, n, o, text⟩ = clName 8 := by
  rw [callT_words hg]
  have e : callWords ⟨8, doc, client, seq, n, o, text⟩ = [nameL (clName 8)] := by unfold callWords; simp [onDoc, hasWho, hasN, inR, nameL_str]
  rw [e]
  simp only [str_join2, str_join1, str_nameL, ByteArray.append_assoc]
theorem iCallT_8 (W : World) (hL : LibOk W) {doc : ByteArray} {client seq n : Int} {o : List DPart} {text : List Int} {a0 a1 : Option Addr} {c0 c1 : Nat} (hR : Rd W [.int .i64 8, .string doc, .int .i64 client, .int .i64 seq, .int .i64 n, .slice a0 o.length c0, .slice a1 text.length c1] (⟨8, doc, client, seq, n, o, text⟩ : DCall)) (h5 : RdS W a0 c0 o) (h6 : RdS W a1 c1 text) (h1 : SB doc) (hg : callGood ⟨8, doc, client, seq, n, o, text⟩ = true) :
    CR Tryz.prog 10 [.agg #[.int .i64 8, .string doc, .int .i64 client, .int .i64 seq, .int .i64 n, .slice a0 o.length c0, .slice a1 text.length c1]] W (Is (.string (callT ⟨8, doc, client, seq, n, o, text⟩))) := by
  have hd := callT_8 hg
  obtain ⟨g1, g2, g3, g4, g5, g6, g7, g8, g9⟩ := callGood_parts hg
  dsimp only at g1 g2 g3 g4 g5 g6 g7 g8 g9
  clear hg
  have k0 := cw (W := W) fun w hw => iCallOk_c w (hR.st hw)
  have k1 := cw (W := W) fun w hw => iOpOk_c w (h5.st hw)
  have k2 := cw (W := W) fun w hw => iOnDoc_c w 8
  have k3 := cw (W := W) fun w hw => iNameOk_c w doc h1
  have k4 := fun x y z => cw (W := W) fun w hw => within_c w x y z
  have k5 := cw (W := W) fun w hw => iClName_c w 8
  have k6 := fun z => cw (W := W) fun w hw => iNum_c w (hL.st hw) z
  have k7 := cw (W := W) fun w hw => iSignT_c w (hL.st hw) (h6.st hw) (by omega)
  have k8 := cw (W := W) fun w hw => iOpW_c w (hL.st hw) (h5.st hw)
  rw [g1] at k0
  rw [g2] at k1
  skip
  have z0 := clName_size 8
  have z1 := numT_len client
  have z2 := numT_len seq
  have z3 := numT_len n
  have z4 := signT_len text
  have z5 := opW_len o
  clear g6 g7
  refine calls_j Tryz.func10 rfl rfl rfl ?_
  rw [hd]
  clear hd
  exact r0
--EIGHT--
theorem iCallT_no (W : World) {x : DCall} {a0 a1 : Option Addr} {c0 c1 : Nat} (hR : Rd W [.int .i64 x.kind, .string x.doc, .int .i64 x.client, .int .i64 x.seq, .int .i64 x.n, .slice a0 x.o.length c0, .slice a1 x.text.length c1] x) (h1 : SB x.doc) (h5 : RdS W a0 c0 x.o) (hg : callGood x = false) :
    CR Tryz.prog 10 [.agg #[.int .i64 x.kind, .string x.doc, .int .i64 x.client, .int .i64 x.seq, .int .i64 x.n, .slice a0 x.o.length c0, .slice a1 x.text.length c1]] W (Is (.string (callT x))) := by
  refine calls_j Tryz.func10 rfl rfl rfl ?_
  rw [good_no hg]
  have k0 := cw (W := W) fun w hw => iCallOk_c w (hR.st hw)
  have k1 := cw (W := W) fun w hw => iOpOk_c w (h5.st hw)
  have k2 := fun z => cw (W := W) fun w hw => iOnDoc_c w z
  have k3 := cw (W := W) fun w hw => iNameOk_c w x.doc h1
  have k4 := fun x y z => cw (W := W) fun w hw => within_c w x y z
  have d := callGood.eq_1 x
  rw [hg] at d
  refine r2 ?_ ?_
  · intro _ g1 g2 g3 g4 g5 g6 g7
    rw [g1, g2, g3, g4, g5, g6, g7] at d
    exact absurd d (by simp)
  · intro _ g1 g2 g3 g4 g5 g6
    rw [g1, g2, g3, g4, g5, g6] at d
    exact absurd d (by simp)
theorem iCallT_c (W : World) (hL : LibOk W) {c : List Value} {x : DCall} (h : Rd W c x) : CR Tryz.prog 10 [.agg c.toArray] W (Is (.string (callT x))) := by
  obtain ⟨a0, c0, a1, c1, rfl, h0, h1, h2, h3, h4, h5, h6⟩ := DCall.rd h
  have hR := DCall.mk_rd h0 h1 h2 h3 h4 h5 h6
  cases hg : callGood x with
  | false => exact iCallT_no W hR h1 h5 hg
  | true =>
    have hk := (clGood hg).k
    obtain ⟨kind, doc, client, seq, n, o, text⟩ := x
    dsimp only at hR h1 h5 h6 hk ⊢
    rcases clK_cases hk with rfl | rfl | rfl | rfl | rfl | rfl | rfl | rfl
    · exact iCallT_1 W hL hR h5 h6 h1 hg
    · exact iCallT_2 W hL hR h5 h6 h1 hg
    · exact iCallT_3 W hL hR h5 h6 h1 hg
    · exact iCallT_4 W hL hR h5 h6 h1 hg
    · exact iCallT_5 W hL hR h5 h6 h1 hg
    · exact iCallT_6 W hL hR h5 h6 h1 hg
    · exact iCallT_7 W hL hR h5 h6 h1 hg
    · exact iCallT_8 W hL hR h5 h6 h1 hg
end Go.Proofs.YtiobmbicldjikaaGreatDoor
