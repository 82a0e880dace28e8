/- What the proofs of this seat's laws rest on: how the program's functions compute, each for every input. No further condition. Part 6 of 7. -/
import Derived.Test.YtjbdfkapnffjnaaGreatVx5
namespace Go.Proofs.YtjbdfkapnffjnaaGreat
noncomputable section
set_option linter.unusedSimpArgs false
set_option linter.unusedVariables false
set_option maxRecDepth 100000
set_option maxHeartbeats 4000000
def law11_begun : Option (Bool) :=
  (closed_Check ([(ApiClass.mk [70,97,99,101] [79,98,106,101,99,116] true [] [] ([(ApiMethod.mk [102] [] [73] false true 0 0 [] [] [])])),(ApiClass.mk [65,97] [79,98,106,101,99,116] false ([[70,97,99,101]]) ([(ApiField.mk [120] [73] false),(ApiField.mk [115] [73] true)]) ([(ApiMethod.mk [102] [] [73] false false 1 1 ([(ApiIns.mk 1 5 [] []),(ApiIns.mk 47 0 [] [])]) [] [])])),(ApiClass.mk [66,98] [65,97] false [] ([(ApiField.mk [121] [91,65,97] false)]) ([(ApiMethod.mk [109,97,105,110] [] [86] true false 0 0 ([(ApiIns.mk 46 0 [] [])]) [] [])]))]) (ApiEntry.mk [66,98] [109,97,105,110])).bind fun v1=>(closed_Check ([(ApiClass.mk [70,97,99,101] [79,98,106,101,99,116] true [] [] ([(ApiMethod.mk [102] [] [73] false true 0 0 [] [] [])])),(ApiClass.mk [65,97] [79,98,106,101,99,116] false ([[70,97,99,101]]) ([(ApiField.mk [120] [73] false),(ApiField.mk [115] [73] true)]) ([(ApiMethod.mk [102] [] [73] false false 1 1 ([(ApiIns.mk 1 5 [] []),(ApiIns.mk 47 0 [] [])]) [] [])])),(ApiClass.mk [66,98] [65,97] false [] ([(ApiField.mk [121] [91,65,97] false)]) ([(ApiMethod.mk [109,97,105,110] [] [86] true false 0 0 ([(ApiIns.mk 46 0 [] [])]) [] [])]))]) (ApiEntry.mk [66,98] [102])).bind fun v2=>(closed_Check ([(ApiClass.mk [70,97,99,101] [79,98,106,101,99,116] true [] [] ([(ApiMethod.mk [102] [] [73] false true 0 0 [] [] [])])),(ApiClass.mk [65,97] [79,98,106,101,99,116] false ([[70,97,99,101]]) ([(ApiField.mk [120] [73] false),(ApiField.mk [115] [73] true)]) []),(ApiClass.mk [66,98] [65,97] false [] ([(ApiField.mk [121] [91,65,97] false)]) ([(ApiMethod.mk [109,97,105,110] [] [86] true false 0 0 ([(ApiIns.mk 46 0 [] [])]) [] [])]))]) (ApiEntry.mk [66,98] [109,97,105,110])).bind fun v3=>(law10_Begun).bind fun v4=>(cond ((((v4 && (v1.2 == (0 : Int))) && (!Option.isNone v1.1)) && (v2.2 == (4 : Int))) && (v3.2 == (1 : Int))) ((closed_Linked v1.1).bind fun v5=>some (v5 == (0 : Int))) (some false)).bind fun v6=>some v6
theorem law11_begun_ok {r : Bool} (h : law11_begun = some r) : PureC Tryz.prog 44 [] (bA r):=by
 refine pure_fn Tryz.func44 j0 (by kernel_rfl) j0 j0 ?_
 unfold law11_begun at h
 refine rg j0<|u<|asg j0<|r_nil ?_
 obtain ⟨v1,q1,h⟩:=bs h
 refine rg j0<|u<|sc [] (law7_Two_ok j0) j0 j0 j0 j0 j5 j5<|r_can (env0:=[(9,.msl 0 0 3)]) (st0:=[some (6,[[sA [70,97,99,101],sA [79,98,106,101,99,116],bA true,.lit (.slice none 0 0),.lit (.slice none 0 0),.msl 1 0 1],[sA [65,97],sA [79,98,106,101,99,116],bA false,.msl 2 0 1,.msl 3 0 2,.msl 4 0 1],[sA [66,98],sA [65,97],bA false,.lit (.slice none 0 0),.msl 6 0 1,.msl 7 0 1]]),some (10,[[sA [102],.lit (.slice none 0 0),sA [73],bA false,bA true,iA 0,iA 0,.lit (.slice none 0 0),.lit (.slice none 0 0),.lit (.slice none 0 0)]]),some (1,[[sA [70,97,99,101]]]),some (3,[[sA [120],sA [73],bA false],[sA [115],sA [73],bA true]]),some (10,[[sA [102],.lit (.slice none 0 0),sA [73],bA false,bA false,iA 1,iA 1,.msl 5 0 2,.lit (.slice none 0 0),.lit (.slice none 0 0)]]),some (4,[[iA 1,iA 5,sA [],sA []],[iA 47,iA 0,sA [],sA []]]),some (3,[[sA [121],sA [91,65,97],bA false]]),some (10,[[sA [109,97,105,110],.lit (.slice none 0 0),sA [86],bA true,bA false,iA 0,iA 0,.msl 8 0 1,.lit (.slice none 0 0),.lit (.slice none 0 0)]]),some (4,[[iA 46,iA 0,sA [],sA []]])]) ⟨[.old 0,.old 1,.old 2,.old 3,.old 4,.old 5,.old 6,.old 7,.old 8],cv j0 (.msl j0)<|cn,j0,⟨⟨_,j0,rsRows ⟨⟨(ci j0),(ci j0),(ci j0),(ci j0),(ci j0),(.msl j0),j5⟩,⟨(ci j0),(ci j0),(ci j0),(.msl j0),(.msl j0),(.msl j0),j5⟩,⟨(ci j0),(ci j0),(ci j0),(ci j0),(.msl j0),(.msl j0),j5⟩,j5⟩⟩,⟨_,j0,rsRows ⟨⟨(ci j0),(ci j0),(ci j0),(ci j0),(ci j0),(ci j0),(ci j0),(ci j0),(ci j0),(ci j0),j5⟩,j5⟩⟩,⟨_,j0,rsRows ⟨⟨(ci j0),j5⟩,j5⟩⟩,⟨_,j0,rsRows ⟨⟨(ci j0),(ci j0),(ci j0),j5⟩,⟨(ci j0),(ci j0),(ci j0),j5⟩,j5⟩⟩,⟨_,j0,rsRows ⟨⟨(ci j0),(ci j0),(ci j0),(ci j0),(ci j0),(ci j0),(ci j0),(.msl j0),(ci j0),(ci j0),j5⟩,j5⟩⟩,⟨_,j0,rsRows ⟨⟨(ci j0),(ci j0),(ci j0),(ci j0),j5⟩,⟨(ci j0),(ci j0),(ci j0),(ci j0),j5⟩,j5⟩⟩,⟨_,j0,rsRows ⟨⟨(ci j0),(ci j0),(ci j0),j5⟩,j5⟩⟩,⟨_,j0,rsRows ⟨⟨(ci j0),(ci j0),(ci j0),(ci j0),(ci j0),(ci j0),(ci j0),(.msl j0),(ci j0),(ci j0),j5⟩,j5⟩⟩,⟨_,j0,rsRows ⟨⟨(ci j0),(ci j0),(ci j0),(ci j0),j5⟩,j5⟩⟩,j5⟩,j0,j1⟩<|u<|bd ti94 j0 j0 j0<|r_can (env0:=[(9,.isl 6 (List.map rApiClass ([(ApiClass.mk [70,97,99,101] [79,98,106,101,99,116] true [] [] ([(ApiMethod.mk [102] [] [73] false true 0 0 [] [] [])])),(ApiClass.mk [65,97] [79,98,106,101,99,116] false ([[70,97,99,101]]) ([(ApiField.mk [120] [73] false),(ApiField.mk [115] [73] true)]) ([(ApiMethod.mk [102] [] [73] false false 1 1 ([(ApiIns.mk 1 5 [] []),(ApiIns.mk 47 0 [] [])]) [] [])])),(ApiClass.mk [66,98] [65,97] false [] ([(ApiField.mk [121] [91,65,97] false)]) ([(ApiMethod.mk [109,97,105,110] [] [86] true false 0 0 ([(ApiIns.mk 46 0 [] [])]) [] [])]))]))),(10,.agg [sA [66,98],sA [109,97,105,110]])]) (st0:=[]) ⟨[],cv j0 (rsSealX j0 j0 ⟨⟨⟨ci j0,ci j0,ci j0,.nil,.nil,rsSealX j0 j0 ⟨⟨⟨ci j0,.nil,ci j0,ci j0,ci j0,ci j0,ci j0,.nil,.nil,.nil,j5⟩,j0⟩,j5⟩,j5⟩,j0⟩,⟨⟨ci j0,ci j0,ci j0,rsSealX j0 j0 ⟨⟨⟨ci j0,j5⟩,j0⟩,j5⟩,rsSealX j0 j0 ⟨⟨⟨ci j0,ci j0,ci j0,j5⟩,j0⟩,⟨⟨ci j0,ci j0,ci j0,j5⟩,j0⟩,j5⟩,rsSealX j0 j0 ⟨⟨⟨ci j0,.nil,ci j0,ci j0,ci j0,ci j0,ci j0,rsSealX j0 j0 ⟨⟨⟨ci j0,ci j0,ci j0,ci j0,j5⟩,j0⟩,⟨⟨ci j0,ci j0,ci j0,ci j0,j5⟩,j0⟩,j5⟩,.nil,.nil,j5⟩,j0⟩,j5⟩,j5⟩,j0⟩,⟨⟨ci j0,ci j0,ci j0,.nil,rsSealX j0 j0 ⟨⟨⟨ci j0,ci j0,ci j0,j5⟩,j0⟩,j5⟩,rsSealX j0 j0 ⟨⟨⟨ci j0,.nil,ci j0,ci j0,ci j0,ci j0,ci j0,rsSealX j0 j0 ⟨⟨⟨ci j0,ci j0,ci j0,ci j0,j5⟩,j0⟩,j5⟩,.nil,.nil,j5⟩,j0⟩,j5⟩,j5⟩,j0⟩,j5⟩)<|ce j0 j0<|cn,j0,j5,j0,j1⟩<|u<|pc (closed_Check_ok ([(ApiClass.mk [70,97,99,101] [79,98,106,101,99,116] true [] [] ([(ApiMethod.mk [102] [] [73] false true 0 0 [] [] [])])),(ApiClass.mk [65,97] [79,98,106,101,99,116] false ([[70,97,99,101]]) ([(ApiField.mk [120] [73] false),(ApiField.mk [115] [73] true)]) ([(ApiMethod.mk [102] [] [73] false false 1 1 ([(ApiIns.mk 1 5 [] []),(ApiIns.mk 47 0 [] [])]) [] [])])),(ApiClass.mk [66,98] [65,97] false [] ([(ApiField.mk [121] [91,65,97] false)]) ([(ApiMethod.mk [109,97,105,110] [] [86] true false 0 0 ([(ApiIns.mk 46 0 [] [])]) [] [])]))]) (ApiEntry.mk [66,98] [109,97,105,110]) q1) j0 j0 j0<|u<|mv j0<|u<|ex j0 j0<|u<|ex j0 j0<|u<|asg j0<|u<|asg j0<|r_nil ?_
 obtain ⟨v2,q2,h⟩:=bs h
 refine rg j0<|u<|sc [] (law7_Two_ok j0) j0 j0 j0 j0 j5 j5<|r_can (env0:=[(1,optP 2 rHierHier v1.1),(2,iA v1.2),(15,.msl 0 0 3)]) (st0:=[some (6,[[sA [70,97,99,101],sA [79,98,106,101,99,116],bA true,.lit (.slice none 0 0),.lit (.slice none 0 0),.msl 1 0 1],[sA [65,97],sA [79,98,106,101,99,116],bA false,.msl 2 0 1,.msl 3 0 2,.msl 4 0 1],[sA [66,98],sA [65,97],bA false,.lit (.slice none 0 0),.msl 6 0 1,.msl 7 0 1]]),some (10,[[sA [102],.lit (.slice none 0 0),sA [73],bA false,bA true,iA 0,iA 0,.lit (.slice none 0 0),.lit (.slice none 0 0),.lit (.slice none 0 0)]]),some (1,[[sA [70,97,99,101]]]),some (3,[[sA [120],sA [73],bA false],[sA [115],sA [73],bA true]]),some (10,[[sA [102],.lit (.slice none 0 0),sA [73],bA false,bA false,iA 1,iA 1,.msl 5 0 2,.lit (.slice none 0 0),.lit (.slice none 0 0)]]),some (4,[[iA 1,iA 5,sA [],sA []],[iA 47,iA 0,sA [],sA []]]),some (3,[[sA [121],sA [91,65,97],bA false]]),some (10,[[sA [109,97,105,110],.lit (.slice none 0 0),sA [86],bA true,bA false,iA 0,iA 0,.msl 8 0 1,.lit (.slice none 0 0),.lit (.slice none 0 0)]]),some (4,[[iA 46,iA 0,sA [],sA []]])]) ⟨[.old 0,.old 1,.old 2,.old 3,.old 4,.old 5,.old 6,.old 7,.old 8],cv j0 (ci (immP (fun _=>j0)))<|ce j0 j0<|cv j0 (.msl j0)<|cn,j0,⟨⟨_,j0,rsRows ⟨⟨(ci j0),(ci j0),(ci j0),(ci j0),(ci j0),(.msl j0),j5⟩,⟨(ci j0),(ci j0),(ci j0),(.msl j0),(.msl j0),(.msl j0),j5⟩,⟨(ci j0),(ci j0),(ci j0),(ci j0),(.msl j0),(.msl j0),j5⟩,j5⟩⟩,⟨_,j0,rsRows ⟨⟨(ci j0),(ci j0),(ci j0),(ci j0),(ci j0),(ci j0),(ci j0),(ci j0),(ci j0),(ci j0),j5⟩,j5⟩⟩,⟨_,j0,rsRows ⟨⟨(ci j0),j5⟩,j5⟩⟩,⟨_,j0,rsRows ⟨⟨(ci j0),(ci j0),(ci j0),j5⟩,⟨(ci j0),(ci j0),(ci j0),j5⟩,j5⟩⟩,⟨_,j0,rsRows ⟨⟨(ci j0),(ci j0),(ci j0),(ci j0),(ci j0),(ci j0),(ci j0),(.msl j0),(ci j0),(ci j0),j5⟩,j5⟩⟩,⟨_,j0,rsRows ⟨⟨(ci j0),(ci j0),(ci j0),(ci j0),j5⟩,⟨(ci j0),(ci j0),(ci j0),(ci j0),j5⟩,j5⟩⟩,⟨_,j0,rsRows ⟨⟨(ci j0),(ci j0),(ci j0),j5⟩,j5⟩⟩,⟨_,j0,rsRows ⟨⟨(ci j0),(ci j0),(ci j0),(ci j0),(ci j0),(ci j0),(ci j0),(.msl j0),(ci j0),(ci j0),j5⟩,j5⟩⟩,⟨_,j0,rsRows ⟨⟨(ci j0),(ci j0),(ci j0),(ci j0),j5⟩,j5⟩⟩,j5⟩,j0,j1⟩<|u<|bd ti94 j0 j0 j0<|r_can (env0:=[(1,optP 2 rHierHier v1.1),(2,iA v1.2),(15,.isl 6 (List.map rApiClass ([(ApiClass.mk [70,97,99,101] [79,98,106,101,99,116] true [] [] ([(ApiMethod.mk [102] [] [73] false true 0 0 [] [] [])])),(ApiClass.mk [65,97] [79,98,106,101,99,116] false ([[70,97,99,101]]) ([(ApiField.mk [120] [73] false),(ApiField.mk [115] [73] true)]) ([(ApiMethod.mk [102] [] [73] false false 1 1 ([(ApiIns.mk 1 5 [] []),(ApiIns.mk 47 0 [] [])]) [] [])])),(ApiClass.mk [66,98] [65,97] false [] ([(ApiField.mk [121] [91,65,97] false)]) ([(ApiMethod.mk [109,97,105,110] [] [86] true false 0 0 ([(ApiIns.mk 46 0 [] [])]) [] [])]))]))),(16,.agg [sA [66,98],sA [102]])]) (st0:=[]) ⟨[],cv j0 (ci (immP (fun _=>j0)))<|ce j0 j0<|cv j0 (rsSealX j0 j0 ⟨⟨⟨ci j0,ci j0,ci j0,.nil,.nil,rsSealX j0 j0 ⟨⟨⟨ci j0,.nil,ci j0,ci j0,ci j0,ci j0,ci j0,.nil,.nil,.nil,j5⟩,j0⟩,j5⟩,j5⟩,j0⟩,⟨⟨ci j0,ci j0,ci j0,rsSealX j0 j0 ⟨⟨⟨ci j0,j5⟩,j0⟩,j5⟩,rsSealX j0 j0 ⟨⟨⟨ci j0,ci j0,ci j0,j5⟩,j0⟩,⟨⟨ci j0,ci j0,ci j0,j5⟩,j0⟩,j5⟩,rsSealX j0 j0 ⟨⟨⟨ci j0,.nil,ci j0,ci j0,ci j0,ci j0,ci j0,rsSealX j0 j0 ⟨⟨⟨ci j0,ci j0,ci j0,ci j0,j5⟩,j0⟩,⟨⟨ci j0,ci j0,ci j0,ci j0,j5⟩,j0⟩,j5⟩,.nil,.nil,j5⟩,j0⟩,j5⟩,j5⟩,j0⟩,⟨⟨ci j0,ci j0,ci j0,.nil,rsSealX j0 j0 ⟨⟨⟨ci j0,ci j0,ci j0,j5⟩,j0⟩,j5⟩,rsSealX j0 j0 ⟨⟨⟨ci j0,.nil,ci j0,ci j0,ci j0,ci j0,ci j0,rsSealX j0 j0 ⟨⟨⟨ci j0,ci j0,ci j0,ci j0,j5⟩,j0⟩,j5⟩,.nil,.nil,j5⟩,j0⟩,j5⟩,j5⟩,j0⟩,j5⟩)<|ce j0 j0<|cn,j0,j5,j0,j1⟩<|u<|pc (closed_Check_ok ([(ApiClass.mk [70,97,99,101] [79,98,106,101,99,116] true [] [] ([(ApiMethod.mk [102] [] [73] false true 0 0 [] [] [])])),(ApiClass.mk [65,97] [79,98,106,101,99,116] false ([[70,97,99,101]]) ([(ApiField.mk [120] [73] false),(ApiField.mk [115] [73] true)]) ([(ApiMethod.mk [102] [] [73] false false 1 1 ([(ApiIns.mk 1 5 [] []),(ApiIns.mk 47 0 [] [])]) [] [])])),(ApiClass.mk [66,98] [65,97] false [] ([(ApiField.mk [121] [91,65,97] false)]) ([(ApiMethod.mk [109,97,105,110] [] [86] true false 0 0 ([(ApiIns.mk 46 0 [] [])]) [] [])]))]) (ApiEntry.mk [66,98] [102]) q2) j0 j0 j0<|u<|mv j0<|u<|ex j0 j0<|u<|ex j0 j0<|u<|asg j0<|u<|asg j0<|r_nil ?_
 refine rg j0<|u<|sc [] (law7_Two_ok j0) j0 j0 j0 j0 j5 j5<|r_can (env0:=[(1,optP 2 rHierHier v1.1),(2,iA v1.2),(4,iA v2.2),(20,.msl 0 0 3)]) (st0:=[some (6,[[sA [70,97,99,101],sA [79,98,106,101,99,116],bA true,.lit (.slice none 0 0),.lit (.slice none 0 0),.msl 1 0 1],[sA [65,97],sA [79,98,106,101,99,116],bA false,.msl 2 0 1,.msl 3 0 2,.msl 4 0 1],[sA [66,98],sA [65,97],bA false,.lit (.slice none 0 0),.msl 6 0 1,.msl 7 0 1]]),some (10,[[sA [102],.lit (.slice none 0 0),sA [73],bA false,bA true,iA 0,iA 0,.lit (.slice none 0 0),.lit (.slice none 0 0),.lit (.slice none 0 0)]]),some (1,[[sA [70,97,99,101]]]),some (3,[[sA [120],sA [73],bA false],[sA [115],sA [73],bA true]]),some (10,[[sA [102],.lit (.slice none 0 0),sA [73],bA false,bA false,iA 1,iA 1,.msl 5 0 2,.lit (.slice none 0 0),.lit (.slice none 0 0)]]),some (4,[[iA 1,iA 5,sA [],sA []],[iA 47,iA 0,sA [],sA []]]),some (3,[[sA [121],sA [91,65,97],bA false]]),some (10,[[sA [109,97,105,110],.lit (.slice none 0 0),sA [86],bA true,bA false,iA 0,iA 0,.msl 8 0 1,.lit (.slice none 0 0),.lit (.slice none 0 0)]]),some (4,[[iA 46,iA 0,sA [],sA []]])]) ⟨[.old 0,.old 1,.old 2,.old 3,.old 4,.old 5,.old 6,.old 7,.old 8],cv j0 (ci (immP (fun _=>j0)))<|ce j0 j0<|ce j0 j0<|cv j0 (.msl j0)<|cn,j0,⟨⟨_,j0,rsRows ⟨⟨(ci j0),(ci j0),(ci j0),(ci j0),(ci j0),(.msl j0),j5⟩,⟨(ci j0),(ci j0),(ci j0),(.msl j0),(.msl j0),(.msl j0),j5⟩,⟨(ci j0),(ci j0),(ci j0),(ci j0),(.msl j0),(.msl j0),j5⟩,j5⟩⟩,⟨_,j0,rsRows ⟨⟨(ci j0),(ci j0),(ci j0),(ci j0),(ci j0),(ci j0),(ci j0),(ci j0),(ci j0),(ci j0),j5⟩,j5⟩⟩,⟨_,j0,rsRows ⟨⟨(ci j0),j5⟩,j5⟩⟩,⟨_,j0,rsRows ⟨⟨(ci j0),(ci j0),(ci j0),j5⟩,⟨(ci j0),(ci j0),(ci j0),j5⟩,j5⟩⟩,⟨_,j0,rsRows ⟨⟨(ci j0),(ci j0),(ci j0),(ci j0),(ci j0),(ci j0),(ci j0),(.msl j0),(ci j0),(ci j0),j5⟩,j5⟩⟩,⟨_,j0,rsRows ⟨⟨(ci j0),(ci j0),(ci j0),(ci j0),j5⟩,⟨(ci j0),(ci j0),(ci j0),(ci j0),j5⟩,j5⟩⟩,⟨_,j0,rsRows ⟨⟨(ci j0),(ci j0),(ci j0),j5⟩,j5⟩⟩,⟨_,j0,rsRows ⟨⟨(ci j0),(ci j0),(ci j0),(ci j0),(ci j0),(ci j0),(ci j0),(.msl j0),(ci j0),(ci j0),j5⟩,j5⟩⟩,⟨_,j0,rsRows ⟨⟨(ci j0),(ci j0),(ci j0),(ci j0),j5⟩,j5⟩⟩,j5⟩,j0,j1⟩<|u<|asg j0<|r_nil ?_
 refine rg j0<|u<|mv j0<|u<|ixX ti24 j0 ti29 j0 j0 j0<|u<|fa ti29 j0 j0 j0<|u<|sto ti27 j0 j0 j0<|r_nil ?_
 obtain ⟨v3,q3,h⟩:=bs h
 refine rg j0<|u<|mv j0<|u<|bd ti94 j0 j0 j0<|r_can (env0:=[(1,optP 2 rHierHier v1.1),(2,iA v1.2),(4,iA v2.2),(25,.isl 6 (List.map rApiClass ([(ApiClass.mk [70,97,99,101] [79,98,106,101,99,116] true [] [] ([(ApiMethod.mk [102] [] [73] false true 0 0 [] [] [])])),(ApiClass.mk [65,97] [79,98,106,101,99,116] false ([[70,97,99,101]]) ([(ApiField.mk [120] [73] false),(ApiField.mk [115] [73] true)]) []),(ApiClass.mk [66,98] [65,97] false [] ([(ApiField.mk [121] [91,65,97] false)]) ([(ApiMethod.mk [109,97,105,110] [] [86] true false 0 0 ([(ApiIns.mk 46 0 [] [])]) [] [])]))]))),(26,.agg [sA [66,98],sA [109,97,105,110]])]) (st0:=[]) ⟨[],cv j0 (ci (immP (fun _=>j0)))<|ce j0 j0<|ce j0 j0<|cv j0 (rsSealX j0 j0 ⟨⟨⟨ci j0,ci j0,ci j0,.nil,.nil,rsSealX j0 j0 ⟨⟨⟨ci j0,.nil,ci j0,ci j0,ci j0,ci j0,ci j0,.nil,.nil,.nil,j5⟩,j0⟩,j5⟩,j5⟩,j0⟩,⟨⟨ci j0,ci j0,ci j0,rsSealX j0 j0 ⟨⟨⟨ci j0,j5⟩,j0⟩,j5⟩,rsSealX j0 j0 ⟨⟨⟨ci j0,ci j0,ci j0,j5⟩,j0⟩,⟨⟨ci j0,ci j0,ci j0,j5⟩,j0⟩,j5⟩,.nil,j5⟩,j0⟩,⟨⟨ci j0,ci j0,ci j0,.nil,rsSealX j0 j0 ⟨⟨⟨ci j0,ci j0,ci j0,j5⟩,j0⟩,j5⟩,rsSealX j0 j0 ⟨⟨⟨ci j0,.nil,ci j0,ci j0,ci j0,ci j0,ci j0,rsSealX j0 j0 ⟨⟨⟨ci j0,ci j0,ci j0,ci j0,j5⟩,j0⟩,j5⟩,.nil,.nil,j5⟩,j0⟩,j5⟩,j5⟩,j0⟩,j5⟩)<|ce j0 j0<|cn,j0,j5,j0,j1⟩<|u<|pc (closed_Check_ok ([(ApiClass.mk [70,97,99,101] [79,98,106,101,99,116] true [] [] ([(ApiMethod.mk [102] [] [73] false true 0 0 [] [] [])])),(ApiClass.mk [65,97] [79,98,106,101,99,116] false ([[70,97,99,101]]) ([(ApiField.mk [120] [73] false),(ApiField.mk [115] [73] true)]) []),(ApiClass.mk [66,98] [65,97] false [] ([(ApiField.mk [121] [91,65,97] false)]) ([(ApiMethod.mk [109,97,105,110] [] [86] true false 0 0 ([(ApiIns.mk 46 0 [] [])]) [] [])]))]) (ApiEntry.mk [66,98] [109,97,105,110]) q3) j0 j0 j0<|u<|mv j0<|u<|ex j0 j0<|u<|ex j0 j0<|u<|asg j0<|u<|asg j0<|r_nil ?_
 obtain ⟨v4,q4,h⟩:=bs h
 obtain ⟨v6,q11,h⟩:=bs h
 refine rg j0<|u<|pc (law10_Begun_ok q4) j0 j0 j0<|u<|mv j0<|r_and (j:=1) 2 j0 j0 j0 j0 j0 gpn (fun hb5=>g j0 hb5<|mv j0<|g j0 hb5<|eql ti33 j0 j0<|r_nil (egA [32,33] 2 hb5 j0 j0 j0 j0)) andF<|u<|mv j0<|r_and (j:=5) 2 j0 j0 j0 j0 j0 gpn (fun hb6=>g j0 hb6<|mv j0<|g j0 hb6<|nepO ti32 j0 j0 j0<|r_nil (egA [36,37] 2 hb6 j0 j0 j0 j0)) andF<|u<|mv j0<|r_and (j:=9) 2 j0 j0 j0 j0 j0 gpn (fun hb7=>g j0 hb7<|mv j0<|g j0 hb7<|eql ti33 j0 j0<|r_nil (egA [40,41] 2 hb7 j0 j0 j0 j0)) andF<|u<|mv j0<|r_and (j:=13) 2 j0 j0 j0 j0 j0 gpn (fun hb8=>g j0 hb8<|mv j0<|g j0 hb8<|eql ti33 j0 j0<|r_nil (egA [44,45] 2 hb8 j0 j0 j0 j0)) andF<|u<|mv j0<|r_and (x:=v6) (j:=17) 3 j0 j0 j0 j0 j0 gpn (fun hb9=>by replace q11:=bT hb9 q11; obtain ⟨v5,q10,q11⟩:=bs q11; obtain rfl:=sm q11; exact g j0 hb9<|mv j0<|g j0 hb9<|pc (closed_Linked_ok v1.1 q10) j0 j0 (immC (immP (fun _=>j0)) (j0))<|g j0 hb9<|eql ti33 j0 j0<|r_nil (eg [48,49,50] 3 j0 j0 j0 j0)) (fun hb=>(sm (bF hb q11)).symm)<|u<|asg j0<|r_nil ?_
 refine sw_ret ?_
 obtain rfl:=sm h
 exact ⟨_,j0,[],ci j0,j0,j5,j0,j1⟩
def law11_ClosedEntry_j3 (v1 : Bool) (v2 : Bool) (v3 : Bool) (v11 : List ApiMethod) (v12 : List ApiMethod) : Option (Bool) :=
  (closed_Check ([(ApiClass.mk [65,97] [79,98,106,101,99,116] false [] ([(ApiField.mk [120] [73] false)]) v11),(ApiClass.mk [66,98] [65,97] false [] ([(ApiField.mk [120] [73] false)]) v12)]) (ApiEntry.mk [66,98] [115,116,97,114,116])).bind fun v13=>some ((((v13.2 == (0 : Int)) == ((v1 && (!v2)) && (!v3))) && ((!Option.isNone v13.1) == ((v1 && (!v2)) && (!v3)))) && (((v1 && (!v2)) && (!v3)) || (v13.2 == (4 : Int))))
def law11_ClosedEntry_j2 (v1 : Bool) (v2 : Bool) (v3 : Bool) (v4 : Bool) (v6 : List UInt8) (v7 : List ApiIns) (v8 : List (List UInt8)) : Option (Bool) :=
  cond v4 ((appP 152 ([(ApiMethod.mk [109,97,105,110] [] [86] true false 0 0 ([(ApiIns.mk 46 0 [] [])]) [] [])]) ([(ApiMethod.mk [115,116,97,114,116] v8 v6 v1 false 2 1 v7 [] [])])).bind fun v9=>law11_ClosedEntry_j3 v1 v2 v3 v9 []) ((appP 152 ([] : List ApiMethod) ([(ApiMethod.mk [115,116,97,114,116] v8 v6 v1 false 2 1 v7 [] [])])).bind fun v10=>law11_ClosedEntry_j3 v1 v2 v3 ([(ApiMethod.mk [109,97,105,110] [] [86] true false 0 0 ([(ApiIns.mk 46 0 [] [])]) [] [])]) v10)
def law11_ClosedEntry_j1 (v1 : Bool) (v2 : Bool) (v3 : Bool) (v4 : Bool) (v6 : List UInt8) (v7 : List ApiIns) : Option (Bool) :=
  cond v3 (law11_ClosedEntry_j2 v1 v2 v3 v4 v6 v7 ([[73]])) (law11_ClosedEntry_j2 v1 v2 v3 v4 v6 v7 [])
def law11_ClosedEntry (v1 : Bool) (v2 : Bool) (v3 : Bool) (v4 : Bool) : Option (Bool) :=
  (law11_begun).bind fun v5=>cond (!v5) (some false) (cond v2 (law11_ClosedEntry_j1 v1 v2 v3 v4 [73] ([(ApiIns.mk 1 0 [] []),(ApiIns.mk 47 0 [] [])])) (law11_ClosedEntry_j1 v1 v2 v3 v4 [86] ([(ApiIns.mk 46 0 [] [])])))
theorem law11_ClosedEntry_ok (v1 : Bool) (v2 : Bool) (v3 : Bool) (v4 : Bool) {r : Bool} (h : law11_ClosedEntry v1 v2 v3 v4 = some r) : PureC Tryz.prog 19 [bA v1,bA v2,bA v3,bA v4] (bA r):=by
 refine pure_fn Tryz.func19 j0 (by kernel_rfl) j0 j0 ?_
 unfold law11_ClosedEntry at h
 refine rg j0<|u<|asg j0<|r_nil ?_
 obtain ⟨v5,q1,h⟩:=bs h
 refine rg j0<|u<|pc (law11_begun_ok q1) j0 j0 j0<|u<|asg j0<|r_nil ?_
 refine sw_seq ?_
 refine rg j0<|u<|mv j0<|u<|nt j0<|r_nil ?_
 refine sw_cond j0 (fun hc2=>?_) (fun hc2=>?_)
 ·
  replace h:=bT hc2 h
  refine rg j0<|u<|asg j0<|r_nil ?_
  refine sw_ret ?_
  obtain rfl:=sm h
  exact ⟨_,j0,[],ci j0,j0,j5,j0,j1⟩
 ·
  replace h:=bF hc2 h
  refine sw_skip ?_
  refine rg j0<|u<|mv j0<|u<|bd ti69 j0 j0 j0<|u<|bl 0 ti72 j0 ti69 j0 (by decide) (by decide) j0 j0 j0<|u<|bd (parts:=[(0,sA [115,116,97,114,116]),(2,sA [86]),(3,bA v1),(5,iA 2),(6,iA 1),(7,.msl 0 0 1)]) (cs:=[sA [115,116,97,114,116],.lit (.slice none 0 0),sA [86],bA v1,bA false,iA 2,iA 1,.msl 0 0 1,.lit (.slice none 0 0),.lit (.slice none 0 0)]) ti76 j0 j0 (by kernel_rfl)<|u<|al 1 ti76 j0<|u<|sto ti76 j0 j0 j0<|r_nil ?_
  refine sw_meet (X:=(List UInt8) × (List ApiIns)) (fun z=>[(0,bA v1),(1,bA v2),(2,bA v3),(3,bA v4),(10,.mpt 0 0 0)]) (fun z=>[some (10,[[sA [115,116,97,114,116],.lit (.slice none 0 0),sA z.1,bA v1,bA false,iA 2,iA 1,.msl 1 0 (List.length z.2),.lit (.slice none 0 0),.lit (.slice none 0 0)]]),some (4,List.map rApiIns z.2)]) (fun z=>law11_ClosedEntry_j1 v1 v2 v3 v4 z.1 z.2 = some r) ?_ ?_
  ·
   refine rg j0<|u<|mv j0<|r_nil ?_
   refine sw_cond j0 (fun hc3=>?_) (fun hc3=>?_)
   ·
    replace h:=bT hc3 h
    exact rl j0<|u<|bd ti69 j0 j0 j0<|u<|bd ti69 j0 j0 j0<|u<|bl 2 ti72 j0 ti69 j0 (by decide) (by decide) j0 j0 j0<|u<|fa ti76 j0 j0 j0<|u<|sto ti9 j0 j0 j0<|u<|fa ti76 j0 j0 j0<|u<|sto ti72 j0 j0 j0<|r_nil (⟨⟨[73],[(ApiIns.mk 1 0 [] []),(ApiIns.mk 47 0 [] [])]⟩,h,[.old 1,.old 2],ce j0 j0<|ce j0 j0<|ce j0 j0<|ce j0 j0<|cv j0 (.mpt j0)<|cn,j0,⟨⟨_,j0,rsOne ⟨ci j0,ci j0,ci j0,ci j0,ci j0,ci j0,ci j0,.msl j0,ci j0,ci j0,j5⟩⟩,⟨_,j0,rsRows ⟨⟨(ci j0),(ci j0),(ci j0),(ci j0),j5⟩,⟨(ci j0),(ci j0),(ci j0),(ci j0),j5⟩,j5⟩⟩,j5⟩,j0,j1⟩)
   ·
    replace h:=bF hc3 h
    refine sw_skip ?_
    exact ⟨⟨[86],[(ApiIns.mk 46 0 [] [])]⟩,h,[.old 1,.old 0],ce j0 j0<|ce j0 j0<|ce j0 j0<|ce j0 j0<|cv j0 (.mpt j0)<|cn,j0,⟨⟨_,j0,rsOne ⟨ci j0,ci j0,ci j0,ci j0,ci j0,ci j0,ci j0,.msl j0,ci j0,ci j0,j5⟩⟩,⟨_,j0,rsRows ⟨⟨(ci j0),(ci j0),(ci j0),(ci j0),j5⟩,j5⟩⟩,j5⟩,j0,j1⟩
  ·
   rintro ⟨v6,v7⟩ h
   replace h : law11_ClosedEntry_j1 v1 v2 v3 v4 v6 v7 = some r:=h
   unfold law11_ClosedEntry_j1 at h
   refine sw_meet (X:=(List (List UInt8))) (fun z=>[(0,bA v1),(1,bA v2),(2,bA v3),(3,bA v4),(10,.mpt 0 0 0)]) (fun z=>[some (10,[[sA [115,116,97,114,116],.msl 1 0 (List.length z),sA v6,bA v1,bA false,iA 2,iA 1,.msl 2 0 (List.length v7),.lit (.slice none 0 0),.lit (.slice none 0 0)]]),some (1,List.map rStr z),some (4,List.map rApiIns v7)]) (fun z=>law11_ClosedEntry_j2 v1 v2 v3 v4 v6 v7 z = some r) ?_ ?_
   ·
    refine rg j0<|u<|mv j0<|r_nil ?_
    refine sw_cond j0 (fun hc4=>?_) (fun hc4=>?_)
    ·
     replace h:=bT hc4 h
     exact rl j0<|u<|bl 2 ti25 j0 ti9 j0 (by decide) (by decide) j0 j0 j0<|u<|fa ti76 j0 j0 j0<|u<|sto ti25 j0 j0 j0<|r_nil (⟨[[73]],h,[.old 0,.old 2,.old 1],ce j0 j0<|ce j0 j0<|ce j0 j0<|ce j0 j0<|cv j0 (.mpt j0)<|cn,j0,⟨⟨_,j0,rsOne ⟨ci j0,.msl j0,ci j0,ci j0,ci j0,ci j0,ci j0,.msl j0,ci j0,ci j0,j5⟩⟩,⟨_,j0,rsRows ⟨⟨(ci j0),j5⟩,j5⟩⟩,⟨_,j0,rsMap (fun _=>j0)⟩,j5⟩,j0,j1⟩)
    ·
     replace h:=bF hc4 h
     refine sw_skip ?_
     exact ⟨[],h,[.old 0,.fresh 1,.old 1],ce j0 j0<|ce j0 j0<|ce j0 j0<|ce j0 j0<|cv j0 (.mpt j0)<|cn,j0,⟨⟨_,j0,rsOne ⟨ci j0,.nilown j0,ci j0,ci j0,ci j0,ci j0,ci j0,.msl j0,ci j0,ci j0,j5⟩⟩,j4,⟨_,j0,rsMap (fun _=>j0)⟩,j5⟩,j0,j1⟩
   ·
    rintro v8 h
    replace h : law11_ClosedEntry_j2 v1 v2 v3 v4 v6 v7 v8 = some r:=h
    unfold law11_ClosedEntry_j2 at h
    refine rg j0<|u<|sc [] (law5_One_ok [65,97] j0) j0 j0 j0 j0 ⟨(rnI j0),j5⟩ j5<|u<|sc [] (law5_One_ok [66,98] j0) j0 j0 j0 j0 ⟨(rnI j0),j5⟩ j5<|u<|al 9 ti29 j0<|u<|al 10 ti29 j0<|u<|sto ti29 j0 j0 j0<|u<|sto ti29 j0 j0 j0<|r_nil ?_
    refine rg j0<|u<|fa ti29 j0 j0 j0<|u<|sto ti9 j0 j0 j0<|u<|fa ti29 j0 j0 j0<|u<|sto ti27 j0 j0 j0<|r_nil ?_
    refine sw_meet (X:=(List ApiMethod) × (List ApiMethod)) (fun z=>[(0,bA v1),(1,bA v2),(2,bA v3),(11,.mpt 0 0 0),(12,.mpt 3 0 0)]) (fun z=>[some (6,[[sA [65,97],sA [79,98,106,101,99,116],bA false,.lit (.slice none 0 0),.msl 1 0 (List.length ([(ApiField.mk [120] [73] false)])),.msl 2 0 (List.length z.1)]]),some (3,List.map rApiField ([(ApiField.mk [120] [73] false)])),some (10,List.map rApiMethod z.1),some (6,[[sA [66,98],sA [65,97],bA false,.lit (.slice none 0 0),.msl 4 0 (List.length ([(ApiField.mk [120] [73] false)])),.msl 5 0 (List.length z.2)]]),some (3,List.map rApiField ([(ApiField.mk [120] [73] false)])),some (10,List.map rApiMethod z.2)]) (fun z=>law11_ClosedEntry_j3 v1 v2 v3 z.1 z.2 = some r) ?_ ?_
    ·
     refine rg j0<|u<|mv j0<|r_nil ?_
     refine sw_cond j0 (fun hc5=>?_) (fun hc5=>?_)
     ·
      replace h:=bT hc5 h
      obtain ⟨v9,q6,h⟩:=bs h
      exact rl j0<|u<|fa ti29 j0 j0 j0<|u<|ld ti27 j0 j0<|u<|ld ti76 j0 j0<|u<|bl 11 ti27 j0 ti76 j0 (by decide) (by decide) j0 j0 j0<|r_can (env0:=[(0,bA v1),(1,bA v2),(2,bA v3),(11,.mpt 0 0 0),(12,.mpt 3 0 0),(38,.msl 2 0 (List.length ([(ApiMethod.mk [109,97,105,110] [] [86] true false 0 0 ([(ApiIns.mk 46 0 [] [])]) [] [])]))),(40,.msl 5 0 (List.length ([(ApiMethod.mk [115,116,97,114,116] v8 v6 v1 false 2 1 v7 [] [])])))]) (st0:=[some (6,[[sA [65,97],sA [79,98,106,101,99,116],bA false,.lit (.slice none 0 0),.msl 1 0 (List.length ([(ApiField.mk [120] [73] false)])),.msl 2 0 (List.length ([(ApiMethod.mk [109,97,105,110] [] [86] true false 0 0 ([(ApiIns.mk 46 0 [] [])]) [] [])]))]]),some (3,List.map rApiField ([(ApiField.mk [120] [73] false)])),some (10,List.map rApiMethod ([(ApiMethod.mk [109,97,105,110] [] [86] true false 0 0 ([(ApiIns.mk 46 0 [] [])]) [] [])])),some (6,[[sA [66,98],sA [65,97],bA false,.lit (.slice none 0 0),.msl 4 0 (List.length ([(ApiField.mk [120] [73] false)])),.lit (.slice none 0 0)]]),some (3,List.map rApiField ([(ApiField.mk [120] [73] false)])),some (10,List.map rApiMethod ([(ApiMethod.mk [115,116,97,114,116] v8 v6 v1 false 2 1 v7 [] [])]))]) ⟨[.old 9,.old 3,.old 4,.old 10,.old 6,.old 11],ce j0 j0<|ce j0 j0<|ce j0 j0<|cv j0 (.mpt j0)<|cv j0 (.mpt j0)<|cv j0 (.msl j0)<|cv j0 (.msl j0)<|cn,j0,⟨⟨_,j0,rsOne ⟨ci j0,ci j0,ci j0,ci j0,.msl j0,.msl j0,j5⟩⟩,⟨_,j0,rsRows ⟨⟨(ci j0),(ci j0),(ci j0),j5⟩,j5⟩⟩,⟨_,j0,rsRows ⟨⟨(ci j0),(.nil),(ci j0),(ci j0),(ci j0),(ci j0),(ci j0),(rsSealX j0 j0 ⟨⟨⟨ci j0,ci j0,ci j0,ci j0,j5⟩,j0⟩,j5⟩),(.nil),(.nil),j5⟩,j5⟩⟩,⟨_,j0,rsOne ⟨ci j0,ci j0,ci j0,ci j0,.msl j0,ci j0,j5⟩⟩,⟨_,j0,rsRows ⟨⟨(ci j0),(ci j0),(ci j0),j5⟩,j5⟩⟩,⟨_,j0,rsRows ⟨⟨(ci j0),(rsSeal j0 j0 (fun _=>j0)),(ci j0),(ci j0),(ci j0),(ci j0),(ci j0),(rsSeal j0 j0 (fun _=>j0)),(.nil),(.nil),j5⟩,j5⟩⟩,j5⟩,j0,j1⟩<|u<|apM 6 ti27 j0 ti76 j0 j0 (by decide) ti27 j0 j0 j0 j0 (roM j0) (fun _=>j0) j0 q6<|u<|fa ti29 j0 j0 j0<|u<|sto ti27 j0 j0 j0<|r_nil (⟨⟨v9,[]⟩,h,[.old 0,.old 1,.old 6,.old 3,.old 4,.fresh 10],ce j0 j0<|ce j0 j0<|ce j0 j0<|cv j0 (.mpt j0)<|cv j0 (.mpt j0)<|cn,j0,⟨⟨_,j0,rsOne ⟨ci j0,ci j0,ci j0,ci j0,.msl j0,.msl j0,j5⟩⟩,⟨_,j0,rsMap (fun _=>j0)⟩,⟨_,j0,rsMap (fun _=>j0)⟩,⟨_,j0,rsOne ⟨ci j0,ci j0,ci j0,ci j0,.msl j0,.nilown j0,j5⟩⟩,⟨_,j0,rsMap (fun _=>j0)⟩,j4,j5⟩,j0,j1⟩)
     ·
      replace h:=bF hc5 h
      obtain ⟨v10,q7,h⟩:=bs h
      exact rl j0<|u<|fa ti29 j0 j0 j0<|u<|ld ti27 j0 j0<|u<|ld ti76 j0 j0<|u<|bl 11 ti27 j0 ti76 j0 (by decide) (by decide) j0 j0 j0<|r_can (env0:=[(0,bA v1),(1,bA v2),(2,bA v3),(11,.mpt 0 0 0),(12,.mpt 3 0 0),(44,.lit (.slice none 0 0)),(46,.msl 5 0 (List.length ([(ApiMethod.mk [115,116,97,114,116] v8 v6 v1 false 2 1 v7 [] [])])))]) (st0:=[some (6,[[sA [65,97],sA [79,98,106,101,99,116],bA false,.lit (.slice none 0 0),.msl 1 0 (List.length ([(ApiField.mk [120] [73] false)])),.msl 2 0 (List.length ([(ApiMethod.mk [109,97,105,110] [] [86] true false 0 0 ([(ApiIns.mk 46 0 [] [])]) [] [])]))]]),some (3,List.map rApiField ([(ApiField.mk [120] [73] false)])),some (10,List.map rApiMethod ([(ApiMethod.mk [109,97,105,110] [] [86] true false 0 0 ([(ApiIns.mk 46 0 [] [])]) [] [])])),some (6,[[sA [66,98],sA [65,97],bA false,.lit (.slice none 0 0),.msl 4 0 (List.length ([(ApiField.mk [120] [73] false)])),.lit (.slice none 0 0)]]),some (3,List.map rApiField ([(ApiField.mk [120] [73] false)])),some (10,List.map rApiMethod ([(ApiMethod.mk [115,116,97,114,116] v8 v6 v1 false 2 1 v7 [] [])]))]) ⟨[.old 9,.old 3,.old 4,.old 10,.old 6,.old 11],ce j0 j0<|ce j0 j0<|ce j0 j0<|cv j0 (.mpt j0)<|cv j0 (.mpt j0)<|ce j0 j0<|cv j0 (.msl j0)<|cn,j0,⟨⟨_,j0,rsOne ⟨ci j0,ci j0,ci j0,ci j0,.msl j0,.msl j0,j5⟩⟩,⟨_,j0,rsRows ⟨⟨(ci j0),(ci j0),(ci j0),j5⟩,j5⟩⟩,⟨_,j0,rsRows ⟨⟨(ci j0),(.nil),(ci j0),(ci j0),(ci j0),(ci j0),(ci j0),(rsSealX j0 j0 ⟨⟨⟨ci j0,ci j0,ci j0,ci j0,j5⟩,j0⟩,j5⟩),(.nil),(.nil),j5⟩,j5⟩⟩,⟨_,j0,rsOne ⟨ci j0,ci j0,ci j0,ci j0,.msl j0,ci j0,j5⟩⟩,⟨_,j0,rsRows ⟨⟨(ci j0),(ci j0),(ci j0),j5⟩,j5⟩⟩,⟨_,j0,rsRows ⟨⟨(ci j0),(rsSeal j0 j0 (fun _=>j0)),(ci j0),(ci j0),(ci j0),(ci j0),(ci j0),(rsSeal j0 j0 (fun _=>j0)),(.nil),(.nil),j5⟩,j5⟩⟩,j5⟩,j0,j1⟩<|u<|apN (f:=rApiMethod) 6 ti27 j0 ti76 j0 j0 (by decide) ti27 j0 j0 j0 (roM j0) (fun _=>j0) j0 q7<|u<|fa ti29 j0 j0 j0<|u<|sto ti27 j0 j0 j0<|r_nil (⟨⟨[(ApiMethod.mk [109,97,105,110] [] [86] true false 0 0 ([(ApiIns.mk 46 0 [] [])]) [] [])],v10⟩,h,[.old 0,.old 1,.old 2,.old 3,.old 4,.old 6],ce j0 j0<|ce j0 j0<|ce j0 j0<|cv j0 (.mpt j0)<|cv j0 (.mpt j0)<|cn,j0,⟨⟨_,j0,rsOne ⟨ci j0,ci j0,ci j0,ci j0,.msl j0,.msl j0,j5⟩⟩,⟨_,j0,rsMap (fun _=>j0)⟩,⟨_,j0,rsMap (fun _=>j0)⟩,⟨_,j0,rsOne ⟨ci j0,ci j0,ci j0,ci j0,.msl j0,.msl j0,j5⟩⟩,⟨_,j0,rsMap (fun _=>j0)⟩,⟨_,j0,rsMap (fun _=>j0)⟩,j5⟩,j0,j1⟩)
    ·
     rintro ⟨v11,v12⟩ h
     replace h : law11_ClosedEntry_j3 v1 v2 v3 v11 v12 = some r:=h
     unfold law11_ClosedEntry_j3 at h
     obtain ⟨v13,q8,h⟩:=bs h
     refine rg j0<|u<|ld ti29 j0 j0<|u<|ld ti29 j0 j0<|u<|bl 6 ti24 j0 ti29 j0 (by decide) (by decide) j0 j0 j0<|u<|bd ti94 j0 j0 j0<|r_can (env0:=[(0,bA v1),(1,bA v2),(2,bA v3),(52,.isl 6 (List.map rApiClass ([(ApiClass.mk [65,97] [79,98,106,101,99,116] false [] ([(ApiField.mk [120] [73] false)]) v11),(ApiClass.mk [66,98] [65,97] false [] ([(ApiField.mk [120] [73] false)]) v12)]))),(53,.agg [sA [66,98],sA [115,116,97,114,116]])]) (st0:=[]) ⟨[],ce j0 j0<|ce j0 j0<|ce j0 j0<|cv j0 (rsSealX j0 j0 ⟨⟨⟨ci j0,ci j0,ci j0,.nil,rsSeal j0 j0 (fun _=>j0),rsSeal j0 j0 (fun _=>j0),j5⟩,j0⟩,⟨⟨ci j0,ci j0,ci j0,.nil,rsSeal j0 j0 (fun _=>j0),rsSeal j0 j0 (fun _=>j0),j5⟩,j0⟩,j5⟩)<|ce j0 j0<|cn,j0,j5,j0,j1⟩<|u<|pc (closed_Check_ok ([(ApiClass.mk [65,97] [79,98,106,101,99,116] false [] ([(ApiField.mk [120] [73] false)]) v11),(ApiClass.mk [66,98] [65,97] false [] ([(ApiField.mk [120] [73] false)]) v12)]) (ApiEntry.mk [66,98] [115,116,97,114,116]) q8) j0 j0 j0<|u<|mv j0<|u<|ex j0 j0<|u<|ex j0 j0<|u<|asg j0<|u<|asg j0<|r_nil ?_
     refine rg j0<|u<|mv j0<|u<|mv j0<|r_and (j:=1) 2 j0 j0 j0 j0 j0 gpn (fun hb9=>g j0 hb9<|mv j0<|g j0 hb9<|nt j0<|r_nil (egA [59,60] 2 hb9 j0 j0 j0 j0)) andF<|u<|mv j0<|r_and (j:=5) 2 j0 j0 j0 j0 j0 gpn (fun hb10=>g j0 hb10<|mv j0<|g j0 hb10<|nt j0<|r_nil (egA [63,64] 2 hb10 j0 j0 j0 j0)) andF<|u<|asg j0<|r_nil ?_
     refine rg j0<|u<|mv j0<|u<|eql ti33 j0 j0<|u<|mv j0<|u<|beq ti4 j0 j0 j0<|u<|mv j0<|r_and (j:=4) 4 j0 j0 j0 j0 j0 gpn (fun hb11=>g j0 hb11<|mv j0<|g j0 hb11<|nepO ti32 j0 j0 j0<|g j0 hb11<|mv j0<|g j0 hb11<|beq ti4 j0 j0 j0<|r_nil (egA [71,72,73,74] 4 hb11 j0 j0 j0 j0)) andF<|u<|mv j0<|r_and (j:=10) 5 j0 j0 j0 j0 j0 gpn (fun hb12=>g j0 hb12<|mv j0<|g j0 hb12<|mv j0<|r_or (j:=12) 2 j0 j0 j0 j0 j0 (gps j0 j0 hb12) (fun hb13=>g j0 hb13<|mv j0<|g j0 hb13<|eql ti33 j0 j0<|r_nil (egO [79,80] 2 hb13 j0 j0 j0 j0)) orT<|r_nil (egA [77,78,79,80,81] 3 hb12 j0 j0 j0 j0)) andF<|u<|asg j0<|r_nil ?_
     refine sw_ret ?_
     obtain rfl:=sm h
     exact ⟨_,j0,[],ci j0,j0,j5,j0,j1⟩
def law11_ClosedFirst_j3 (v1 : Bool) (v2 : Bool) (v3 : Bool) (v6 : List ApiField) (v8 : List ApiMethod) (v10 : List ApiMethod) : Option (Bool) :=
  (closed_Check ([(ApiClass.mk [70,97,99,101] [79,98,106,101,99,116] true [] [] ([(ApiMethod.mk [102] [] [73] false true 0 0 [] [] [])])),(ApiClass.mk [65,97] [79,98,106,101,99,116] false ([[70,97,99,101]]) ([(ApiField.mk [120] [73] false),(ApiField.mk [115] [73] true)]) v10),(ApiClass.mk [66,98] [65,97] false [] v6 v8)]) (ApiEntry.mk [66,98] [109,97,105,110])).bind fun v11=>cond v1 (some (v11.2 == (4 : Int))) (cond v2 (some (v11.2 == (1 : Int))) (cond v3 (some (v11.2 == (5 : Int))) (some (v11.2 == (0 : Int)))))
def law11_ClosedFirst_j2 (v1 : Bool) (v2 : Bool) (v3 : Bool) (v6 : List ApiField) (v8 : List ApiMethod) : Option (Bool) :=
  cond v3 ((appP 152 ([(ApiMethod.mk [102] [] [73] false false 1 1 ([(ApiIns.mk 1 5 [] []),(ApiIns.mk 47 0 [] [])]) [] [])]) ([(ApiMethod.mk [107] [] [86] false false 1 0 ([(ApiIns.mk 5 0 [] []),(ApiIns.mk 46 0 [] [])]) [] [])])).bind fun v9=>law11_ClosedFirst_j3 v1 v2 v3 v6 v8 v9) (law11_ClosedFirst_j3 v1 v2 v3 v6 v8 ([(ApiMethod.mk [102] [] [73] false false 1 1 ([(ApiIns.mk 1 5 [] []),(ApiIns.mk 47 0 [] [])]) [] [])]))
def law11_ClosedFirst_j1 (v1 : Bool) (v2 : Bool) (v3 : Bool) (v6 : List ApiField) : Option (Bool) :=
  cond v2 ((appP 152 ([(ApiMethod.mk [109,97,105,110] [] [86] true false 0 0 ([(ApiIns.mk 46 0 [] [])]) [] [])]) ([(ApiMethod.mk [102] [] [86] false false 1 0 ([(ApiIns.mk 46 0 [] [])]) [] [])])).bind fun v7=>law11_ClosedFirst_j2 v1 v2 v3 v6 v7) (law11_ClosedFirst_j2 v1 v2 v3 v6 ([(ApiMethod.mk [109,97,105,110] [] [86] true false 0 0 ([(ApiIns.mk 46 0 [] [])]) [] [])]))
def law11_ClosedFirst (v1 : Bool) (v2 : Bool) (v3 : Bool) : Option (Bool) :=
  (law11_begun).bind fun v4=>cond (!v4) (some false) (cond v1 ((appP 40 ([(ApiField.mk [121] [91,65,97] false)]) ([(ApiField.mk [113] [81,113,113] false)])).bind fun v5=>law11_ClosedFirst_j1 v1 v2 v3 v5) (law11_ClosedFirst_j1 v1 v2 v3 ([(ApiField.mk [121] [91,65,97] false)])))
theorem law11_ClosedFirst_ok (v1 : Bool) (v2 : Bool) (v3 : Bool) {r : Bool} (h : law11_ClosedFirst v1 v2 v3 = some r) : PureC Tryz.prog 20 [bA v1,bA v2,bA v3] (bA r):=by
 refine pure_fn Tryz.func20 j0 (by kernel_rfl) j0 j0 ?_
 unfold law11_ClosedFirst at h
 refine rg j0<|u<|asg j0<|r_nil ?_
 obtain ⟨v4,q1,h⟩:=bs h
 refine rg j0<|u<|pc (law11_begun_ok q1) j0 j0 j0<|u<|asg j0<|r_nil ?_
 refine sw_seq ?_
 refine rg j0<|u<|mv j0<|u<|nt j0<|r_nil ?_
 refine sw_cond j0 (fun hc2=>?_) (fun hc2=>?_)
 ·
  replace h:=bT hc2 h
  refine rg j0<|u<|asg j0<|r_nil ?_
  refine sw_ret ?_
  obtain rfl:=sm h
  exact ⟨_,j0,[],ci j0,j0,j5,j0,j1⟩
 ·
  replace h:=bF hc2 h
  refine sw_skip ?_
  refine rg j0<|u<|sc [] (law7_Two_ok j0) j0 j0 j0 j0 j5 j5<|r_can (env0:=[(0,bA v1),(1,bA v2),(2,bA v3),(14,.msl 0 0 3)]) (st0:=[some (6,[[sA [70,97,99,101],sA [79,98,106,101,99,116],bA true,.lit (.slice none 0 0),.lit (.slice none 0 0),.msl 1 0 1],[sA [65,97],sA [79,98,106,101,99,116],bA false,.msl 2 0 1,.msl 3 0 2,.msl 4 0 1],[sA [66,98],sA [65,97],bA false,.lit (.slice none 0 0),.msl 6 0 1,.msl 7 0 1]]),some (10,[[sA [102],.lit (.slice none 0 0),sA [73],bA false,bA true,iA 0,iA 0,.lit (.slice none 0 0),.lit (.slice none 0 0),.lit (.slice none 0 0)]]),some (1,[[sA [70,97,99,101]]]),some (3,[[sA [120],sA [73],bA false],[sA [115],sA [73],bA true]]),some (10,[[sA [102],.lit (.slice none 0 0),sA [73],bA false,bA false,iA 1,iA 1,.msl 5 0 2,.lit (.slice none 0 0),.lit (.slice none 0 0)]]),some (4,[[iA 1,iA 5,sA [],sA []],[iA 47,iA 0,sA [],sA []]]),some (3,[[sA [121],sA [91,65,97],bA false]]),some (10,[[sA [109,97,105,110],.lit (.slice none 0 0),sA [86],bA true,bA false,iA 0,iA 0,.msl 8 0 1,.lit (.slice none 0 0),.lit (.slice none 0 0)]]),some (4,[[iA 46,iA 0,sA [],sA []]])]) ⟨[.old 0,.old 1,.old 2,.old 3,.old 4,.old 5,.old 6,.old 7,.old 8],ce j0 j0<|ce j0 j0<|ce j0 j0<|cv j0 (.msl j0)<|cn,j0,⟨⟨_,j0,rsRows ⟨⟨(ci j0),(ci j0),(ci j0),(ci j0),(ci j0),(.msl j0),j5⟩,⟨(ci j0),(ci j0),(ci j0),(.msl j0),(.msl j0),(.msl j0),j5⟩,⟨(ci j0),(ci j0),(ci j0),(ci j0),(.msl j0),(.msl j0),j5⟩,j5⟩⟩,⟨_,j0,rsRows ⟨⟨(ci j0),(ci j0),(ci j0),(ci j0),(ci j0),(ci j0),(ci j0),(ci j0),(ci j0),(ci j0),j5⟩,j5⟩⟩,⟨_,j0,rsRows ⟨⟨(ci j0),j5⟩,j5⟩⟩,⟨_,j0,rsRows ⟨⟨(ci j0),(ci j0),(ci j0),j5⟩,⟨(ci j0),(ci j0),(ci j0),j5⟩,j5⟩⟩,⟨_,j0,rsRows ⟨⟨(ci j0),(ci j0),(ci j0),(ci j0),(ci j0),(ci j0),(ci j0),(.msl j0),(ci j0),(ci j0),j5⟩,j5⟩⟩,⟨_,j0,rsRows ⟨⟨(ci j0),(ci j0),(ci j0),(ci j0),j5⟩,⟨(ci j0),(ci j0),(ci j0),(ci j0),j5⟩,j5⟩⟩,⟨_,j0,rsRows ⟨⟨(ci j0),(ci j0),(ci j0),j5⟩,j5⟩⟩,⟨_,j0,rsRows ⟨⟨(ci j0),(ci j0),(ci j0),(ci j0),(ci j0),(ci j0),(ci j0),(.msl j0),(ci j0),(ci j0),j5⟩,j5⟩⟩,⟨_,j0,rsRows ⟨⟨(ci j0),(ci j0),(ci j0),(ci j0),j5⟩,j5⟩⟩,j5⟩,j0,j1⟩<|u<|asg j0<|r_nil ?_
  refine sw_meet (X:=(List ApiField)) (fun z=>[(0,bA v1),(1,bA v2),(2,bA v3),(8,.msl 0 0 3)]) (fun z=>[some (6,[[sA [70,97,99,101],sA [79,98,106,101,99,116],bA true,.lit (.slice none 0 0),.lit (.slice none 0 0),.msl 1 0 1],[sA [65,97],sA [79,98,106,101,99,116],bA false,.msl 2 0 1,.msl 3 0 2,.msl 4 0 1],[sA [66,98],sA [65,97],bA false,.lit (.slice none 0 0),.msl 6 0 (List.length z),.msl 7 0 1]]),some (10,[[sA [102],.lit (.slice none 0 0),sA [73],bA false,bA true,iA 0,iA 0,.lit (.slice none 0 0),.lit (.slice none 0 0),.lit (.slice none 0 0)]]),some (1,[[sA [70,97,99,101]]]),some (3,[[sA [120],sA [73],bA false],[sA [115],sA [73],bA true]]),some (10,[[sA [102],.lit (.slice none 0 0),sA [73],bA false,bA false,iA 1,iA 1,.msl 5 0 2,.lit (.slice none 0 0),.lit (.slice none 0 0)]]),some (4,[[iA 1,iA 5,sA [],sA []],[iA 47,iA 0,sA [],sA []]]),some (3,List.map rApiField z),some (10,[[sA [109,97,105,110],.lit (.slice none 0 0),sA [86],bA true,bA false,iA 0,iA 0,.msl 8 0 1,.lit (.slice none 0 0),.lit (.slice none 0 0)]]),some (4,[[iA 46,iA 0,sA [],sA []]])]) (fun z=>law11_ClosedFirst_j1 v1 v2 v3 z = some r) ?_ ?_
  ·
   refine rg j0<|u<|mv j0<|r_nil ?_
   refine sw_cond j0 (fun hc3=>?_) (fun hc3=>?_)
   ·
    replace h:=bT hc3 h
    obtain ⟨v5,q4,h⟩:=bs h
    exact rl j0<|u<|mv j0<|u<|mv j0<|u<|ixX ti24 j0 ti29 j0 j0 j0<|u<|fa ti29 j0 j0 j0<|u<|ld ti26 j0 j0<|u<|bd ti52 j0 j0 j0<|u<|bl 9 ti26 j0 ti52 j0 (by decide) (by decide) j0 j0 j0<|u<|apM (l:=[(ApiField.mk [121] [91,65,97] false)]) (f:=rApiField) 10 ti26 j0 ti52 j0 j0 (by decide) ti26 j0 j0 j0 j0 (roX (f:=rApiField) (z:=[(ApiField.mk [113] [81,113,113] false)]) j0 j0) (fun _=>j0) j0 q4<|u<|ixX ti24 j0 ti29 j0 j0 j0<|u<|fa ti29 j0 j0 j0<|u<|sto ti26 j0 j0 j0<|r_nil (⟨v5,h,[.old 0,.old 1,.old 2,.old 3,.old 4,.old 5,.old 10,.old 7,.old 8],ce j0 j0<|ce j0 j0<|ce j0 j0<|cv j0 (.msl j0)<|cn,j0,⟨⟨_,j0,rsRows ⟨⟨(ci j0),(ci j0),(ci j0),(ci j0),(ci j0),(.msl j0),j5⟩,⟨(ci j0),(ci j0),(ci j0),(.msl j0),(.msl j0),(.msl j0),j5⟩,⟨(ci j0),(ci j0),(ci j0),(ci j0),(.msl j0),(.msl j0),j5⟩,j5⟩⟩,⟨_,j0,rsRows ⟨⟨(ci j0),(ci j0),(ci j0),(ci j0),(ci j0),(ci j0),(ci j0),(ci j0),(ci j0),(ci j0),j5⟩,j5⟩⟩,⟨_,j0,rsRows ⟨⟨(ci j0),j5⟩,j5⟩⟩,⟨_,j0,rsRows ⟨⟨(ci j0),(ci j0),(ci j0),j5⟩,⟨(ci j0),(ci j0),(ci j0),j5⟩,j5⟩⟩,⟨_,j0,rsRows ⟨⟨(ci j0),(ci j0),(ci j0),(ci j0),(ci j0),(ci j0),(ci j0),(.msl j0),(ci j0),(ci j0),j5⟩,j5⟩⟩,⟨_,j0,rsRows ⟨⟨(ci j0),(ci j0),(ci j0),(ci j0),j5⟩,⟨(ci j0),(ci j0),(ci j0),(ci j0),j5⟩,j5⟩⟩,⟨_,j0,rsMap (fun _=>j0)⟩,⟨_,j0,rsRows ⟨⟨(ci j0),(ci j0),(ci j0),(ci j0),(ci j0),(ci j0),(ci j0),(.msl j0),(ci j0),(ci j0),j5⟩,j5⟩⟩,⟨_,j0,rsRows ⟨⟨(ci j0),(ci j0),(ci j0),(ci j0),j5⟩,j5⟩⟩,j5⟩,j0,j1⟩)
   ·
    replace h:=bF hc3 h
    refine sw_skip ?_
    exact ⟨[(ApiField.mk [121] [91,65,97] false)],h,[.old 0,.old 1,.old 2,.old 3,.old 4,.old 5,.old 6,.old 7,.old 8],ce j0 j0<|ce j0 j0<|ce j0 j0<|cv j0 (.msl j0)<|cn,j0,⟨⟨_,j0,rsRows ⟨⟨(ci j0),(ci j0),(ci j0),(ci j0),(ci j0),(.msl j0),j5⟩,⟨(ci j0),(ci j0),(ci j0),(.msl j0),(.msl j0),(.msl j0),j5⟩,⟨(ci j0),(ci j0),(ci j0),(ci j0),(.msl j0),(.msl j0),j5⟩,j5⟩⟩,⟨_,j0,rsRows ⟨⟨(ci j0),(ci j0),(ci j0),(ci j0),(ci j0),(ci j0),(ci j0),(ci j0),(ci j0),(ci j0),j5⟩,j5⟩⟩,⟨_,j0,rsRows ⟨⟨(ci j0),j5⟩,j5⟩⟩,⟨_,j0,rsRows ⟨⟨(ci j0),(ci j0),(ci j0),j5⟩,⟨(ci j0),(ci j0),(ci j0),j5⟩,j5⟩⟩,⟨_,j0,rsRows ⟨⟨(ci j0),(ci j0),(ci j0),(ci j0),(ci j0),(ci j0),(ci j0),(.msl j0),(ci j0),(ci j0),j5⟩,j5⟩⟩,⟨_,j0,rsRows ⟨⟨(ci j0),(ci j0),(ci j0),(ci j0),j5⟩,⟨(ci j0),(ci j0),(ci j0),(ci j0),j5⟩,j5⟩⟩,⟨_,j0,rsRows ⟨⟨(ci j0),(ci j0),(ci j0),j5⟩,j5⟩⟩,⟨_,j0,rsRows ⟨⟨(ci j0),(ci j0),(ci j0),(ci j0),(ci j0),(ci j0),(ci j0),(.msl j0),(ci j0),(ci j0),j5⟩,j5⟩⟩,⟨_,j0,rsRows ⟨⟨(ci j0),(ci j0),(ci j0),(ci j0),j5⟩,j5⟩⟩,j5⟩,j0,j1⟩
  ·
   rintro v6 h
   replace h : law11_ClosedFirst_j1 v1 v2 v3 v6 = some r:=h
   unfold law11_ClosedFirst_j1 at h
   refine sw_meet (X:=(List ApiMethod)) (fun z=>[(0,bA v1),(1,bA v2),(2,bA v3),(8,.msl 0 0 3)]) (fun z=>[some (6,[[sA [70,97,99,101],sA [79,98,106,101,99,116],bA true,.lit (.slice none 0 0),.lit (.slice none 0 0),.msl 1 0 1],[sA [65,97],sA [79,98,106,101,99,116],bA false,.msl 2 0 1,.msl 3 0 2,.msl 4 0 1],[sA [66,98],sA [65,97],bA false,.lit (.slice none 0 0),.msl 6 0 (List.length v6),.msl 7 0 (List.length z)]]),some (10,[[sA [102],.lit (.slice none 0 0),sA [73],bA false,bA true,iA 0,iA 0,.lit (.slice none 0 0),.lit (.slice none 0 0),.lit (.slice none 0 0)]]),some (1,[[sA [70,97,99,101]]]),some (3,[[sA [120],sA [73],bA false],[sA [115],sA [73],bA true]]),some (10,[[sA [102],.lit (.slice none 0 0),sA [73],bA false,bA false,iA 1,iA 1,.msl 5 0 2,.lit (.slice none 0 0),.lit (.slice none 0 0)]]),some (4,[[iA 1,iA 5,sA [],sA []],[iA 47,iA 0,sA [],sA []]]),some (3,List.map rApiField v6),some (10,List.map rApiMethod z)]) (fun z=>law11_ClosedFirst_j2 v1 v2 v3 v6 z = some r) ?_ ?_
   ·
    refine rg j0<|u<|mv j0<|r_nil ?_
    refine sw_cond j0 (fun hc5=>?_) (fun hc5=>?_)
    ·
     replace h:=bT hc5 h
     obtain ⟨v7,q6,h⟩:=bs h
     exact rl j0<|u<|mv j0<|u<|mv j0<|u<|ixX ti24 j0 ti29 j0 j0 j0<|u<|fa ti29 j0 j0 j0<|u<|ld ti27 j0 j0<|u<|bd ti69 j0 j0 j0<|u<|bl 9 ti72 j0 ti69 j0 (by decide) (by decide) j0 j0 j0<|u<|bd ti76 j0 j0 j0<|u<|bl 10 ti27 j0 ti76 j0 (by decide) (by decide) j0 j0 j0<|r_can (env0:=[(0,bA v1),(1,bA v2),(2,bA v3),(8,.msl 0 0 3),(27,.msl 0 0 3),(31,.msl 7 0 1),(35,.msl 9 0 (List.length ([(ApiMethod.mk [102] [] [86] false false 1 0 ([(ApiIns.mk 46 0 [] [])]) [] [])])))]) (st0:=[some (6,[[sA [70,97,99,101],sA [79,98,106,101,99,116],bA true,.lit (.slice none 0 0),.lit (.slice none 0 0),.msl 1 0 1],[sA [65,97],sA [79,98,106,101,99,116],bA false,.msl 2 0 1,.msl 3 0 2,.msl 4 0 1],[sA [66,98],sA [65,97],bA false,.lit (.slice none 0 0),.msl 6 0 (List.length v6),.msl 7 0 1]]),some (10,[[sA [102],.lit (.slice none 0 0),sA [73],bA false,bA true,iA 0,iA 0,.lit (.slice none 0 0),.lit (.slice none 0 0),.lit (.slice none 0 0)]]),some (1,[[sA [70,97,99,101]]]),some (3,[[sA [120],sA [73],bA false],[sA [115],sA [73],bA true]]),some (10,[[sA [102],.lit (.slice none 0 0),sA [73],bA false,bA false,iA 1,iA 1,.msl 5 0 2,.lit (.slice none 0 0),.lit (.slice none 0 0)]]),some (4,[[iA 1,iA 5,sA [],sA []],[iA 47,iA 0,sA [],sA []]]),some (3,List.map rApiField v6),some (10,[[sA [109,97,105,110],.lit (.slice none 0 0),sA [86],bA true,bA false,iA 0,iA 0,.msl 8 0 1,.lit (.slice none 0 0),.lit (.slice none 0 0)]]),some (4,[[iA 46,iA 0,sA [],sA []]]),some (10,List.map rApiMethod ([(ApiMethod.mk [102] [] [86] false false 1 0 ([(ApiIns.mk 46 0 [] [])]) [] [])]))]) ⟨[.old 0,.old 1,.old 2,.old 3,.old 4,.old 5,.old 6,.old 7,.old 8,.old 10],ce j0 j0<|ce j0 j0<|ce j0 j0<|cv j0 (.msl j0)<|cv j0 (.msl j0)<|cv j0 (.msl j0)<|cv j0 (.msl j0)<|cn,j0,⟨⟨_,j0,rsRows ⟨⟨(ci j0),(ci j0),(ci j0),(ci j0),(ci j0),(.msl j0),j5⟩,⟨(ci j0),(ci j0),(ci j0),(.msl j0),(.msl j0),(.msl j0),j5⟩,⟨(ci j0),(ci j0),(ci j0),(ci j0),(.msl j0),(.msl j0),j5⟩,j5⟩⟩,⟨_,j0,rsRows ⟨⟨(ci j0),(ci j0),(ci j0),(ci j0),(ci j0),(ci j0),(ci j0),(ci j0),(ci j0),(ci j0),j5⟩,j5⟩⟩,⟨_,j0,rsRows ⟨⟨(ci j0),j5⟩,j5⟩⟩,⟨_,j0,rsRows ⟨⟨(ci j0),(ci j0),(ci j0),j5⟩,⟨(ci j0),(ci j0),(ci j0),j5⟩,j5⟩⟩,⟨_,j0,rsRows ⟨⟨(ci j0),(ci j0),(ci j0),(ci j0),(ci j0),(ci j0),(ci j0),(.msl j0),(ci j0),(ci j0),j5⟩,j5⟩⟩,⟨_,j0,rsRows ⟨⟨(ci j0),(ci j0),(ci j0),(ci j0),j5⟩,⟨(ci j0),(ci j0),(ci j0),(ci j0),j5⟩,j5⟩⟩,⟨_,j0,rsMap (fun _=>j0)⟩,⟨_,j0,rsRows ⟨⟨(ci j0),(ci j0),(ci j0),(ci j0),(ci j0),(ci j0),(ci j0),(.msl j0),(ci j0),(ci j0),j5⟩,j5⟩⟩,⟨_,j0,rsRows ⟨⟨(ci j0),(ci j0),(ci j0),(ci j0),j5⟩,j5⟩⟩,⟨_,j0,rsRows ⟨⟨(ci j0),(.nil),(ci j0),(ci j0),(ci j0),(ci j0),(ci j0),(rsSealX j0 j0 ⟨⟨⟨ci j0,ci j0,ci j0,ci j0,j5⟩,j0⟩,j5⟩),(.nil),(.nil),j5⟩,j5⟩⟩,j5⟩,j0,j1⟩<|r_can (env0:=[(0,bA v1),(1,bA v2),(2,bA v3),(8,.msl 0 0 3),(27,.msl 0 0 3),(31,.msl 7 0 (List.length ([(ApiMethod.mk [109,97,105,110] [] [86] true false 0 0 ([(ApiIns.mk 46 0 [] [])]) [] [])]))),(35,.msl 8 0 (List.length ([(ApiMethod.mk [102] [] [86] false false 1 0 ([(ApiIns.mk 46 0 [] [])]) [] [])])))]) (st0:=[some (6,[[sA [70,97,99,101],sA [79,98,106,101,99,116],bA true,.lit (.slice none 0 0),.lit (.slice none 0 0),.msl 1 0 1],[sA [65,97],sA [79,98,106,101,99,116],bA false,.msl 2 0 1,.msl 3 0 2,.msl 4 0 1],[sA [66,98],sA [65,97],bA false,.lit (.slice none 0 0),.msl 6 0 (List.length v6),.msl 7 0 (List.length ([(ApiMethod.mk [109,97,105,110] [] [86] true false 0 0 ([(ApiIns.mk 46 0 [] [])]) [] [])]))]]),some (10,[[sA [102],.lit (.slice none 0 0),sA [73],bA false,bA true,iA 0,iA 0,.lit (.slice none 0 0),.lit (.slice none 0 0),.lit (.slice none 0 0)]]),some (1,[[sA [70,97,99,101]]]),some (3,[[sA [120],sA [73],bA false],[sA [115],sA [73],bA true]]),some (10,[[sA [102],.lit (.slice none 0 0),sA [73],bA false,bA false,iA 1,iA 1,.msl 5 0 2,.lit (.slice none 0 0),.lit (.slice none 0 0)]]),some (4,[[iA 1,iA 5,sA [],sA []],[iA 47,iA 0,sA [],sA []]]),some (3,List.map rApiField v6),some (10,List.map rApiMethod ([(ApiMethod.mk [109,97,105,110] [] [86] true false 0 0 ([(ApiIns.mk 46 0 [] [])]) [] [])])),some (10,List.map rApiMethod ([(ApiMethod.mk [102] [] [86] false false 1 0 ([(ApiIns.mk 46 0 [] [])]) [] [])]))]) ⟨[.old 0,.old 1,.old 2,.old 3,.old 4,.old 5,.old 6,.old 7,.old 9],ce j0 j0<|ce j0 j0<|ce j0 j0<|cv j0 (.msl j0)<|cv j0 (.msl j0)<|cv j0 (.msl j0)<|cv j0 (.msl j0)<|cn,j0,⟨⟨_,j0,rsRows ⟨⟨(ci j0),(ci j0),(ci j0),(ci j0),(ci j0),(.msl j0),j5⟩,⟨(ci j0),(ci j0),(ci j0),(.msl j0),(.msl j0),(.msl j0),j5⟩,⟨(ci j0),(ci j0),(ci j0),(ci j0),(.msl j0),(.msl j0),j5⟩,j5⟩⟩,⟨_,j0,rsRows ⟨⟨(ci j0),(ci j0),(ci j0),(ci j0),(ci j0),(ci j0),(ci j0),(ci j0),(ci j0),(ci j0),j5⟩,j5⟩⟩,⟨_,j0,rsRows ⟨⟨(ci j0),j5⟩,j5⟩⟩,⟨_,j0,rsRows ⟨⟨(ci j0),(ci j0),(ci j0),j5⟩,⟨(ci j0),(ci j0),(ci j0),j5⟩,j5⟩⟩,⟨_,j0,rsRows ⟨⟨(ci j0),(ci j0),(ci j0),(ci j0),(ci j0),(ci j0),(ci j0),(.msl j0),(ci j0),(ci j0),j5⟩,j5⟩⟩,⟨_,j0,rsRows ⟨⟨(ci j0),(ci j0),(ci j0),(ci j0),j5⟩,⟨(ci j0),(ci j0),(ci j0),(ci j0),j5⟩,j5⟩⟩,⟨_,j0,rsMap (fun _=>j0)⟩,⟨_,j0,rsRows ⟨⟨(ci j0),(.nil),(ci j0),(ci j0),(ci j0),(ci j0),(ci j0),(rsSealX j0 j0 ⟨⟨⟨ci j0,ci j0,ci j0,ci j0,j5⟩,j0⟩,j5⟩),(.nil),(.nil),j5⟩,j5⟩⟩,⟨_,j0,rsMap (fun _=>j0)⟩,j5⟩,j0,j1⟩<|u<|apM 9 ti27 j0 ti76 j0 j0 (by decide) ti27 j0 j0 j0 j0 (roM j0) (fun _=>j0) j0 q6<|u<|ixX ti24 j0 ti29 j0 j0 j0<|u<|fa ti29 j0 j0 j0<|u<|sto ti27 j0 j0 j0<|r_nil (⟨v7,h,[.old 0,.old 1,.old 2,.old 3,.old 4,.old 5,.old 6,.old 9],ce j0 j0<|ce j0 j0<|ce j0 j0<|cv j0 (.msl j0)<|cn,j0,⟨⟨_,j0,rsRows ⟨⟨(ci j0),(ci j0),(ci j0),(ci j0),(ci j0),(.msl j0),j5⟩,⟨(ci j0),(ci j0),(ci j0),(.msl j0),(.msl j0),(.msl j0),j5⟩,⟨(ci j0),(ci j0),(ci j0),(ci j0),(.msl j0),(.msl j0),j5⟩,j5⟩⟩,⟨_,j0,rsRows ⟨⟨(ci j0),(ci j0),(ci j0),(ci j0),(ci j0),(ci j0),(ci j0),(ci j0),(ci j0),(ci j0),j5⟩,j5⟩⟩,⟨_,j0,rsRows ⟨⟨(ci j0),j5⟩,j5⟩⟩,⟨_,j0,rsRows ⟨⟨(ci j0),(ci j0),(ci j0),j5⟩,⟨(ci j0),(ci j0),(ci j0),j5⟩,j5⟩⟩,⟨_,j0,rsRows ⟨⟨(ci j0),(ci j0),(ci j0),(ci j0),(ci j0),(ci j0),(ci j0),(.msl j0),(ci j0),(ci j0),j5⟩,j5⟩⟩,⟨_,j0,rsRows ⟨⟨(ci j0),(ci j0),(ci j0),(ci j0),j5⟩,⟨(ci j0),(ci j0),(ci j0),(ci j0),j5⟩,j5⟩⟩,⟨_,j0,rsMap (fun _=>j0)⟩,⟨_,j0,rsMap (fun _=>j0)⟩,j5⟩,j0,j1⟩)
    ·
     replace h:=bF hc5 h
     refine sw_skip ?_
     exact ⟨[(ApiMethod.mk [109,97,105,110] [] [86] true false 0 0 ([(ApiIns.mk 46 0 [] [])]) [] [])],h,[.old 0,.old 1,.old 2,.old 3,.old 4,.old 5,.old 6,.old 7],ce j0 j0<|ce j0 j0<|ce j0 j0<|cv j0 (.msl j0)<|cn,j0,⟨⟨_,j0,rsRows ⟨⟨(ci j0),(ci j0),(ci j0),(ci j0),(ci j0),(.msl j0),j5⟩,⟨(ci j0),(ci j0),(ci j0),(.msl j0),(.msl j0),(.msl j0),j5⟩,⟨(ci j0),(ci j0),(ci j0),(ci j0),(.msl j0),(.msl j0),j5⟩,j5⟩⟩,⟨_,j0,rsRows ⟨⟨(ci j0),(ci j0),(ci j0),(ci j0),(ci j0),(ci j0),(ci j0),(ci j0),(ci j0),(ci j0),j5⟩,j5⟩⟩,⟨_,j0,rsRows ⟨⟨(ci j0),j5⟩,j5⟩⟩,⟨_,j0,rsRows ⟨⟨(ci j0),(ci j0),(ci j0),j5⟩,⟨(ci j0),(ci j0),(ci j0),j5⟩,j5⟩⟩,⟨_,j0,rsRows ⟨⟨(ci j0),(ci j0),(ci j0),(ci j0),(ci j0),(ci j0),(ci j0),(.msl j0),(ci j0),(ci j0),j5⟩,j5⟩⟩,⟨_,j0,rsRows ⟨⟨(ci j0),(ci j0),(ci j0),(ci j0),j5⟩,⟨(ci j0),(ci j0),(ci j0),(ci j0),j5⟩,j5⟩⟩,⟨_,j0,rsMap (fun _=>j0)⟩,⟨_,j0,rsRows ⟨⟨(ci j0),(.nil),(ci j0),(ci j0),(ci j0),(ci j0),(ci j0),(rsSealX j0 j0 ⟨⟨⟨ci j0,ci j0,ci j0,ci j0,j5⟩,j0⟩,j5⟩),(.nil),(.nil),j5⟩,j5⟩⟩,j5⟩,j0,j1⟩
   ·
    rintro v8 h
    replace h : law11_ClosedFirst_j2 v1 v2 v3 v6 v8 = some r:=h
    unfold law11_ClosedFirst_j2 at h
    refine sw_meet (X:=(List ApiMethod)) (fun z=>[(0,bA v1),(1,bA v2),(2,bA v3),(8,.msl 0 0 3)]) (fun z=>[some (6,[[sA [70,97,99,101],sA [79,98,106,101,99,116],bA true,.lit (.slice none 0 0),.lit (.slice none 0 0),.msl 1 0 1],[sA [65,97],sA [79,98,106,101,99,116],bA false,.msl 2 0 1,.msl 3 0 2,.msl 4 0 (List.length z)],[sA [66,98],sA [65,97],bA false,.lit (.slice none 0 0),.msl 5 0 (List.length v6),.msl 6 0 (List.length v8)]]),some (10,[[sA [102],.lit (.slice none 0 0),sA [73],bA false,bA true,iA 0,iA 0,.lit (.slice none 0 0),.lit (.slice none 0 0),.lit (.slice none 0 0)]]),some (1,[[sA [70,97,99,101]]]),some (3,[[sA [120],sA [73],bA false],[sA [115],sA [73],bA true]]),some (10,List.map rApiMethod z),some (3,List.map rApiField v6),some (10,List.map rApiMethod v8)]) (fun z=>law11_ClosedFirst_j3 v1 v2 v3 v6 v8 z = some r) ?_ ?_
    ·
     refine rg j0<|u<|mv j0<|r_nil ?_
     refine sw_cond j0 (fun hc7=>?_) (fun hc7=>?_)
     ·
      replace h:=bT hc7 h
      obtain ⟨v9,q8,h⟩:=bs h
      exact rl j0<|u<|mv j0<|u<|mv j0<|u<|ixX ti24 j0 ti29 j0 j0 j0<|u<|fa ti29 j0 j0 j0<|u<|ld ti27 j0 j0<|u<|bd ti69 j0 j0 j0<|u<|bd ti69 j0 j0 j0<|u<|bl 8 ti72 j0 ti69 j0 (by decide) (by decide) j0 j0 j0<|u<|bd ti76 j0 j0 j0<|u<|bl 9 ti27 j0 ti76 j0 (by decide) (by decide) j0 j0 j0<|r_can (env0:=[(0,bA v1),(1,bA v2),(2,bA v3),(8,.msl 0 0 3),(40,.msl 0 0 3),(44,.msl 4 0 1),(49,.msl 8 0 (List.length ([(ApiMethod.mk [107] [] [86] false false 1 0 ([(ApiIns.mk 5 0 [] []),(ApiIns.mk 46 0 [] [])]) [] [])])))]) (st0:=[some (6,[[sA [70,97,99,101],sA [79,98,106,101,99,116],bA true,.lit (.slice none 0 0),.lit (.slice none 0 0),.msl 1 0 1],[sA [65,97],sA [79,98,106,101,99,116],bA false,.msl 2 0 1,.msl 3 0 2,.msl 4 0 1],[sA [66,98],sA [65,97],bA false,.lit (.slice none 0 0),.msl 6 0 (List.length v6),.msl 7 0 (List.length v8)]]),some (10,[[sA [102],.lit (.slice none 0 0),sA [73],bA false,bA true,iA 0,iA 0,.lit (.slice none 0 0),.lit (.slice none 0 0),.lit (.slice none 0 0)]]),some (1,[[sA [70,97,99,101]]]),some (3,[[sA [120],sA [73],bA false],[sA [115],sA [73],bA true]]),some (10,[[sA [102],.lit (.slice none 0 0),sA [73],bA false,bA false,iA 1,iA 1,.msl 5 0 2,.lit (.slice none 0 0),.lit (.slice none 0 0)]]),some (4,[[iA 1,iA 5,sA [],sA []],[iA 47,iA 0,sA [],sA []]]),some (3,List.map rApiField v6),some (10,List.map rApiMethod v8),some (10,List.map rApiMethod ([(ApiMethod.mk [107] [] [86] false false 1 0 ([(ApiIns.mk 5 0 [] []),(ApiIns.mk 46 0 [] [])]) [] [])]))]) ⟨[.old 0,.old 1,.old 2,.old 3,.old 4,.old 5,.old 6,.old 7,.old 9],ce j0 j0<|ce j0 j0<|ce j0 j0<|cv j0 (.msl j0)<|cv j0 (.msl j0)<|cv j0 (.msl j0)<|cv j0 (.msl j0)<|cn,j0,⟨⟨_,j0,rsRows ⟨⟨(ci j0),(ci j0),(ci j0),(ci j0),(ci j0),(.msl j0),j5⟩,⟨(ci j0),(ci j0),(ci j0),(.msl j0),(.msl j0),(.msl j0),j5⟩,⟨(ci j0),(ci j0),(ci j0),(ci j0),(.msl j0),(.msl j0),j5⟩,j5⟩⟩,⟨_,j0,rsRows ⟨⟨(ci j0),(ci j0),(ci j0),(ci j0),(ci j0),(ci j0),(ci j0),(ci j0),(ci j0),(ci j0),j5⟩,j5⟩⟩,⟨_,j0,rsRows ⟨⟨(ci j0),j5⟩,j5⟩⟩,⟨_,j0,rsRows ⟨⟨(ci j0),(ci j0),(ci j0),j5⟩,⟨(ci j0),(ci j0),(ci j0),j5⟩,j5⟩⟩,⟨_,j0,rsRows ⟨⟨(ci j0),(ci j0),(ci j0),(ci j0),(ci j0),(ci j0),(ci j0),(.msl j0),(ci j0),(ci j0),j5⟩,j5⟩⟩,⟨_,j0,rsRows ⟨⟨(ci j0),(ci j0),(ci j0),(ci j0),j5⟩,⟨(ci j0),(ci j0),(ci j0),(ci j0),j5⟩,j5⟩⟩,⟨_,j0,rsMap (fun _=>j0)⟩,⟨_,j0,rsMap (fun _=>j0)⟩,⟨_,j0,rsRows ⟨⟨(ci j0),(.nil),(ci j0),(ci j0),(ci j0),(ci j0),(ci j0),(rsSealX j0 j0 ⟨⟨⟨ci j0,ci j0,ci j0,ci j0,j5⟩,j0⟩,⟨⟨ci j0,ci j0,ci j0,ci j0,j5⟩,j0⟩,j5⟩),(.nil),(.nil),j5⟩,j5⟩⟩,j5⟩,j0,j1⟩<|r_can (env0:=[(0,bA v1),(1,bA v2),(2,bA v3),(8,.msl 0 0 3),(40,.msl 0 0 3),(44,.msl 4 0 (List.length ([(ApiMethod.mk [102] [] [73] false false 1 1 ([(ApiIns.mk 1 5 [] []),(ApiIns.mk 47 0 [] [])]) [] [])]))),(49,.msl 7 0 (List.length ([(ApiMethod.mk [107] [] [86] false false 1 0 ([(ApiIns.mk 5 0 [] []),(ApiIns.mk 46 0 [] [])]) [] [])])))]) (st0:=[some (6,[[sA [70,97,99,101],sA [79,98,106,101,99,116],bA true,.lit (.slice none 0 0),.lit (.slice none 0 0),.msl 1 0 1],[sA [65,97],sA [79,98,106,101,99,116],bA false,.msl 2 0 1,.msl 3 0 2,.msl 4 0 (List.length ([(ApiMethod.mk [102] [] [73] false false 1 1 ([(ApiIns.mk 1 5 [] []),(ApiIns.mk 47 0 [] [])]) [] [])]))],[sA [66,98],sA [65,97],bA false,.lit (.slice none 0 0),.msl 5 0 (List.length v6),.msl 6 0 (List.length v8)]]),some (10,[[sA [102],.lit (.slice none 0 0),sA [73],bA false,bA true,iA 0,iA 0,.lit (.slice none 0 0),.lit (.slice none 0 0),.lit (.slice none 0 0)]]),some (1,[[sA [70,97,99,101]]]),some (3,[[sA [120],sA [73],bA false],[sA [115],sA [73],bA true]]),some (10,List.map rApiMethod ([(ApiMethod.mk [102] [] [73] false false 1 1 ([(ApiIns.mk 1 5 [] []),(ApiIns.mk 47 0 [] [])]) [] [])])),some (3,List.map rApiField v6),some (10,List.map rApiMethod v8),some (10,List.map rApiMethod ([(ApiMethod.mk [107] [] [86] false false 1 0 ([(ApiIns.mk 5 0 [] []),(ApiIns.mk 46 0 [] [])]) [] [])]))]) ⟨[.old 0,.old 1,.old 2,.old 3,.old 4,.old 6,.old 7,.old 8],ce j0 j0<|ce j0 j0<|ce j0 j0<|cv j0 (.msl j0)<|cv j0 (.msl j0)<|cv j0 (.msl j0)<|cv j0 (.msl j0)<|cn,j0,⟨⟨_,j0,rsRows ⟨⟨(ci j0),(ci j0),(ci j0),(ci j0),(ci j0),(.msl j0),j5⟩,⟨(ci j0),(ci j0),(ci j0),(.msl j0),(.msl j0),(.msl j0),j5⟩,⟨(ci j0),(ci j0),(ci j0),(ci j0),(.msl j0),(.msl j0),j5⟩,j5⟩⟩,⟨_,j0,rsRows ⟨⟨(ci j0),(ci j0),(ci j0),(ci j0),(ci j0),(ci j0),(ci j0),(ci j0),(ci j0),(ci j0),j5⟩,j5⟩⟩,⟨_,j0,rsRows ⟨⟨(ci j0),j5⟩,j5⟩⟩,⟨_,j0,rsRows ⟨⟨(ci j0),(ci j0),(ci j0),j5⟩,⟨(ci j0),(ci j0),(ci j0),j5⟩,j5⟩⟩,⟨_,j0,rsRows ⟨⟨(ci j0),(.nil),(ci j0),(ci j0),(ci j0),(ci j0),(ci j0),(rsSealX j0 j0 ⟨⟨⟨ci j0,ci j0,ci j0,ci j0,j5⟩,j0⟩,⟨⟨ci j0,ci j0,ci j0,ci j0,j5⟩,j0⟩,j5⟩),(.nil),(.nil),j5⟩,j5⟩⟩,⟨_,j0,rsMap (fun _=>j0)⟩,⟨_,j0,rsMap (fun _=>j0)⟩,⟨_,j0,rsMap (fun _=>j0)⟩,j5⟩,j0,j1⟩<|u<|apM 8 ti27 j0 ti76 j0 j0 (by decide) ti27 j0 j0 j0 j0 (roM j0) (fun _=>j0) j0 q8<|u<|ixX ti24 j0 ti29 j0 j0 j0<|u<|fa ti29 j0 j0 j0<|u<|sto ti27 j0 j0 j0<|r_nil (⟨v9,h,[.old 0,.old 1,.old 2,.old 3,.old 8,.old 5,.old 6],ce j0 j0<|ce j0 j0<|ce j0 j0<|cv j0 (.msl j0)<|cn,j0,⟨⟨_,j0,rsRows ⟨⟨(ci j0),(ci j0),(ci j0),(ci j0),(ci j0),(.msl j0),j5⟩,⟨(ci j0),(ci j0),(ci j0),(.msl j0),(.msl j0),(.msl j0),j5⟩,⟨(ci j0),(ci j0),(ci j0),(ci j0),(.msl j0),(.msl j0),j5⟩,j5⟩⟩,⟨_,j0,rsRows ⟨⟨(ci j0),(ci j0),(ci j0),(ci j0),(ci j0),(ci j0),(ci j0),(ci j0),(ci j0),(ci j0),j5⟩,j5⟩⟩,⟨_,j0,rsRows ⟨⟨(ci j0),j5⟩,j5⟩⟩,⟨_,j0,rsRows ⟨⟨(ci j0),(ci j0),(ci j0),j5⟩,⟨(ci j0),(ci j0),(ci j0),j5⟩,j5⟩⟩,⟨_,j0,rsMap (fun _=>j0)⟩,⟨_,j0,rsMap (fun _=>j0)⟩,⟨_,j0,rsMap (fun _=>j0)⟩,j5⟩,j0,j1⟩)
     ·
      replace h:=bF hc7 h
      refine sw_skip ?_
      exact ⟨[(ApiMethod.mk [102] [] [73] false false 1 1 ([(ApiIns.mk 1 5 [] []),(ApiIns.mk 47 0 [] [])]) [] [])],h,[.old 0,.old 1,.old 2,.old 3,.old 4,.old 6,.old 7],ce j0 j0<|ce j0 j0<|ce j0 j0<|cv j0 (.msl j0)<|cn,j0,⟨⟨_,j0,rsRows ⟨⟨(ci j0),(ci j0),(ci j0),(ci j0),(ci j0),(.msl j0),j5⟩,⟨(ci j0),(ci j0),(ci j0),(.msl j0),(.msl j0),(.msl j0),j5⟩,⟨(ci j0),(ci j0),(ci j0),(ci j0),(.msl j0),(.msl j0),j5⟩,j5⟩⟩,⟨_,j0,rsRows ⟨⟨(ci j0),(ci j0),(ci j0),(ci j0),(ci j0),(ci j0),(ci j0),(ci j0),(ci j0),(ci j0),j5⟩,j5⟩⟩,⟨_,j0,rsRows ⟨⟨(ci j0),j5⟩,j5⟩⟩,⟨_,j0,rsRows ⟨⟨(ci j0),(ci j0),(ci j0),j5⟩,⟨(ci j0),(ci j0),(ci j0),j5⟩,j5⟩⟩,⟨_,j0,rsRows ⟨⟨(ci j0),(.nil),(ci j0),(ci j0),(ci j0),(ci j0),(ci j0),(rsSealX j0 j0 ⟨⟨⟨ci j0,ci j0,ci j0,ci j0,j5⟩,j0⟩,⟨⟨ci j0,ci j0,ci j0,ci j0,j5⟩,j0⟩,j5⟩),(.nil),(.nil),j5⟩,j5⟩⟩,⟨_,j0,rsMap (fun _=>j0)⟩,⟨_,j0,rsMap (fun _=>j0)⟩,j5⟩,j0,j1⟩
    ·
     rintro v10 h
     replace h : law11_ClosedFirst_j3 v1 v2 v3 v6 v8 v10 = some r:=h
     unfold law11_ClosedFirst_j3 at h
     obtain ⟨v11,q9,h⟩:=bs h
     refine rg j0<|u<|mv j0<|u<|bd ti94 j0 j0 j0<|r_can (env0:=[(0,bA v1),(1,bA v2),(2,bA v3),(54,.isl 6 (List.map rApiClass ([(ApiClass.mk [70,97,99,101] [79,98,106,101,99,116] true [] [] ([(ApiMethod.mk [102] [] [73] false true 0 0 [] [] [])])),(ApiClass.mk [65,97] [79,98,106,101,99,116] false ([[70,97,99,101]]) ([(ApiField.mk [120] [73] false),(ApiField.mk [115] [73] true)]) v10),(ApiClass.mk [66,98] [65,97] false [] v6 v8)]))),(55,.agg [sA [66,98],sA [109,97,105,110]])]) (st0:=[]) ⟨[],ce j0 j0<|ce j0 j0<|ce j0 j0<|cv j0 (rsSealX j0 j0 ⟨⟨⟨ci j0,ci j0,ci j0,.nil,.nil,rsSealX j0 j0 ⟨⟨⟨ci j0,.nil,ci j0,ci j0,ci j0,ci j0,ci j0,.nil,.nil,.nil,j5⟩,j0⟩,j5⟩,j5⟩,j0⟩,⟨⟨ci j0,ci j0,ci j0,rsSealX j0 j0 ⟨⟨⟨ci j0,j5⟩,j0⟩,j5⟩,rsSealX j0 j0 ⟨⟨⟨ci j0,ci j0,ci j0,j5⟩,j0⟩,⟨⟨ci j0,ci j0,ci j0,j5⟩,j0⟩,j5⟩,rsSeal j0 j0 (fun _=>j0),j5⟩,j0⟩,⟨⟨ci j0,ci j0,ci j0,.nil,rsSeal j0 j0 (fun _=>j0),rsSeal j0 j0 (fun _=>j0),j5⟩,j0⟩,j5⟩)<|ce j0 j0<|cn,j0,j5,j0,j1⟩<|u<|pc (closed_Check_ok ([(ApiClass.mk [70,97,99,101] [79,98,106,101,99,116] true [] [] ([(ApiMethod.mk [102] [] [73] false true 0 0 [] [] [])])),(ApiClass.mk [65,97] [79,98,106,101,99,116] false ([[70,97,99,101]]) ([(ApiField.mk [120] [73] false),(ApiField.mk [115] [73] true)]) v10),(ApiClass.mk [66,98] [65,97] false [] v6 v8)]) (ApiEntry.mk [66,98] [109,97,105,110]) q9) j0 j0 j0<|u<|mv j0<|u<|ex j0 j0<|u<|ex j0 j0<|u<|asg j0<|u<|asg j0<|r_nil ?_
     refine sw_seq ?_
     refine sw_block ?_
     refine rg j0<|u<|mv j0<|u<|asg j0<|r_nil ?_
     refine sw_cond j0 (fun hc10=>?_) (fun hc10=>?_)
     ·
      replace h:=bT hc10 h
      refine rg j0<|u<|mv j0<|u<|eql ti33 j0 j0<|u<|asg j0<|r_nil ?_
      refine sw_ret ?_
      obtain rfl:=sm h
      exact ⟨_,j0,[],ci j0,j0,j5,j0,j1⟩
     ·
      replace h:=bF hc10 h
      refine rg j0<|u<|mv j0<|u<|asg j0<|r_nil ?_
      refine sw_cond j0 (fun hc11=>?_) (fun hc11=>?_)
      ·
       replace h:=bT hc11 h
       refine rg j0<|u<|mv j0<|u<|eql ti33 j0 j0<|u<|asg j0<|r_nil ?_
       refine sw_ret ?_
       obtain rfl:=sm h
       exact ⟨_,j0,[],ci j0,j0,j5,j0,j1⟩
      ·
       replace h:=bF hc11 h
       refine rg j0<|u<|mv j0<|u<|asg j0<|r_nil ?_
       refine sw_cond j0 (fun hc12=>?_) (fun hc12=>?_)
       ·
        replace h:=bT hc12 h
        refine rg j0<|u<|mv j0<|u<|eql ti33 j0 j0<|u<|asg j0<|r_nil ?_
        refine sw_ret ?_
        obtain rfl:=sm h
        exact ⟨_,j0,[],ci j0,j0,j5,j0,j1⟩
       ·
        replace h:=bF hc12 h
        refine sw_skip ?_
        refine rg j0<|u<|mv j0<|u<|eql ti33 j0 j0<|u<|asg j0<|r_nil ?_
        refine sw_ret ?_
        obtain rfl:=sm h
        exact ⟨_,j0,[],ci j0,j0,j5,j0,j1⟩
end
end Go.Proofs.YtjbdfkapnffjnaaGreat
namespace Go.Proofs.YtjbdfkapnffjnaaGreat
noncomputable section
set_option linter.unusedSimpArgs false
set_option linter.unusedVariables false
set_option maxRecDepth 100000
set_option maxHeartbeats 4000000
def law11_ClosedFaces_k8 (v37 : List ApiMethod) (v38 : List ApiMethod) (v39 : List ApiMethod) (v40 : Bool) : Option (Bool) :=
  (closed_Check ([(ApiClass.mk [70,97,99,101] [79,98,106,101,99,116] true [] [] v37),(ApiClass.mk [65,97] [79,98,106,101,99,116] false [] ([(ApiField.mk [120] [73] false)]) v38),(ApiClass.mk [66,98] [65,97] false ([[70,97,99,101]]) ([(ApiField.mk [120] [73] false)]) v39)]) (ApiEntry.mk [65,97] [109,97,105,110])).bind fun v41=>some (((v41.2 == (0 : Int)) == v40) && (v40 || (v41.2 == (1 : Int))))
def law11_ClosedFaces_j6 (v24 : Bool) (v25 : Int) (v29 : Bool) (v30 : Bool) (v32 : List ApiMethod) (v35 : List ApiMethod) (v36 : List ApiMethod) : Option (Sum ((List ApiMethod) × (List ApiMethod) × (List ApiMethod) × Bool × Int) (Sum ((List ApiMethod) × (List ApiMethod) × (List ApiMethod) × Bool) (Bool))) :=
  some (.inl (v32,v35,v36,(v24 && ((!v29) || v30)),(IntKind.i64.wrap (v25 + 1))))
def law11_ClosedFaces_j5 (v3 : Bool) (v22 : List ApiMethod) (v23 : List ApiMethod) (v24 : Bool) (v25 : Int) (v29 : Bool) (v30 : Bool) (v32 : List ApiMethod) : Option (Sum ((List ApiMethod) × (List ApiMethod) × (List ApiMethod) × Bool × Int) (Sum ((List ApiMethod) × (List ApiMethod) × (List ApiMethod) × Bool) (Bool))) :=
  cond v30 (cond v3 ((appP 152 v22 ([(ApiMethod.mk [(109 : UInt8),(tU8 (IntKind.i64.wrap (48 + v25)))] [] [86] false false 1 0 ([(ApiIns.mk 46 0 [] [])]) [] [])])).bind fun v33=>law11_ClosedFaces_j6 v24 v25 v29 v30 v32 v33 v23) ((appP 152 v23 ([(ApiMethod.mk [(109 : UInt8),(tU8 (IntKind.i64.wrap (48 + v25)))] [] [86] false false 1 0 ([(ApiIns.mk 46 0 [] [])]) [] [])])).bind fun v34=>law11_ClosedFaces_j6 v24 v25 v29 v30 v32 v22 v34)) (law11_ClosedFaces_j6 v24 v25 v29 v30 v32 v22 v23)
def law11_ClosedFaces_j4 (v3 : Bool) (v21 : List ApiMethod) (v22 : List ApiMethod) (v23 : List ApiMethod) (v24 : Bool) (v25 : Int) (v29 : Bool) (v30 : Bool) : Option (Sum ((List ApiMethod) × (List ApiMethod) × (List ApiMethod) × Bool × Int) (Sum ((List ApiMethod) × (List ApiMethod) × (List ApiMethod) × Bool) (Bool))) :=
  cond v29 ((appP 152 v21 ([(ApiMethod.mk [(109 : UInt8),(tU8 (IntKind.i64.wrap (48 + v25)))] [] [86] false true 0 0 [] [] [])])).bind fun v31=>law11_ClosedFaces_j5 v3 v22 v23 v24 v25 v29 v30 v31) (law11_ClosedFaces_j5 v3 v22 v23 v24 v25 v29 v30 v21)
def law11_ClosedFaces_l7 (v1 : List Bool) (v2 : List Bool) (v3 : Bool) (v21 : List ApiMethod) (v22 : List ApiMethod) (v23 : List ApiMethod) (v24 : Bool) (v25 : Int) : Option (Sum ((List ApiMethod) × (List ApiMethod) × (List ApiMethod) × Bool × Int) (Sum ((List ApiMethod) × (List ApiMethod) × (List ApiMethod) × Bool) (Bool))) :=
  cond (decide (v25 < 4)) (cond (decide (v25 < (List.length v1 : Int))) ((idx v1 v25).bind fun v26=>cond (decide (v25 < (List.length v2 : Int))) ((idx v2 v25).bind fun v27=>law11_ClosedFaces_j4 v3 v21 v22 v23 v24 v25 v26 v27) (law11_ClosedFaces_j4 v3 v21 v22 v23 v24 v25 v26 false)) (cond (decide (v25 < (List.length v2 : Int))) ((idx v2 v25).bind fun v28=>law11_ClosedFaces_j4 v3 v21 v22 v23 v24 v25 false v28) (law11_ClosedFaces_j4 v3 v21 v22 v23 v24 v25 false false))) (some (.inr (.inl (v21,v22,v23,v24))))
def law11_ClosedFaces (v1 : List Bool) (v2 : List Bool) (v3 : Bool) : Option (Bool) :=
  (law11_begun).bind fun v4=>cond (!v4) (some false) ((loopP (fun z=>law11_ClosedFaces_l7 v1 v2 v3 z.1 z.2.1 z.2.2.1 z.2.2.2.1 z.2.2.2.2) ([],[(ApiMethod.mk [109,97,105,110] [] [86] true false 0 0 ([(ApiIns.mk 46 0 [] [])]) [] [])],[(ApiMethod.mk [103,111] [] [86] true false 0 0 ([(ApiIns.mk 46 0 [] [])]) [] [])],true,0)).bind fun o=>leave o (fun b=>law11_ClosedFaces_k8 b.1 b.2.1 b.2.2.1 b.2.2.2) some)
theorem law11_ClosedFaces_ok (v1 : List Bool) (v2 : List Bool) (v3 : Bool) {r : Bool} (h : law11_ClosedFaces v1 v2 v3 = some r) : PureC Tryz.prog 18 [.isl 1 (List.map rB v1),.isl 1 (List.map rB v2),bA v3] (bA r):=by
 refine pure_fn Tryz.func18 j0 (by kernel_rfl) j0 j0 ?_
 unfold law11_ClosedFaces at h
 refine rg j0<|u<|asg j0<|r_nil ?_
 obtain ⟨v4,q1,h⟩:=bs h
 refine rg j0<|u<|pc (law11_begun_ok q1) j0 j0 j0<|u<|asg j0<|r_nil ?_
 refine sw_seq ?_
 refine rg j0<|u<|mv j0<|u<|nt j0<|r_nil ?_
 refine sw_cond j0 (fun hc2=>?_) (fun hc2=>?_)
 ·
  replace h:=bT hc2 h
  refine rg j0<|u<|asg j0<|r_nil ?_
  refine sw_ret ?_
  obtain rfl:=sm h
  exact ⟨_,j0,[],ci j0,j0,j5,j0,j1⟩
 ·
  replace h:=bF hc2 h
  refine sw_skip ?_
  refine rg j0<|u<|bd ti29 j0 j0 j0<|u<|al 0 ti29 j0<|u<|sto ti29 j0 j0 j0<|r_nil ?_
  refine rg j0<|u<|sc [] (law5_One_ok [65,97] j0) j0 j0 j0 j0 ⟨(rnI j0),j5⟩ j5<|u<|sc [] (law5_One_ok [66,98] j0) j0 j0 j0 j0 ⟨(rnI j0),j5⟩ j5<|u<|al 7 ti29 j0<|u<|al 8 ti29 j0<|u<|sto ti29 j0 j0 j0<|u<|sto ti29 j0 j0 j0<|r_nil ?_
  refine rg j0<|u<|fa ti29 j0 j0 j0<|u<|sto ti9 j0 j0 j0<|r_nil ?_
  refine rg j0<|u<|fa ti29 j0 j0 j0<|u<|ld ti27 j0 j0<|u<|ixX ti27 j0 ti76 j0 j0 j0<|u<|fa ti76 j0 j0 j0<|u<|sto ti9 j0 j0 j0<|r_nil ?_
  refine rg j0<|u<|asg j0<|r_nil ?_
  refine sw_seq ?_
  refine rg j0<|u<|asg j0<|r_nil ?_
  obtain ⟨o,ho,h⟩:=bs h
  refine sw_lpl (X:=(List ApiMethod) × (List ApiMethod) × (List ApiMethod) × Bool × Int) (B:=(List ApiMethod) × (List ApiMethod) × (List ApiMethod) × Bool) (R:=Bool) (fun z=>[(0,.isl 1 (List.map rB v1)),(1,.isl 1 (List.map rB v2)),(2,bA v3),(8,.mpt 0 0 0),(9,.mpt 2 0 0),(10,.mpt 5 0 0),(11,bA z.2.2.2.1),(12,iA z.2.2.2.2)]) (fun z=>[some (6,[[sA [70,97,99,101],sA [79,98,106,101,99,116],bA true,.lit (.slice none 0 0),.lit (.slice none 0 0),.msl 1 0 (List.length z.1)]]),some (10,List.map rApiMethod z.1),some (6,[[sA [65,97],sA [79,98,106,101,99,116],bA false,.lit (.slice none 0 0),.msl 3 0 (List.length ([(ApiField.mk [120] [73] false)])),.msl 4 0 (List.length z.2.1)]]),some (3,List.map rApiField ([(ApiField.mk [120] [73] false)])),some (10,List.map rApiMethod z.2.1),some (6,[[sA [66,98],sA [65,97],bA false,.lit (.slice none 0 0),.msl 6 0 (List.length ([(ApiField.mk [120] [73] false)])),.msl 7 0 (List.length z.2.2.1)]]),some (3,List.map rApiField ([(ApiField.mk [120] [73] false)])),some (10,List.map rApiMethod z.2.2.1)]) (fun b=>[(8,.mpt 0 0 0),(9,.mpt 2 0 0),(10,.mpt 5 0 0),(11,bA b.2.2.2)]) (fun b=>[some (6,[[sA [70,97,99,101],sA [79,98,106,101,99,116],bA true,.lit (.slice none 0 0),.lit (.slice none 0 0),.msl 1 0 (List.length b.1)]]),some (10,List.map rApiMethod b.1),some (6,[[sA [65,97],sA [79,98,106,101,99,116],bA false,.lit (.slice none 0 0),.msl 3 0 (List.length ([(ApiField.mk [120] [73] false)])),.msl 4 0 (List.length b.2.1)]]),some (3,List.map rApiField ([(ApiField.mk [120] [73] false)])),some (10,List.map rApiMethod b.2.1),some (6,[[sA [66,98],sA [65,97],bA false,.lit (.slice none 0 0),.msl 6 0 (List.length ([(ApiField.mk [120] [73] false)])),.msl 7 0 (List.length b.2.2.1)]]),some (3,List.map rApiField ([(ApiField.mk [120] [73] false)])),some (10,List.map rApiMethod b.2.2.1)]) (fun r env st=>PostF Tryz.prog Tryz.f18 0 (bA r) [] env st) ho ⟨[.old 0,.fresh 10,.old 7,.old 1,.old 2,.old 8,.old 4,.old 5],ce j0 j0<|ce j0 j0<|ce j0 j0<|cv j0 (.mpt j0)<|cv j0 (.mpt j0)<|cv j0 (.mpt j0)<|ce j0 j0<|ce j0 j0<|cn,j0,⟨⟨_,j0,rsOne ⟨ci j0,ci j0,ci j0,ci j0,ci j0,.nilown j0,j5⟩⟩,j4,⟨_,j0,rsOne ⟨ci j0,ci j0,ci j0,ci j0,.msl j0,.msl j0,j5⟩⟩,⟨_,j0,rsRows ⟨⟨(ci j0),(ci j0),(ci j0),j5⟩,j5⟩⟩,⟨_,j0,rsRows ⟨⟨(ci j0),(.nil),(ci j0),(ci j0),(ci j0),(ci j0),(ci j0),(rsSealX j0 j0 ⟨⟨⟨ci j0,ci j0,ci j0,ci j0,j5⟩,j0⟩,j5⟩),(.nil),(.nil),j5⟩,j5⟩⟩,⟨_,j0,rsOne ⟨ci j0,ci j0,ci j0,ci j0,.msl j0,.msl j0,j5⟩⟩,⟨_,j0,rsRows ⟨⟨(ci j0),(ci j0),(ci j0),j5⟩,j5⟩⟩,⟨_,j0,rsRows ⟨⟨(ci j0),(.nil),(ci j0),(ci j0),(ci j0),(ci j0),(ci j0),(rsSealX j0 j0 ⟨⟨⟨ci j0,ci j0,ci j0,ci j0,j5⟩,j0⟩,j5⟩),(.nil),(.nil),j5⟩,j5⟩⟩,j5⟩,j0,j1⟩ ?_ ?_ ?_
  ·
   rintro ⟨v21,v22,v23,v24,v25⟩ r h
   replace h : law11_ClosedFaces_l7 v1 v2 v3 v21 v22 v23 v24 v25 = some r:=h
   unfold law11_ClosedFaces_l7 at h
   refine sw_seq ?_
   refine rg j0<|u<|mv j0<|u<|lss ti3 j0 j0<|r_nil ?_
   refine sw_cond j0 (fun hc17=>?_) (fun hc17=>?_)
   ·
    replace h:=bT hc17 h
    refine sw_skip ?_
    refine sw_seq ?_
    refine sw_block ?_
    refine rg j0<|u<|mv j0<|u<|add ti3 j0 j0<|u<|cv8 ti3 ti5 j0 j0 j0<|u<|bl 8 ti31 j0 ti5 j0 (by decide) (by decide) j0 j0 j0<|u<|cvt (l:=[(109 : UInt8),(tU8 (IntKind.i64.wrap (48 + v25)))]) ti31 ti9 j0 j0 ti5 j0 j0 (fun _ h=>by cases h) (roX (f:=byteRow) (z:=[(109 : UInt8),(tU8 (IntKind.i64.wrap (48 + v25)))]) j0 j0)<|u<|asg j0<|r_nil ?_
    refine sw_meet (X:=Bool × Bool) (fun z=>[(0,.isl 1 (List.map rB v1)),(1,.isl 1 (List.map rB v2)),(2,bA v3),(8,.mpt 0 0 0),(9,.mpt 2 0 0),(10,.mpt 5 0 0),(11,bA v24),(12,iA v25),(13,sA [(109 : UInt8),(tU8 (IntKind.i64.wrap (48 + v25)))]),(14,bA z.1),(15,bA z.2)]) (fun z=>[some (6,[[sA [70,97,99,101],sA [79,98,106,101,99,116],bA true,.lit (.slice none 0 0),.lit (.slice none 0 0),.msl 1 0 (List.length v21)]]),some (10,List.map rApiMethod v21),some (6,[[sA [65,97],sA [79,98,106,101,99,116],bA false,.lit (.slice none 0 0),.msl 3 0 (List.length ([(ApiField.mk [120] [73] false)])),.msl 4 0 (List.length v22)]]),some (3,List.map rApiField ([(ApiField.mk [120] [73] false)])),some (10,List.map rApiMethod v22),some (6,[[sA [66,98],sA [65,97],bA false,.lit (.slice none 0 0),.msl 6 0 (List.length ([(ApiField.mk [120] [73] false)])),.msl 7 0 (List.length v23)]]),some (3,List.map rApiField ([(ApiField.mk [120] [73] false)])),some (10,List.map rApiMethod v23)]) (fun z=>law11_ClosedFaces_j4 v3 v21 v22 v23 v24 v25 z.1 z.2 = some r) ?_ ?_
    ·
     rcases bb (decide (v25 < (List.length v1 : Int))) with hb18 | hb18
     ·
      replace h:=bT hb18 h
      obtain ⟨v26,q19,h⟩:=bs h
      rcases bb (decide (v25 < (List.length v2 : Int))) with hb20 | hb20
      ·
       replace h:=bT hb20 h
       obtain ⟨v27,q21,h⟩:=bs h
       exact sw_region_dt [] [21,20,19,18,17,16,15,14,13,12,11,10,9,8,7,6,5,4,3,2,1,0] [(15,bA v27),(14,bA v26),(58,bA v27),(57,bA v27),(56,.ipt 1 (List.map rB v2) (Int.toNat v25) 0),(55,iA v25),(54,.isl 1 (List.map rB v2)),(53,bA (decide (v25 < (List.length v2 : Int)))),(52,bA (decide (v25 < (List.length v2 : Int)))),(51,iA (List.length v2 : Int)),(50,.isl 1 (List.map rB v2)),(49,iA v25),(48,bA v26),(47,bA v26),(46,.ipt 1 (List.map rB v1) (Int.toNat v25) 0),(45,iA v25),(44,.isl 1 (List.map rB v1)),(43,bA (decide (v25 < (List.length v1 : Int)))),(42,bA (decide (v25 < (List.length v1 : Int)))),(41,iA (List.length v1 : Int)),(40,.isl 1 (List.map rB v1)),(39,iA v25)] 0 (by kernel_rfl) (by kernel_rfl) j0 (by kernel_rfl) (dt0 ⟨(fun _=>pa j0 j0 j0 j0 (asg j0<|j4)),(fun _=>pa j0 j0 j0 j0 (asg j0<|j4)),(fun _=>pa j0 j0 j0 j0 (pkb j0 hb20 j0<|j4)),(fun _=>pag (b:=(decide (v25 < (List.length v2 : Int)))) j0 j0 j0 j0 hb20 j0 (ldI ti4 j0 (idx_some q21).2.2 j0<|j4)),(fun _=>pag (b:=(decide (v25 < (List.length v2 : Int)))) j0 j0 j0 j0 hb20 j0 (ixI ti103 j0 ti4 j0 j0 j0 q21<|j4)),(fun _=>pag (b:=(decide (v25 < (List.length v2 : Int)))) j0 j0 j0 j0 hb20 j0 (mv j0<|j4)),(fun _=>pag (b:=(decide (v25 < (List.length v2 : Int)))) j0 j0 j0 j0 hb20 j0 (mv j0<|j4)),(fun _=>pa j0 j0 j0 j0 (mv j0<|j4)),(fun _=>pa j0 j0 j0 j0 (lss ti3 j0 j0<|j4)),(fun _=>pa j0 j0 j0 j0 (lnI ti103 j0 j0<|j4)),(fun _=>pa j0 j0 j0 j0 (mv j0<|j4)),(fun _=>pa j0 j0 j0 j0 (mv j0<|j4)),(fun _=>pa j0 j0 j0 j0 (pkb j0 hb18 j0<|j4)),(fun _=>pag (b:=(decide (v25 < (List.length v1 : Int)))) j0 j0 j0 j0 hb18 j0 (ldI ti4 j0 (idx_some q19).2.2 j0<|j4)),(fun _=>pag (b:=(decide (v25 < (List.length v1 : Int)))) j0 j0 j0 j0 hb18 j0 (ixI ti103 j0 ti4 j0 j0 j0 q19<|j4)),(fun _=>pag (b:=(decide (v25 < (List.length v1 : Int)))) j0 j0 j0 j0 hb18 j0 (mv j0<|j4)),(fun _=>pag (b:=(decide (v25 < (List.length v1 : Int)))) j0 j0 j0 j0 hb18 j0 (mv j0<|j4)),(fun _=>pa j0 j0 j0 j0 (mv j0<|j4)),(fun _=>pa j0 j0 j0 j0 (lss ti3 j0 j0<|j4)),(fun _=>pa j0 j0 j0 j0 (lnI ti103 j0 j0<|j4)),(fun _=>pa j0 j0 j0 j0 (mv j0<|j4)),(fun _=>pa j0 j0 j0 j0 (mv j0<|j4)),j5⟩ (by kernel_rfl) j0 ⟨⟨v26,v27⟩,h,[.old 0,.old 1,.old 2,.old 3,.old 4,.old 5,.old 6,.old 7],ce j0 j0<|ce j0 j0<|ce j0 j0<|cv j0 (.mpt j0)<|cv j0 (.mpt j0)<|cv j0 (.mpt j0)<|ce j0 j0<|ce j0 j0<|ce j0 j0<|ce j0 j0<|ce j0 j0<|cn,j0,⟨⟨_,j0,rsOne ⟨ci j0,ci j0,ci j0,ci j0,ci j0,.msl j0,j5⟩⟩,⟨_,j0,rsMap (fun _=>j0)⟩,⟨_,j0,rsOne ⟨ci j0,ci j0,ci j0,ci j0,.msl j0,.msl j0,j5⟩⟩,⟨_,j0,rsMap (fun _=>j0)⟩,⟨_,j0,rsMap (fun _=>j0)⟩,⟨_,j0,rsOne ⟨ci j0,ci j0,ci j0,ci j0,.msl j0,.msl j0,j5⟩⟩,⟨_,j0,rsMap (fun _=>j0)⟩,⟨_,j0,rsMap (fun _=>j0)⟩,j5⟩,j0,j1⟩)
      ·
       replace h:=bF hb20 h
       exact sw_region_dt [] [21,20,19,18,17,16,15,14,13,12,11,10,9,8,7,6,5,4,3,2,1,0] [(15,bA false),(14,bA v26),(58,bA false),(57,.lit undef),(56,.lit undef),(55,.lit undef),(54,.lit undef),(53,bA (decide (v25 < (List.length v2 : Int)))),(52,bA (decide (v25 < (List.length v2 : Int)))),(51,iA (List.length v2 : Int)),(50,.isl 1 (List.map rB v2)),(49,iA v25),(48,bA v26),(47,bA v26),(46,.ipt 1 (List.map rB v1) (Int.toNat v25) 0),(45,iA v25),(44,.isl 1 (List.map rB v1)),(43,bA (decide (v25 < (List.length v1 : Int)))),(42,bA (decide (v25 < (List.length v1 : Int)))),(41,iA (List.length v1 : Int)),(40,.isl 1 (List.map rB v1)),(39,iA v25)] 0 (by kernel_rfl) (by kernel_rfl) j0 (by kernel_rfl) (dt0 ⟨(fun _=>pa j0 j0 j0 j0 (asg j0<|j4)),(fun _=>pa j0 j0 j0 j0 (asg j0<|j4)),(fun _=>pa j0 j0 j0 j0 (pkb j0 hb20 j0<|j4)),(fun _=>pas (b:=(decide (v25 < (List.length v2 : Int)))) j0 j0 j0 j0 hb20 j0),(fun _=>pas (b:=(decide (v25 < (List.length v2 : Int)))) j0 j0 j0 j0 hb20 j0),(fun _=>pas (b:=(decide (v25 < (List.length v2 : Int)))) j0 j0 j0 j0 hb20 j0),(fun _=>pas (b:=(decide (v25 < (List.length v2 : Int)))) j0 j0 j0 j0 hb20 j0),(fun _=>pa j0 j0 j0 j0 (mv j0<|j4)),(fun _=>pa j0 j0 j0 j0 (lss ti3 j0 j0<|j4)),(fun _=>pa j0 j0 j0 j0 (lnI ti103 j0 j0<|j4)),(fun _=>pa j0 j0 j0 j0 (mv j0<|j4)),(fun _=>pa j0 j0 j0 j0 (mv j0<|j4)),(fun _=>pa j0 j0 j0 j0 (pkb j0 hb18 j0<|j4)),(fun _=>pag (b:=(decide (v25 < (List.length v1 : Int)))) j0 j0 j0 j0 hb18 j0 (ldI ti4 j0 (idx_some q19).2.2 j0<|j4)),(fun _=>pag (b:=(decide (v25 < (List.length v1 : Int)))) j0 j0 j0 j0 hb18 j0 (ixI ti103 j0 ti4 j0 j0 j0 q19<|j4)),(fun _=>pag (b:=(decide (v25 < (List.length v1 : Int)))) j0 j0 j0 j0 hb18 j0 (mv j0<|j4)),(fun _=>pag (b:=(decide (v25 < (List.length v1 : Int)))) j0 j0 j0 j0 hb18 j0 (mv j0<|j4)),(fun _=>pa j0 j0 j0 j0 (mv j0<|j4)),(fun _=>pa j0 j0 j0 j0 (lss ti3 j0 j0<|j4)),(fun _=>pa j0 j0 j0 j0 (lnI ti103 j0 j0<|j4)),(fun _=>pa j0 j0 j0 j0 (mv j0<|j4)),(fun _=>pa j0 j0 j0 j0 (mv j0<|j4)),j5⟩ (by kernel_rfl) j0 ⟨⟨v26,false⟩,h,[.old 0,.old 1,.old 2,.old 3,.old 4,.old 5,.old 6,.old 7],ce j0 j0<|ce j0 j0<|ce j0 j0<|cv j0 (.mpt j0)<|cv j0 (.mpt j0)<|cv j0 (.mpt j0)<|ce j0 j0<|ce j0 j0<|ce j0 j0<|ce j0 j0<|ce j0 j0<|cn,j0,⟨⟨_,j0,rsOne ⟨ci j0,ci j0,ci j0,ci j0,ci j0,.msl j0,j5⟩⟩,⟨_,j0,rsMap (fun _=>j0)⟩,⟨_,j0,rsOne ⟨ci j0,ci j0,ci j0,ci j0,.msl j0,.msl j0,j5⟩⟩,⟨_,j0,rsMap (fun _=>j0)⟩,⟨_,j0,rsMap (fun _=>j0)⟩,⟨_,j0,rsOne ⟨ci j0,ci j0,ci j0,ci j0,.msl j0,.msl j0,j5⟩⟩,⟨_,j0,rsMap (fun _=>j0)⟩,⟨_,j0,rsMap (fun _=>j0)⟩,j5⟩,j0,j1⟩)
     ·
      replace h:=bF hb18 h
      rcases bb (decide (v25 < (List.length v2 : Int))) with hb22 | hb22
      ·
       replace h:=bT hb22 h
       obtain ⟨v28,q23,h⟩:=bs h
       exact sw_region_dt [] [21,20,19,18,17,16,15,14,13,12,11,10,9,8,7,6,5,4,3,2,1,0] [(15,bA v28),(14,bA false),(58,bA v28),(57,bA v28),(56,.ipt 1 (List.map rB v2) (Int.toNat v25) 0),(55,iA v25),(54,.isl 1 (List.map rB v2)),(53,bA (decide (v25 < (List.length v2 : Int)))),(52,bA (decide (v25 < (List.length v2 : Int)))),(51,iA (List.length v2 : Int)),(50,.isl 1 (List.map rB v2)),(49,iA v25),(48,bA false),(47,.lit undef),(46,.lit undef),(45,.lit undef),(44,.lit undef),(43,bA (decide (v25 < (List.length v1 : Int)))),(42,bA (decide (v25 < (List.length v1 : Int)))),(41,iA (List.length v1 : Int)),(40,.isl 1 (List.map rB v1)),(39,iA v25)] 0 (by kernel_rfl) (by kernel_rfl) j0 (by kernel_rfl) (dt0 ⟨(fun _=>pa j0 j0 j0 j0 (asg j0<|j4)),(fun _=>pa j0 j0 j0 j0 (asg j0<|j4)),(fun _=>pa j0 j0 j0 j0 (pkb j0 hb22 j0<|j4)),(fun _=>pag (b:=(decide (v25 < (List.length v2 : Int)))) j0 j0 j0 j0 hb22 j0 (ldI ti4 j0 (idx_some q23).2.2 j0<|j4)),(fun _=>pag (b:=(decide (v25 < (List.length v2 : Int)))) j0 j0 j0 j0 hb22 j0 (ixI ti103 j0 ti4 j0 j0 j0 q23<|j4)),(fun _=>pag (b:=(decide (v25 < (List.length v2 : Int)))) j0 j0 j0 j0 hb22 j0 (mv j0<|j4)),(fun _=>pag (b:=(decide (v25 < (List.length v2 : Int)))) j0 j0 j0 j0 hb22 j0 (mv j0<|j4)),(fun _=>pa j0 j0 j0 j0 (mv j0<|j4)),(fun _=>pa j0 j0 j0 j0 (lss ti3 j0 j0<|j4)),(fun _=>pa j0 j0 j0 j0 (lnI ti103 j0 j0<|j4)),(fun _=>pa j0 j0 j0 j0 (mv j0<|j4)),(fun _=>pa j0 j0 j0 j0 (mv j0<|j4)),(fun _=>pa j0 j0 j0 j0 (pkb j0 hb18 j0<|j4)),(fun _=>pas (b:=(decide (v25 < (List.length v1 : Int)))) j0 j0 j0 j0 hb18 j0),(fun _=>pas (b:=(decide (v25 < (List.length v1 : Int)))) j0 j0 j0 j0 hb18 j0),(fun _=>pas (b:=(decide (v25 < (List.length v1 : Int)))) j0 j0 j0 j0 hb18 j0),(fun _=>pas (b:=(decide (v25 < (List.length v1 : Int)))) j0 j0 j0 j0 hb18 j0),(fun _=>pa j0 j0 j0 j0 (mv j0<|j4)),(fun _=>pa j0 j0 j0 j0 (lss ti3 j0 j0<|j4)),(fun _=>pa j0 j0 j0 j0 (lnI ti103 j0 j0<|j4)),(fun _=>pa j0 j0 j0 j0 (mv j0<|j4)),(fun _=>pa j0 j0 j0 j0 (mv j0<|j4)),j5⟩ (by kernel_rfl) j0 ⟨⟨false,v28⟩,h,[.old 0,.old 1,.old 2,.old 3,.old 4,.old 5,.old 6,.old 7],ce j0 j0<|ce j0 j0<|ce j0 j0<|cv j0 (.mpt j0)<|cv j0 (.mpt j0)<|cv j0 (.mpt j0)<|ce j0 j0<|ce j0 j0<|ce j0 j0<|ce j0 j0<|ce j0 j0<|cn,j0,⟨⟨_,j0,rsOne ⟨ci j0,ci j0,ci j0,ci j0,ci j0,.msl j0,j5⟩⟩,⟨_,j0,rsMap (fun _=>j0)⟩,⟨_,j0,rsOne ⟨ci j0,ci j0,ci j0,ci j0,.msl j0,.msl j0,j5⟩⟩,⟨_,j0,rsMap (fun _=>j0)⟩,⟨_,j0,rsMap (fun _=>j0)⟩,⟨_,j0,rsOne ⟨ci j0,ci j0,ci j0,ci j0,.msl j0,.msl j0,j5⟩⟩,⟨_,j0,rsMap (fun _=>j0)⟩,⟨_,j0,rsMap (fun _=>j0)⟩,j5⟩,j0,j1⟩)
      ·
       replace h:=bF hb22 h
       exact sw_region_dt [] [21,20,19,18,17,16,15,14,13,12,11,10,9,8,7,6,5,4,3,2,1,0] [(15,bA false),(14,bA false),(58,bA false),(57,.lit undef),(56,.lit undef),(55,.lit undef),(54,.lit undef),(53,bA (decide (v25 < (List.length v2 : Int)))),(52,bA (decide (v25 < (List.length v2 : Int)))),(51,iA (List.length v2 : Int)),(50,.isl 1 (List.map rB v2)),(49,iA v25),(48,bA false),(47,.lit undef),(46,.lit undef),(45,.lit undef),(44,.lit undef),(43,bA (decide (v25 < (List.length v1 : Int)))),(42,bA (decide (v25 < (List.length v1 : Int)))),(41,iA (List.length v1 : Int)),(40,.isl 1 (List.map rB v1)),(39,iA v25)] 0 (by kernel_rfl) (by kernel_rfl) j0 (by kernel_rfl) (dt0 ⟨(fun _=>pa j0 j0 j0 j0 (asg j0<|j4)),(fun _=>pa j0 j0 j0 j0 (asg j0<|j4)),(fun _=>pa j0 j0 j0 j0 (pkb j0 hb22 j0<|j4)),(fun _=>pas (b:=(decide (v25 < (List.length v2 : Int)))) j0 j0 j0 j0 hb22 j0),(fun _=>pas (b:=(decide (v25 < (List.length v2 : Int)))) j0 j0 j0 j0 hb22 j0),(fun _=>pas (b:=(decide (v25 < (List.length v2 : Int)))) j0 j0 j0 j0 hb22 j0),(fun _=>pas (b:=(decide (v25 < (List.length v2 : Int)))) j0 j0 j0 j0 hb22 j0),(fun _=>pa j0 j0 j0 j0 (mv j0<|j4)),(fun _=>pa j0 j0 j0 j0 (lss ti3 j0 j0<|j4)),(fun _=>pa j0 j0 j0 j0 (lnI ti103 j0 j0<|j4)),(fun _=>pa j0 j0 j0 j0 (mv j0<|j4)),(fun _=>pa j0 j0 j0 j0 (mv j0<|j4)),(fun _=>pa j0 j0 j0 j0 (pkb j0 hb18 j0<|j4)),(fun _=>pas (b:=(decide (v25 < (List.length v1 : Int)))) j0 j0 j0 j0 hb18 j0),(fun _=>pas (b:=(decide (v25 < (List.length v1 : Int)))) j0 j0 j0 j0 hb18 j0),(fun _=>pas (b:=(decide (v25 < (List.length v1 : Int)))) j0 j0 j0 j0 hb18 j0),(fun _=>pas (b:=(decide (v25 < (List.length v1 : Int)))) j0 j0 j0 j0 hb18 j0),(fun _=>pa j0 j0 j0 j0 (mv j0<|j4)),(fun _=>pa j0 j0 j0 j0 (lss ti3 j0 j0<|j4)),(fun _=>pa j0 j0 j0 j0 (lnI ti103 j0 j0<|j4)),(fun _=>pa j0 j0 j0 j0 (mv j0<|j4)),(fun _=>pa j0 j0 j0 j0 (mv j0<|j4)),j5⟩ (by kernel_rfl) j0 ⟨⟨false,false⟩,h,[.old 0,.old 1,.old 2,.old 3,.old 4,.old 5,.old 6,.old 7],ce j0 j0<|ce j0 j0<|ce j0 j0<|cv j0 (.mpt j0)<|cv j0 (.mpt j0)<|cv j0 (.mpt j0)<|ce j0 j0<|ce j0 j0<|ce j0 j0<|ce j0 j0<|ce j0 j0<|cn,j0,⟨⟨_,j0,rsOne ⟨ci j0,ci j0,ci j0,ci j0,ci j0,.msl j0,j5⟩⟩,⟨_,j0,rsMap (fun _=>j0)⟩,⟨_,j0,rsOne ⟨ci j0,ci j0,ci j0,ci j0,.msl j0,.msl j0,j5⟩⟩,⟨_,j0,rsMap (fun _=>j0)⟩,⟨_,j0,rsMap (fun _=>j0)⟩,⟨_,j0,rsOne ⟨ci j0,ci j0,ci j0,ci j0,.msl j0,.msl j0,j5⟩⟩,⟨_,j0,rsMap (fun _=>j0)⟩,⟨_,j0,rsMap (fun _=>j0)⟩,j5⟩,j0,j1⟩)
    ·
     rintro ⟨v29,v30⟩ h
     replace h : law11_ClosedFaces_j4 v3 v21 v22 v23 v24 v25 v29 v30 = some r:=h
     unfold law11_ClosedFaces_j4 at h
     refine sw_meet (X:=(List ApiMethod)) (fun z=>[(0,.isl 1 (List.map rB v1)),(1,.isl 1 (List.map rB v2)),(2,bA v3),(8,.mpt 0 0 0),(9,.mpt 2 0 0),(10,.mpt 5 0 0),(11,bA v24),(12,iA v25),(13,sA [(109 : UInt8),(tU8 (IntKind.i64.wrap (48 + v25)))]),(14,bA v29),(15,bA v30)]) (fun z=>[some (6,[[sA [70,97,99,101],sA [79,98,106,101,99,116],bA true,.lit (.slice none 0 0),.lit (.slice none 0 0),.msl 1 0 (List.length z)]]),some (10,List.map rApiMethod z),some (6,[[sA [65,97],sA [79,98,106,101,99,116],bA false,.lit (.slice none 0 0),.msl 3 0 (List.length ([(ApiField.mk [120] [73] false)])),.msl 4 0 (List.length v22)]]),some (3,List.map rApiField ([(ApiField.mk [120] [73] false)])),some (10,List.map rApiMethod v22),some (6,[[sA [66,98],sA [65,97],bA false,.lit (.slice none 0 0),.msl 6 0 (List.length ([(ApiField.mk [120] [73] false)])),.msl 7 0 (List.length v23)]]),some (3,List.map rApiField ([(ApiField.mk [120] [73] false)])),some (10,List.map rApiMethod v23)]) (fun z=>law11_ClosedFaces_j5 v3 v22 v23 v24 v25 v29 v30 z = some r) ?_ ?_
     ·
      refine rg j0<|u<|mv j0<|r_nil ?_
      refine sw_cond j0 (fun hc24=>?_) (fun hc24=>?_)
      ·
       replace h:=bT hc24 h
       obtain ⟨v31,q25,h⟩:=bs h
       exact rl j0<|u<|fa ti29 j0 j0 j0<|u<|ld ti27 j0 j0<|u<|mv j0<|u<|bd ti76 j0 j0 j0<|u<|bl 8 ti27 j0 ti76 j0 (by decide) (by decide) j0 j0 j0<|r_can (env0:=[(0,.isl 1 (List.map rB v1)),(1,.isl 1 (List.map rB v2)),(2,bA v3),(8,.mpt 0 0 0),(9,.mpt 2 0 0),(10,.mpt 5 0 0),(11,bA v24),(12,iA v25),(13,sA [(109 : UInt8),(tU8 (IntKind.i64.wrap (48 + v25)))]),(14,bA v29),(15,bA v30),(61,.msl 1 0 (List.length v21)),(64,.msl 8 0 (List.length ([(ApiMethod.mk [(109 : UInt8),(tU8 (IntKind.i64.wrap (48 + v25)))] [] [86] false true 0 0 [] [] [])])))]) (st0:=[some (6,[[sA [70,97,99,101],sA [79,98,106,101,99,116],bA true,.lit (.slice none 0 0),.lit (.slice none 0 0),.msl 1 0 (List.length v21)]]),some (10,List.map rApiMethod v21),some (6,[[sA [65,97],sA [79,98,106,101,99,116],bA false,.lit (.slice none 0 0),.msl 3 0 (List.length ([(ApiField.mk [120] [73] false)])),.msl 4 0 (List.length v22)]]),some (3,List.map rApiField ([(ApiField.mk [120] [73] false)])),some (10,List.map rApiMethod v22),some (6,[[sA [66,98],sA [65,97],bA false,.lit (.slice none 0 0),.msl 6 0 (List.length ([(ApiField.mk [120] [73] false)])),.msl 7 0 (List.length v23)]]),some (3,List.map rApiField ([(ApiField.mk [120] [73] false)])),some (10,List.map rApiMethod v23),some (10,List.map rApiMethod ([(ApiMethod.mk [(109 : UInt8),(tU8 (IntKind.i64.wrap (48 + v25)))] [] [86] false true 0 0 [] [] [])]))]) ⟨[.old 0,.old 1,.old 2,.old 3,.old 4,.old 5,.old 6,.old 7,.old 8],ce j0 j0<|ce j0 j0<|ce j0 j0<|cv j0 (.mpt j0)<|cv j0 (.mpt j0)<|cv j0 (.mpt j0)<|ce j0 j0<|ce j0 j0<|ce j0 j0<|ce j0 j0<|ce j0 j0<|cv j0 (.msl j0)<|cv j0 (.msl j0)<|cn,j0,⟨⟨_,j0,rsOne ⟨ci j0,ci j0,ci j0,ci j0,ci j0,.msl j0,j5⟩⟩,⟨_,j0,rsMap (fun _=>j0)⟩,⟨_,j0,rsOne ⟨ci j0,ci j0,ci j0,ci j0,.msl j0,.msl j0,j5⟩⟩,⟨_,j0,rsMap (fun _=>j0)⟩,⟨_,j0,rsMap (fun _=>j0)⟩,⟨_,j0,rsOne ⟨ci j0,ci j0,ci j0,ci j0,.msl j0,.msl j0,j5⟩⟩,⟨_,j0,rsMap (fun _=>j0)⟩,⟨_,j0,rsMap (fun _=>j0)⟩,⟨_,j0,rsRows ⟨⟨(ci j0),(.nil),(ci j0),(ci j0),(ci j0),(ci j0),(ci j0),(.nil),(.nil),(.nil),j5⟩,j5⟩⟩,j5⟩,j0,j1⟩<|u<|apM 9 ti27 j0 ti76 j0 j0 (by decide) ti27 j0 j0 j0 j0 (roM j0) (fun _=>j0) j0 q25<|u<|fa ti29 j0 j0 j0<|u<|sto ti27 j0 j0 j0<|r_nil (⟨v31,h,[.old 0,.old 9,.old 2,.old 3,.old 4,.old 5,.old 6,.old 7],ce j0 j0<|ce j0 j0<|ce j0 j0<|cv j0 (.mpt j0)<|cv j0 (.mpt j0)<|cv j0 (.mpt j0)<|ce j0 j0<|ce j0 j0<|ce j0 j0<|ce j0 j0<|ce j0 j0<|cn,j0,⟨⟨_,j0,rsOne ⟨ci j0,ci j0,ci j0,ci j0,ci j0,.msl j0,j5⟩⟩,⟨_,j0,rsMap (fun _=>j0)⟩,⟨_,j0,rsOne ⟨ci j0,ci j0,ci j0,ci j0,.msl j0,.msl j0,j5⟩⟩,⟨_,j0,rsMap (fun _=>j0)⟩,⟨_,j0,rsMap (fun _=>j0)⟩,⟨_,j0,rsOne ⟨ci j0,ci j0,ci j0,ci j0,.msl j0,.msl j0,j5⟩⟩,⟨_,j0,rsMap (fun _=>j0)⟩,⟨_,j0,rsMap (fun _=>j0)⟩,j5⟩,j0,j1⟩)
      ·
       replace h:=bF hc24 h
       refine sw_skip ?_
       exact ⟨v21,h,[.old 0,.old 1,.old 2,.old 3,.old 4,.old 5,.old 6,.old 7],ce j0 j0<|ce j0 j0<|ce j0 j0<|cv j0 (.mpt j0)<|cv j0 (.mpt j0)<|cv j0 (.mpt j0)<|ce j0 j0<|ce j0 j0<|ce j0 j0<|ce j0 j0<|ce j0 j0<|cn,j0,⟨⟨_,j0,rsOne ⟨ci j0,ci j0,ci j0,ci j0,ci j0,.msl j0,j5⟩⟩,⟨_,j0,rsMap (fun _=>j0)⟩,⟨_,j0,rsOne ⟨ci j0,ci j0,ci j0,ci j0,.msl j0,.msl j0,j5⟩⟩,⟨_,j0,rsMap (fun _=>j0)⟩,⟨_,j0,rsMap (fun _=>j0)⟩,⟨_,j0,rsOne ⟨ci j0,ci j0,ci j0,ci j0,.msl j0,.msl j0,j5⟩⟩,⟨_,j0,rsMap (fun _=>j0)⟩,⟨_,j0,rsMap (fun _=>j0)⟩,j5⟩,j0,j1⟩
     ·
      rintro v32 h
      replace h : law11_ClosedFaces_j5 v3 v22 v23 v24 v25 v29 v30 v32 = some r:=h
      unfold law11_ClosedFaces_j5 at h
      refine sw_meet (X:=(List ApiMethod) × (List ApiMethod)) (fun z=>[(0,.isl 1 (List.map rB v1)),(1,.isl 1 (List.map rB v2)),(2,bA v3),(8,.mpt 0 0 0),(9,.mpt 2 0 0),(10,.mpt 5 0 0),(11,bA v24),(12,iA v25),(14,bA v29),(15,bA v30)]) (fun z=>[some (6,[[sA [70,97,99,101],sA [79,98,106,101,99,116],bA true,.lit (.slice none 0 0),.lit (.slice none 0 0),.msl 1 0 (List.length v32)]]),some (10,List.map rApiMethod v32),some (6,[[sA [65,97],sA [79,98,106,101,99,116],bA false,.lit (.slice none 0 0),.msl 3 0 (List.length ([(ApiField.mk [120] [73] false)])),.msl 4 0 (List.length z.1)]]),some (3,List.map rApiField ([(ApiField.mk [120] [73] false)])),some (10,List.map rApiMethod z.1),some (6,[[sA [66,98],sA [65,97],bA false,.lit (.slice none 0 0),.msl 6 0 (List.length ([(ApiField.mk [120] [73] false)])),.msl 7 0 (List.length z.2)]]),some (3,List.map rApiField ([(ApiField.mk [120] [73] false)])),some (10,List.map rApiMethod z.2)]) (fun z=>law11_ClosedFaces_j6 v24 v25 v29 v30 v32 z.1 z.2 = some r) ?_ ?_
      ·
       refine rg j0<|u<|mv j0<|r_nil ?_
       refine sw_cond j0 (fun hc26=>?_) (fun hc26=>?_)
       ·
        replace h:=bT hc26 h
        refine rg j0<|u<|mv j0<|u<|bd ti69 j0 j0 j0<|u<|bl 8 ti72 j0 ti69 j0 (by decide) (by decide) j0 j0 j0<|u<|bd ti76 j0 j0 j0<|u<|al 9 ti76 j0<|u<|sto ti76 j0 j0 j0<|r_nil ?_
        refine rg j0<|u<|mv j0<|r_nil ?_
        refine sw_cond j0 (fun hc27=>?_) (fun hc27=>?_)
        ·
         replace h:=bT hc27 h
         obtain ⟨v33,q28,h⟩:=bs h
         exact rl j0<|u<|fa ti29 j0 j0 j0<|u<|ld ti27 j0 j0<|u<|ld ti76 j0 j0<|u<|bl 10 ti27 j0 ti76 j0 (by decide) (by decide) j0 j0 j0<|r_can (env0:=[(0,.isl 1 (List.map rB v1)),(1,.isl 1 (List.map rB v2)),(2,bA v3),(8,.mpt 0 0 0),(9,.mpt 2 0 0),(10,.mpt 5 0 0),(11,bA v24),(12,iA v25),(14,bA v29),(15,bA v30),(74,.msl 4 0 (List.length v22)),(76,.msl 8 0 (List.length ([(ApiMethod.mk [(109 : UInt8),(tU8 (IntKind.i64.wrap (48 + v25)))] [] [86] false false 1 0 ([(ApiIns.mk 46 0 [] [])]) [] [])])))]) (st0:=[some (6,[[sA [70,97,99,101],sA [79,98,106,101,99,116],bA true,.lit (.slice none 0 0),.lit (.slice none 0 0),.msl 1 0 (List.length v32)]]),some (10,List.map rApiMethod v32),some (6,[[sA [65,97],sA [79,98,106,101,99,116],bA false,.lit (.slice none 0 0),.msl 3 0 (List.length ([(ApiField.mk [120] [73] false)])),.msl 4 0 (List.length v22)]]),some (3,List.map rApiField ([(ApiField.mk [120] [73] false)])),some (10,List.map rApiMethod v22),some (6,[[sA [66,98],sA [65,97],bA false,.lit (.slice none 0 0),.msl 6 0 (List.length ([(ApiField.mk [120] [73] false)])),.msl 7 0 (List.length v23)]]),some (3,List.map rApiField ([(ApiField.mk [120] [73] false)])),some (10,List.map rApiMethod v23),some (10,List.map rApiMethod ([(ApiMethod.mk [(109 : UInt8),(tU8 (IntKind.i64.wrap (48 + v25)))] [] [86] false false 1 0 ([(ApiIns.mk 46 0 [] [])]) [] [])]))]) ⟨[.old 0,.old 1,.old 2,.old 3,.old 4,.old 5,.old 6,.old 7,.old 10],ce j0 j0<|ce j0 j0<|ce j0 j0<|cv j0 (.mpt j0)<|cv j0 (.mpt j0)<|cv j0 (.mpt j0)<|ce j0 j0<|ce j0 j0<|ce j0 j0<|ce j0 j0<|cv j0 (.msl j0)<|cv j0 (.msl j0)<|cn,j0,⟨⟨_,j0,rsOne ⟨ci j0,ci j0,ci j0,ci j0,ci j0,.msl j0,j5⟩⟩,⟨_,j0,rsMap (fun _=>j0)⟩,⟨_,j0,rsOne ⟨ci j0,ci j0,ci j0,ci j0,.msl j0,.msl j0,j5⟩⟩,⟨_,j0,rsMap (fun _=>j0)⟩,⟨_,j0,rsMap (fun _=>j0)⟩,⟨_,j0,rsOne ⟨ci j0,ci j0,ci j0,ci j0,.msl j0,.msl j0,j5⟩⟩,⟨_,j0,rsMap (fun _=>j0)⟩,⟨_,j0,rsMap (fun _=>j0)⟩,⟨_,j0,rsRows ⟨⟨(ci j0),(.nil),(ci j0),(ci j0),(ci j0),(ci j0),(ci j0),(rsSealX j0 j0 ⟨⟨⟨ci j0,ci j0,ci j0,ci j0,j5⟩,j0⟩,j5⟩),(.nil),(.nil),j5⟩,j5⟩⟩,j5⟩,j0,j1⟩<|u<|apM 9 ti27 j0 ti76 j0 j0 (by decide) ti27 j0 j0 j0 j0 (roM j0) (fun _=>j0) j0 q28<|u<|fa ti29 j0 j0 j0<|u<|sto ti27 j0 j0 j0<|r_nil (⟨⟨v33,v23⟩,h,[.old 0,.old 1,.old 2,.old 3,.old 9,.old 5,.old 6,.old 7],ce j0 j0<|ce j0 j0<|ce j0 j0<|cv j0 (.mpt j0)<|cv j0 (.mpt j0)<|cv j0 (.mpt j0)<|ce j0 j0<|ce j0 j0<|ce j0 j0<|ce j0 j0<|cn,j0,⟨⟨_,j0,rsOne ⟨ci j0,ci j0,ci j0,ci j0,ci j0,.msl j0,j5⟩⟩,⟨_,j0,rsMap (fun _=>j0)⟩,⟨_,j0,rsOne ⟨ci j0,ci j0,ci j0,ci j0,.msl j0,.msl j0,j5⟩⟩,⟨_,j0,rsMap (fun _=>j0)⟩,⟨_,j0,rsMap (fun _=>j0)⟩,⟨_,j0,rsOne ⟨ci j0,ci j0,ci j0,ci j0,.msl j0,.msl j0,j5⟩⟩,⟨_,j0,rsMap (fun _=>j0)⟩,⟨_,j0,rsMap (fun _=>j0)⟩,j5⟩,j0,j1⟩)
        ·
         replace h:=bF hc27 h
         obtain ⟨v34,q29,h⟩:=bs h
         exact rl j0<|u<|fa ti29 j0 j0 j0<|u<|ld ti27 j0 j0<|u<|ld ti76 j0 j0<|u<|bl 10 ti27 j0 ti76 j0 (by decide) (by decide) j0 j0 j0<|r_can (env0:=[(0,.isl 1 (List.map rB v1)),(1,.isl 1 (List.map rB v2)),(2,bA v3),(8,.mpt 0 0 0),(9,.mpt 2 0 0),(10,.mpt 5 0 0),(11,bA v24),(12,iA v25),(14,bA v29),(15,bA v30),(80,.msl 7 0 (List.length v23)),(82,.msl 8 0 (List.length ([(ApiMethod.mk [(109 : UInt8),(tU8 (IntKind.i64.wrap (48 + v25)))] [] [86] false false 1 0 ([(ApiIns.mk 46 0 [] [])]) [] [])])))]) (st0:=[some (6,[[sA [70,97,99,101],sA [79,98,106,101,99,116],bA true,.lit (.slice none 0 0),.lit (.slice none 0 0),.msl 1 0 (List.length v32)]]),some (10,List.map rApiMethod v32),some (6,[[sA [65,97],sA [79,98,106,101,99,116],bA false,.lit (.slice none 0 0),.msl 3 0 (List.length ([(ApiField.mk [120] [73] false)])),.msl 4 0 (List.length v22)]]),some (3,List.map rApiField ([(ApiField.mk [120] [73] false)])),some (10,List.map rApiMethod v22),some (6,[[sA [66,98],sA [65,97],bA false,.lit (.slice none 0 0),.msl 6 0 (List.length ([(ApiField.mk [120] [73] false)])),.msl 7 0 (List.length v23)]]),some (3,List.map rApiField ([(ApiField.mk [120] [73] false)])),some (10,List.map rApiMethod v23),some (10,List.map rApiMethod ([(ApiMethod.mk [(109 : UInt8),(tU8 (IntKind.i64.wrap (48 + v25)))] [] [86] false false 1 0 ([(ApiIns.mk 46 0 [] [])]) [] [])]))]) ⟨[.old 0,.old 1,.old 2,.old 3,.old 4,.old 5,.old 6,.old 7,.old 10],ce j0 j0<|ce j0 j0<|ce j0 j0<|cv j0 (.mpt j0)<|cv j0 (.mpt j0)<|cv j0 (.mpt j0)<|ce j0 j0<|ce j0 j0<|ce j0 j0<|ce j0 j0<|cv j0 (.msl j0)<|cv j0 (.msl j0)<|cn,j0,⟨⟨_,j0,rsOne ⟨ci j0,ci j0,ci j0,ci j0,ci j0,.msl j0,j5⟩⟩,⟨_,j0,rsMap (fun _=>j0)⟩,⟨_,j0,rsOne ⟨ci j0,ci j0,ci j0,ci j0,.msl j0,.msl j0,j5⟩⟩,⟨_,j0,rsMap (fun _=>j0)⟩,⟨_,j0,rsMap (fun _=>j0)⟩,⟨_,j0,rsOne ⟨ci j0,ci j0,ci j0,ci j0,.msl j0,.msl j0,j5⟩⟩,⟨_,j0,rsMap (fun _=>j0)⟩,⟨_,j0,rsMap (fun _=>j0)⟩,⟨_,j0,rsRows ⟨⟨(ci j0),(.nil),(ci j0),(ci j0),(ci j0),(ci j0),(ci j0),(rsSealX j0 j0 ⟨⟨⟨ci j0,ci j0,ci j0,ci j0,j5⟩,j0⟩,j5⟩),(.nil),(.nil),j5⟩,j5⟩⟩,j5⟩,j0,j1⟩<|u<|apM 9 ti27 j0 ti76 j0 j0 (by decide) ti27 j0 j0 j0 j0 (roM j0) (fun _=>j0) j0 q29<|u<|fa ti29 j0 j0 j0<|u<|sto ti27 j0 j0 j0<|r_nil (⟨⟨v22,v34⟩,h,[.old 0,.old 1,.old 2,.old 3,.old 4,.old 5,.old 6,.old 9],ce j0 j0<|ce j0 j0<|ce j0 j0<|cv j0 (.mpt j0)<|cv j0 (.mpt j0)<|cv j0 (.mpt j0)<|ce j0 j0<|ce j0 j0<|ce j0 j0<|ce j0 j0<|cn,j0,⟨⟨_,j0,rsOne ⟨ci j0,ci j0,ci j0,ci j0,ci j0,.msl j0,j5⟩⟩,⟨_,j0,rsMap (fun _=>j0)⟩,⟨_,j0,rsOne ⟨ci j0,ci j0,ci j0,ci j0,.msl j0,.msl j0,j5⟩⟩,⟨_,j0,rsMap (fun _=>j0)⟩,⟨_,j0,rsMap (fun _=>j0)⟩,⟨_,j0,rsOne ⟨ci j0,ci j0,ci j0,ci j0,.msl j0,.msl j0,j5⟩⟩,⟨_,j0,rsMap (fun _=>j0)⟩,⟨_,j0,rsMap (fun _=>j0)⟩,j5⟩,j0,j1⟩)
       ·
        replace h:=bF hc26 h
        refine sw_skip ?_
        exact ⟨⟨v22,v23⟩,h,[.old 0,.old 1,.old 2,.old 3,.old 4,.old 5,.old 6,.old 7],ce j0 j0<|ce j0 j0<|ce j0 j0<|cv j0 (.mpt j0)<|cv j0 (.mpt j0)<|cv j0 (.mpt j0)<|ce j0 j0<|ce j0 j0<|ce j0 j0<|ce j0 j0<|cn,j0,⟨⟨_,j0,rsOne ⟨ci j0,ci j0,ci j0,ci j0,ci j0,.msl j0,j5⟩⟩,⟨_,j0,rsMap (fun _=>j0)⟩,⟨_,j0,rsOne ⟨ci j0,ci j0,ci j0,ci j0,.msl j0,.msl j0,j5⟩⟩,⟨_,j0,rsMap (fun _=>j0)⟩,⟨_,j0,rsMap (fun _=>j0)⟩,⟨_,j0,rsOne ⟨ci j0,ci j0,ci j0,ci j0,.msl j0,.msl j0,j5⟩⟩,⟨_,j0,rsMap (fun _=>j0)⟩,⟨_,j0,rsMap (fun _=>j0)⟩,j5⟩,j0,j1⟩
      ·
       rintro ⟨v35,v36⟩ h
       replace h : law11_ClosedFaces_j6 v24 v25 v29 v30 v32 v35 v36 = some r:=h
       unfold law11_ClosedFaces_j6 at h
       refine rl j0<|u<|mv j0<|u<|mv j0<|r_and (j:=1) 5 j0 j0 j0 j0 j0 gpn (fun hb30=>g j0 hb30<|mv j0<|g j0 hb30<|nt j0<|g j0 hb30<|mv j0<|r_or (j:=4) 1 j0 j0 j0 j0 j0 (gps j0 j0 hb30) (fun hb31=>g j0 hb31<|mv j0<|r_nil (egO [90] 1 hb31 j0 j0 j0 j0)) orT<|r_nil (egA [87,88,89,90,91] 4 hb30 j0 j0 j0 j0)) andF<|u<|asg j0<|r_nil ?_
       refine rl j0<|u<|mv j0<|u<|add ti3 j0 j0<|u<|asg j0<|r_nil ?_
       obtain rfl:=sm h
       exact ⟨_,j0,[.old 0,.old 1,.old 2,.old 3,.old 4,.old 5,.old 6,.old 7],ce j0 j0<|ce j0 j0<|ce j0 j0<|cv j0 (.mpt j0)<|cv j0 (.mpt j0)<|cv j0 (.mpt j0)<|ce j0 j0<|ce j0 j0<|cn,j0,⟨⟨_,j0,rsOne ⟨ci j0,ci j0,ci j0,ci j0,ci j0,.msl j0,j5⟩⟩,⟨_,j0,rsMap (fun _=>j0)⟩,⟨_,j0,rsOne ⟨ci j0,ci j0,ci j0,ci j0,.msl j0,.msl j0,j5⟩⟩,⟨_,j0,rsMap (fun _=>j0)⟩,⟨_,j0,rsMap (fun _=>j0)⟩,⟨_,j0,rsOne ⟨ci j0,ci j0,ci j0,ci j0,.msl j0,.msl j0,j5⟩⟩,⟨_,j0,rsMap (fun _=>j0)⟩,⟨_,j0,rsMap (fun _=>j0)⟩,j5⟩,j0,j1⟩
   ·
    replace h:=bF hc17 h
    refine sw_exit ?_
    obtain rfl:=sm h
    exact ⟨j0,_,j0,[.old 0,.old 1,.old 2,.old 3,.old 4,.old 5,.old 6,.old 7],cv j0 (.mpt j0)<|cv j0 (.mpt j0)<|cv j0 (.mpt j0)<|ce j0 j0<|cn,j0,⟨⟨_,j0,rsOne ⟨ci j0,ci j0,ci j0,ci j0,ci j0,.msl j0,j5⟩⟩,⟨_,j0,rsMap (fun _=>j0)⟩,⟨_,j0,rsOne ⟨ci j0,ci j0,ci j0,ci j0,.msl j0,.msl j0,j5⟩⟩,⟨_,j0,rsMap (fun _=>j0)⟩,⟨_,j0,rsMap (fun _=>j0)⟩,⟨_,j0,rsOne ⟨ci j0,ci j0,ci j0,ci j0,.msl j0,.msl j0,j5⟩⟩,⟨_,j0,rsMap (fun _=>j0)⟩,⟨_,j0,rsMap (fun _=>j0)⟩,j5⟩,j0,j1⟩
  ·
   rintro ⟨v37,v38,v39,v40⟩ rfl
   replace h : law11_ClosedFaces_k8 v37 v38 v39 v40 = some r:=h
   unfold law11_ClosedFaces_k8 at h
   refine ow_intro ?_
   refine rg j0<|u<|bl 8 ti25 j0 ti9 j0 (by decide) (by decide) j0 j0 j0<|u<|fa ti29 j0 j0 j0<|u<|sto ti25 j0 j0 j0<|r_nil ?_
   obtain ⟨v41,q32,h⟩:=bs h
   refine rg j0<|u<|ld ti29 j0 j0<|u<|ld ti29 j0 j0<|u<|ld ti29 j0 j0<|u<|bl 9 ti24 j0 ti29 j0 (by decide) (by decide) j0 j0 j0<|u<|bd ti94 j0 j0 j0<|r_can (env0:=[(11,bA v40),(99,.isl 6 (List.map rApiClass ([(ApiClass.mk [70,97,99,101] [79,98,106,101,99,116] true [] [] v37),(ApiClass.mk [65,97] [79,98,106,101,99,116] false [] ([(ApiField.mk [120] [73] false)]) v38),(ApiClass.mk [66,98] [65,97] false ([[70,97,99,101]]) ([(ApiField.mk [120] [73] false)]) v39)]))),(100,.agg [sA [65,97],sA [109,97,105,110]])]) (st0:=[]) ⟨[],ce j0 j0<|cv j0 (rsSealX j0 j0 ⟨⟨⟨ci j0,ci j0,ci j0,.nil,.nil,rsSeal j0 j0 (fun _=>j0),j5⟩,j0⟩,⟨⟨ci j0,ci j0,ci j0,.nil,rsSeal j0 j0 (fun _=>j0),rsSeal j0 j0 (fun _=>j0),j5⟩,j0⟩,⟨⟨ci j0,ci j0,ci j0,rsSealX j0 j0 ⟨⟨⟨ci j0,j5⟩,j0⟩,j5⟩,rsSeal j0 j0 (fun _=>j0),rsSeal j0 j0 (fun _=>j0),j5⟩,j0⟩,j5⟩)<|ce j0 j0<|cn,j0,j5,j0,j1⟩<|u<|pc (closed_Check_ok ([(ApiClass.mk [70,97,99,101] [79,98,106,101,99,116] true [] [] v37),(ApiClass.mk [65,97] [79,98,106,101,99,116] false [] ([(ApiField.mk [120] [73] false)]) v38),(ApiClass.mk [66,98] [65,97] false ([[70,97,99,101]]) ([(ApiField.mk [120] [73] false)]) v39)]) (ApiEntry.mk [65,97] [109,97,105,110]) q32) j0 j0 j0<|u<|mv j0<|u<|ex j0 j0<|u<|ex j0 j0<|u<|asg j0<|u<|asg j0<|r_nil ?_
   refine rg j0<|u<|mv j0<|u<|eql ti33 j0 j0<|u<|mv j0<|u<|beq ti4 j0 j0 j0<|u<|mv j0<|r_and (j:=4) 5 j0 j0 j0 j0 j0 gpn (fun hb33=>g j0 hb33<|mv j0<|g j0 hb33<|mv j0<|r_or (j:=6) 2 j0 j0 j0 j0 j0 (gps j0 j0 hb33) (fun hb34=>g j0 hb34<|mv j0<|g j0 hb34<|eql ti33 j0 j0<|r_nil (egO [111,112] 2 hb34 j0 j0 j0 j0)) orT<|r_nil (egA [109,110,111,112,113] 3 hb33 j0 j0 j0 j0)) andF<|u<|asg j0<|r_nil ?_
   refine sw_ret ?_
   obtain rfl:=sm h
   exact ⟨_,j0,[],ci j0,j0,j5,j0,j1⟩
  ·
   rintro r' rfl env st hp
   obtain rfl:=sm h
   exact hp
def law11_made_j3 (v3 : Bool) (v4 : List UInt8) (v19 : List (List UInt8)) (v20 : List ApiIns) : Option (ApiMethod) :=
  some (ApiMethod.mk [102] v19 v4 v3 false (IntKind.i64.wrap (((List.length v19) : Int) + 1)) 1 v20 [] [])
def law11_made_k2 (v3 : Bool) (v4 : List UInt8) (v19 : List (List UInt8)) : Option (ApiMethod) :=
  cond (v4 == [73]) (law11_made_j3 v3 v4 v19 ([(ApiIns.mk 1 0 [] []),(ApiIns.mk 47 0 [] [])])) (law11_made_j3 v3 v4 v19 ([(ApiIns.mk 46 0 [] [])]))
def law11_made_l1 (v1 : List Int) (v12 : List (List UInt8)) (v13 : Int) : Option (Sum ((List (List UInt8)) × Int) (Sum ((List (List UInt8))) (ApiMethod))) :=
  cond ((decide (v13 < (List.length v1 : Int))) && (decide (v13 < 4))) ((idx v1 v13).bind fun v14=>(remP v14 3).bind fun v15=>(remP (IntKind.i64.wrap (v15 + 3)) 3).bind fun v16=>(idx [[73],[79,98,106,101,99,116],[91,73]] v16).bind fun v17=>(appP 16 v12 [v17]).bind fun v18=>some (.inl (v18,(IntKind.i64.wrap (v13 + 1))))) (some (.inr (.inl v12)))
def law11_made (v1 : List Int) (v2 : Int) (v3 : Bool) : Option (ApiMethod) :=
  (idx ([[86],[73]]) (andI .i64 v2 1)).bind fun v4=>(loopP (fun z=>law11_made_l1 v1 z.1 z.2) ([],0)).bind fun o=>leave o (fun b=>law11_made_k2 v3 v4 b) some
theorem law11_made_ok (v1 : List Int) (v2 : Int) (v3 : Bool) {r : ApiMethod} (h : law11_made v1 v2 v3 = some r) : PureC Tryz.prog 48 [.isl 1 (List.map (rI .i64) v1),iA v2,bA v3] (.agg (rApiMethod r)):=by
 refine pure_fn Tryz.func48 j0 (by kernel_rfl) j0 j0 ?_
 unfold law11_made at h
 refine rg j0<|u<|al 0 ti76 j0<|r_nil ?_
 obtain ⟨v4,q1,h⟩:=bs h
 refine rg j0<|u<|mv j0<|u<|bl 1 ti25 j0 ti9 j0 (by decide) (by decide) j0 j0 j0<|u<|mv j0<|u<|band ti3 j0 j0<|r_can (env0:=[(0,.isl 1 (List.map (rI .i64) v1)),(6,.mpt 0 0 0),(9,bA v3),(10,.msl 1 0 (List.length ([[86],[73]]))),(12,iA (andI .i64 v2 1))]) (st0:=[some (10,[[sA [],.lit (.slice none 0 0),sA [],bA false,bA false,iA 0,iA 0,.lit (.slice none 0 0),.lit (.slice none 0 0),.lit (.slice none 0 0)]]),some (1,List.map rStr ([[86],[73]]))]) ⟨[.old 0,.old 1],ce j0 j0<|cv j0 (.mpt j0)<|ce j0 j0<|cv j0 (.msl j0)<|ce j0 j0<|cn,j0,⟨⟨_,j0,rsOne (ciL j0)⟩,⟨_,j0,rsRows ⟨⟨(ci j0),j5⟩,⟨(ci j0),j5⟩,j5⟩⟩,j5⟩,j0,j1⟩<|u<|ixM ti25 j0 ti9 j0 j0 j0 j0 q1<|u<|ldM ti9 j0 j0 (idx_some q1).2.2 j0<|u<|bd ti76 j0 j0 j0<|u<|al 2 ti76 j0<|u<|sto ti76 j0 j0 j0<|r_nil ?_
 refine sw_seq ?_
 refine rg j0<|u<|asg j0<|r_nil ?_
 obtain ⟨o,ho,h⟩:=bs h
 refine sw_lpl (X:=(List (List UInt8)) × Int) (B:=(List (List UInt8))) (R:=ApiMethod) (fun z=>[(0,.isl 1 (List.map (rI .i64) v1)),(6,.mpt 0 0 0),(7,.mpt 1 0 0),(8,iA z.2)]) (fun z=>[some (10,[[sA [],.lit (.slice none 0 0),sA [],bA false,bA false,iA 0,iA 0,.lit (.slice none 0 0),.lit (.slice none 0 0),.lit (.slice none 0 0)]]),some (10,[[sA [102],.msl 2 0 (List.length z.1),sA v4,bA v3,bA false,iA 0,iA 1,.lit (.slice none 0 0),.lit (.slice none 0 0),.lit (.slice none 0 0)]]),some (1,List.map rStr z.1)]) (fun b=>[(6,.mpt 0 0 0),(7,.mpt 1 0 0)]) (fun b=>[some (10,[[sA [],.lit (.slice none 0 0),sA [],bA false,bA false,iA 0,iA 0,.lit (.slice none 0 0),.lit (.slice none 0 0),.lit (.slice none 0 0)]]),some (10,[[sA [102],.msl 2 0 (List.length b),sA v4,bA v3,bA false,iA 0,iA 1,.lit (.slice none 0 0),.lit (.slice none 0 0),.lit (.slice none 0 0)]]),some (1,List.map rStr b)]) (fun r env st=>PostF Tryz.prog Tryz.f48 0 (.agg (rApiMethod r)) [] env st) ho ⟨[.old 0,.old 2,.fresh 1],ce j0 j0<|cv j0 (.mpt j0)<|cv j0 (.mpt j0)<|ce j0 j0<|cn,j0,⟨⟨_,j0,rsOne (ciL j0)⟩,⟨_,j0,rsOne ⟨ci j0,.nilown j0,ci j0,ci j0,ci j0,ci j0,ci j0,ci j0,ci j0,ci j0,j5⟩⟩,j4,j5⟩,j0,j1⟩ ?_ ?_ ?_
 ·
  rintro ⟨v12,v13⟩ r h
  replace h : law11_made_l1 v1 v12 v13 = some r:=h
  unfold law11_made_l1 at h
  refine sw_seq ?_
  refine rg j0<|u<|mv j0<|u<|mv j0<|u<|lnI ti22 j0 j0<|u<|lss ti3 j0 j0<|u<|mv j0<|r_and (j:=4) 2 j0 j0 j0 j0 j0 gpn (fun hb9=>g j0 hb9<|mv j0<|g j0 hb9<|lss ti3 j0 j0<|r_nil (egA [21,22] 2 hb9 j0 j0 j0 j0)) andF<|r_nil ?_
  refine sw_cond j0 (fun hc10=>?_) (fun hc10=>?_)
  ·
   replace h:=bT hc10 h
   refine sw_skip ?_
   refine sw_seq ?_
   refine sw_block ?_
   obtain ⟨v14,q11,h⟩:=bs h
   obtain ⟨v15,q12,h⟩:=bs h
   obtain ⟨v16,q13,h⟩:=bs h
   obtain ⟨v17,q14,h⟩:=bs h
   obtain ⟨v18,q15,h⟩:=bs h
   refine rdL [(0,.isl 1 (List.map (rI .i64) v1)),(6,.mpt 0 0 0),(7,.mpt 1 0 0),(8,iA v13)] [some (10,[[sA [],.lit (.slice none 0 0),sA [],bA false,bA false,iA 0,iA 0,.lit (.slice none 0 0),.lit (.slice none 0 0),.lit (.slice none 0 0)]]),some (10,[[sA [102],.msl 2 0 (List.length v18),sA v4,bA v3,bA false,iA 0,iA 1,.lit (.slice none 0 0),.lit (.slice none 0 0),.lit (.slice none 0 0)]]),some (1,List.map rStr v18)] [2,12,13,15] [9,8,7,6,5,4,3,1,0] [(35,iA v16),(34,iA (IntKind.i64.wrap (v15 + 3))),(33,iA v15),(32,iA v14),(31,.ipt 1 (List.map (rI .i64) v1) (Int.toNat v13) 0),(30,iA v13),(29,.isl 1 (List.map (rI .i64) v1)),(27,.msl 2 0 (List.length v12)),(26,.mpt 1 0 1)] 4 (by kernel_rfl) (by kernel_rfl) j0 (by kernel_rfl) (dtS ⟨(fun _=>pa j0 j0 j0 j0 (rem ti3 j0 j0 q13<|j4)),(fun _=>pa j0 j0 j0 j0 (add ti3 j0 j0<|j4)),(fun _=>pa j0 j0 j0 j0 (rem ti3 j0 j0 q12<|j4)),(fun _=>pa j0 j0 j0 j0 (ldI ti3 j0 (idx_some q11).2.2 j0<|j4)),(fun _=>pa j0 j0 j0 j0 (ixI ti22 j0 ti3 j0 j0 j0 q11<|j4)),(fun _=>pa j0 j0 j0 j0 (mv j0<|j4)),(fun _=>pa j0 j0 j0 j0 (mv j0<|j4)),(fun _=>pa j0 j0 j0 j0 (ld ti25 j0 j0<|j4)),(fun _=>pa j0 j0 j0 j0 (fa ti76 j0 j0 j0<|j4)),j5⟩ (by kernel_rfl) j0 ⟨(fun _ _=>⟨_,j0,j0,bl 3 ti25 j0 ti9 j0 (by decide) (by decide) j0 j0 j0<|⟨(.msl 3 0 3),[11,10],[(37,sA v17),(36,.mpt 3 (Int.toNat v16) 0),(28,.msl 3 0 3)],j0,j0,by kernel_rfl,j0,dtS ⟨(fun _=>pa j0 j0 j0 j0 (ldM (l:=[[73],[79,98,106,101,99,116],[91,73]]) (f:=rStr) ti9 j0 j0 (idx_some q14).2.2 j0<|j4)),(fun _=>pa j0 j0 j0 j0 (ixM (l:=[[73],[79,98,106,101,99,116],[91,73]]) (f:=rStr) ti25 j0 ti9 j0 j0 j0 j0 q14<|j4)),(fun _=>pa j0 j0 j0 j0 (rem ti3 j0 j0 q13<|j4)),(fun _=>pa j0 j0 j0 j0 (add ti3 j0 j0<|j4)),(fun _=>pa j0 j0 j0 j0 (rem ti3 j0 j0 q12<|j4)),(fun _=>pa j0 j0 j0 j0 (ldI ti3 j0 (idx_some q11).2.2 j0<|j4)),(fun _=>pa j0 j0 j0 j0 (ixI ti22 j0 ti3 j0 j0 j0 q11<|j4)),(fun _=>pa j0 j0 j0 j0 (mv j0<|j4)),(fun _=>pa j0 j0 j0 j0 (mv j0<|j4)),(fun _=>pa j0 j0 j0 j0 (ld ti25 j0 j0<|j4)),(fun _=>pa j0 j0 j0 j0 (fa ti76 j0 j0 j0<|j4)),j5⟩ (by kernel_rfl) j0 ⟨(fun h=>by cases h),(fun _ _=>⟨_,j0,j0,bl 4 ti25 j0 ti9 j0 (by decide) (by decide) j0 j0 j0<|⟨(.msl 4 0 1),[],[(38,.msl 4 0 1)],j0,j0,by kernel_rfl,j0,dtS ⟨(fun h=>by cases h),(fun _=>pa j0 j0 j0 j0 (ixM (l:=[[73],[79,98,106,101,99,116],[91,73]]) (f:=rStr) ti25 j0 ti9 j0 j0 j0 j0 q14<|j4)),(fun _=>pa j0 j0 j0 j0 (rem ti3 j0 j0 q13<|j4)),(fun _=>pa j0 j0 j0 j0 (add ti3 j0 j0<|j4)),(fun _=>pa j0 j0 j0 j0 (rem ti3 j0 j0 q12<|j4)),(fun _=>pa j0 j0 j0 j0 (ldI ti3 j0 (idx_some q11).2.2 j0<|j4)),(fun _=>pa j0 j0 j0 j0 (ixI ti22 j0 ti3 j0 j0 j0 q11<|j4)),(fun _=>pa j0 j0 j0 j0 (mv j0<|j4)),(fun _=>pa j0 j0 j0 j0 (mv j0<|j4)),(fun _=>pa j0 j0 j0 j0 (ld ti25 j0 j0<|j4)),(fun _=>pa j0 j0 j0 j0 (fa ti76 j0 j0 j0<|j4)),j5⟩ (by kernel_rfl) j0 ⟨(fun h=>by cases h),(fun h=>by cases h),(fun _ _=>⟨_,j0,j0,apM 5 ti25 j0 ti9 j0 j0 (by decide) ti25 j0 j0 j0 j0 (roX (f:=rStr) (z:=[v17]) j0 j0) (fun _=>j0) j0 q15<|⟨(.msl 5 0 (List.length v18)),[14],[(40,.mpt 1 0 1),(39,.msl 5 0 (List.length v18))],j0,j0,by kernel_rfl,j0,dtS ⟨(fun _=>pa j0 j0 j0 j0 (fa ti76 j0 j0 j0<|j4)),(fun h=>by cases h),(fun _=>pa j0 j0 j0 j0 (ixM (l:=[[73],[79,98,106,101,99,116],[91,73]]) (f:=rStr) ti25 j0 ti9 j0 j0 j0 j0 q14<|j4)),(fun _=>pa j0 j0 j0 j0 (rem ti3 j0 j0 q13<|j4)),(fun _=>pa j0 j0 j0 j0 (add ti3 j0 j0<|j4)),(fun _=>pa j0 j0 j0 j0 (rem ti3 j0 j0 q12<|j4)),(fun _=>pa j0 j0 j0 j0 (ldI ti3 j0 (idx_some q11).2.2 j0<|j4)),(fun _=>pa j0 j0 j0 j0 (ixI ti22 j0 ti3 j0 j0 j0 q11<|j4)),(fun _=>pa j0 j0 j0 j0 (mv j0<|j4)),(fun _=>pa j0 j0 j0 j0 (mv j0<|j4)),(fun h=>by cases h),(fun _=>pa j0 j0 j0 j0 (fa ti76 j0 j0 j0<|j4)),j5⟩ (by kernel_rfl) j0 ⟨(fun h=>by cases h),(fun h=>by cases h),(fun h=>by cases h),(fun _ _=>⟨_,j0,j0,sto ti25 j0 j0 j0<|⟨.any,[],[],j0,j0,by kernel_rfl,j5,dt0 ⟨(fun h=>by cases h),(fun h=>by cases h),(fun h=>by cases h),(fun h=>by cases h),(fun h=>by cases h),(fun h=>by cases h),(fun h=>by cases h),(fun h=>by cases h),(fun h=>by cases h),(fun h=>by cases h),(fun h=>by cases h),(fun h=>by cases h),j5⟩ (by kernel_rfl) j0 ⟨[.old 0,.old 1,.old 5],ce j0 j0<|cv j0 (.mpt j0)<|cv j0 (.mpt j0)<|ce j0 j0<|cn,j0,⟨⟨_,j0,rsOne (ciL j0)⟩,⟨_,j0,rsOne ⟨ci j0,.msl j0,ci j0,ci j0,ci j0,ci j0,ci j0,ci j0,ci j0,ci j0,j5⟩⟩,⟨_,j0,rsMap (fun _=>j0)⟩,j5⟩,j0,j1⟩⟩⟩),j5⟩⟩⟩),(fun _ h=>by cases h),j5⟩⟩⟩),(fun _ h=>by cases h),(fun _ h=>by cases h),j5⟩⟩⟩),(fun _ h=>by cases h),(fun _ h=>by cases h),(fun _ h=>by cases h),j5⟩) ?_
   refine rl j0<|u<|mv j0<|u<|add ti3 j0 j0<|u<|asg j0<|r_nil ?_
   obtain rfl:=sm h
   exact ⟨_,j0,[.old 0,.old 1,.old 2],ce j0 j0<|cv j0 (.mpt j0)<|cv j0 (.mpt j0)<|ce j0 j0<|cn,j0,⟨⟨_,j0,rsOne (ciL j0)⟩,⟨_,j0,rsOne ⟨ci j0,.msl j0,ci j0,ci j0,ci j0,ci j0,ci j0,ci j0,ci j0,ci j0,j5⟩⟩,⟨_,j0,rsMap (fun _=>j0)⟩,j5⟩,j0,j1⟩
  ·
   replace h:=bF hc10 h
   refine sw_exit ?_
   obtain rfl:=sm h
   exact ⟨j0,_,j0,[.old 0,.old 1,.old 2],cv j0 (.mpt j0)<|cv j0 (.mpt j0)<|cn,j0,⟨⟨_,j0,rsOne (ciL j0)⟩,⟨_,j0,rsOne ⟨ci j0,.msl j0,ci j0,ci j0,ci j0,ci j0,ci j0,ci j0,ci j0,ci j0,j5⟩⟩,⟨_,j0,rsMap (fun _=>j0)⟩,j5⟩,j0,j1⟩
 ·
  rintro v19 rfl
  replace h : law11_made_k2 v3 v4 v19 = some r:=h
  unfold law11_made_k2 at h
  refine ow_intro ?_
  refine rg j0<|u<|fa ti76 j0 j0 j0<|u<|ld ti25 j0 j0<|u<|lnM ti25 j0 j0 j0<|u<|add ti3 j0 j0<|u<|fa ti76 j0 j0 j0<|u<|sto ti3 j0 j0 j0<|r_nil ?_
  refine rg j0<|u<|bd ti69 j0 j0 j0<|u<|bl 3 ti72 j0 ti69 j0 (by decide) (by decide) j0 j0 j0<|u<|fa ti76 j0 j0 j0<|u<|sto ti72 j0 j0 j0<|r_nil ?_
  refine sw_meet (X:=(List ApiIns)) (fun z=>[(6,.mpt 0 0 0),(7,.mpt 1 0 0)]) (fun z=>[some (10,[[sA [],.lit (.slice none 0 0),sA [],bA false,bA false,iA 0,iA 0,.lit (.slice none 0 0),.lit (.slice none 0 0),.lit (.slice none 0 0)]]),some (10,[[sA [102],.msl 2 0 (List.length v19),sA v4,bA v3,bA false,iA (IntKind.i64.wrap (((List.length v19) : Int) + 1)),iA 1,.msl 3 0 (List.length z),.lit (.slice none 0 0),.lit (.slice none 0 0)]]),some (1,List.map rStr v19),some (4,List.map rApiIns z)]) (fun z=>law11_made_j3 v3 v4 v19 z = some r) ?_ ?_
  ·
   refine rg j0<|u<|fa ti76 j0 j0 j0<|u<|ld ti9 j0 j0<|u<|seq ti9 j0 j0<|r_nil ?_
   refine sw_cond j0 (fun hc16=>?_) (fun hc16=>?_)
   ·
    replace h:=bT hc16 h
    exact rl j0<|u<|bd ti69 j0 j0 j0<|u<|bd ti69 j0 j0 j0<|u<|bl 4 ti72 j0 ti69 j0 (by decide) (by decide) j0 j0 j0<|u<|fa ti76 j0 j0 j0<|u<|sto ti72 j0 j0 j0<|r_nil (⟨[(ApiIns.mk 1 0 [] []),(ApiIns.mk 47 0 [] [])],h,[.old 0,.old 1,.old 2,.old 4],cv j0 (.mpt j0)<|cv j0 (.mpt j0)<|cn,j0,⟨⟨_,j0,rsOne (ciL j0)⟩,⟨_,j0,rsOne ⟨ci j0,.msl j0,ci j0,ci j0,ci j0,ci j0,ci j0,.msl j0,ci j0,ci j0,j5⟩⟩,⟨_,j0,rsMap (fun _=>j0)⟩,⟨_,j0,rsRows ⟨⟨(ci j0),(ci j0),(ci j0),(ci j0),j5⟩,⟨(ci j0),(ci j0),(ci j0),(ci j0),j5⟩,j5⟩⟩,j5⟩,j0,j1⟩)
   ·
    replace h:=bF hc16 h
    refine sw_skip ?_
    exact ⟨[(ApiIns.mk 46 0 [] [])],h,[.old 0,.old 1,.old 2,.old 3],cv j0 (.mpt j0)<|cv j0 (.mpt j0)<|cn,j0,⟨⟨_,j0,rsOne (ciL j0)⟩,⟨_,j0,rsOne ⟨ci j0,.msl j0,ci j0,ci j0,ci j0,ci j0,ci j0,.msl j0,ci j0,ci j0,j5⟩⟩,⟨_,j0,rsMap (fun _=>j0)⟩,⟨_,j0,rsRows ⟨⟨(ci j0),(ci j0),(ci j0),(ci j0),j5⟩,j5⟩⟩,j5⟩,j0,j1⟩
  ·
   rintro v20 h
   replace h : law11_made_j3 v3 v4 v19 v20 = some r:=h
   unfold law11_made_j3 at h
   refine rg j0<|u<|ld ti76 j0 j0<|u<|sto ti76 j0 j0 j0<|r_nil ?_
   refine sw_ret ?_
   obtain rfl:=sm h
   exact ⟨_,j0,[],rsAgg ⟨ci j0,(rsSeal j0 j0 (fun _=>j0)),ci j0,ci j0,ci j0,ci j0,ci j0,(rsSeal j0 j0 (fun _=>j0)),(.nil),(.nil),j5⟩,j0,j5,j0,j1⟩
 ·
  rintro r' rfl env st hp
  obtain rfl:=sm h
  exact hp
def law11_ClosedOver (v1 : List Int) (v2 : List Int) (v3 : Int) (v4 : Int) (v5 : Bool) (v6 : Bool) : Option (Bool) :=
  (law11_begun).bind fun v7=>cond (!v7) (some false) ((law11_made v1 v3 v5).bind fun v8=>(law11_made v2 v4 v6).bind fun v9=>(appP 152 ([(ApiMethod.mk [109,97,105,110] [] [86] true false 0 0 ([(ApiIns.mk 46 0 [] [])]) [] [])]) [v8]).bind fun v11=>(appP 152 ([(ApiMethod.mk [103,111] [] [86] true false 0 0 ([(ApiIns.mk 46 0 [] [])]) [] [])]) [v9]).bind fun v12=>(closed_Check ([(ApiClass.mk [66,98] [65,97] false [] ([(ApiField.mk [120] [73] false)]) v12),(ApiClass.mk [65,97] [79,98,106,101,99,116] false [] ([(ApiField.mk [120] [73] false)]) v11)]) (ApiEntry.mk [65,97] [109,97,105,110])).bind fun v13=>(cond (((!v5) && (!v6)) && (v8.Ret == v9.Ret)) ((ref3_EqTexts v8.Params v9.Params).bind fun v14=>some v14) (some false)).bind fun v15=>some (((v13.2 == (0 : Int)) == v15) && (v15 || (v13.2 == (1 : Int)))))
theorem law11_ClosedOver_ok (v1 : List Int) (v2 : List Int) (v3 : Int) (v4 : Int) (v5 : Bool) (v6 : Bool) {r : Bool} (h : law11_ClosedOver v1 v2 v3 v4 v5 v6 = some r) : PureC Tryz.prog 17 [.isl 1 (List.map (rI .i64) v1),.isl 1 (List.map (rI .i64) v2),iA v3,iA v4,bA v5,bA v6] (bA r):=by
 refine pure_fn Tryz.func17 j0 (by kernel_rfl) j0 j0 ?_
 unfold law11_ClosedOver at h
 refine rg j0<|u<|asg j0<|r_nil ?_
 obtain ⟨v7,q1,h⟩:=bs h
 refine rg j0<|u<|pc (law11_begun_ok q1) j0 j0 j0<|u<|asg j0<|r_nil ?_
 refine sw_seq ?_
 refine rg j0<|u<|mv j0<|u<|nt j0<|r_nil ?_
 refine sw_cond j0 (fun hc2=>?_) (fun hc2=>?_)
 ·
  replace h:=bT hc2 h
  refine rg j0<|u<|asg j0<|r_nil ?_
  refine sw_ret ?_
  obtain rfl:=sm h
  exact ⟨_,j0,[],ci j0,j0,j5,j0,j1⟩
 ·
  replace h:=bF hc2 h
  refine sw_skip ?_
  refine rg j0<|u<|sc [] (law5_One_ok [65,97] j0) j0 j0 j0 j0 ⟨(rnI j0),j5⟩ j5<|u<|sc [] (law5_One_ok [66,98] j0) j0 j0 j0 j0 ⟨(rnI j0),j5⟩ j5<|u<|al 6 ti29 j0<|u<|al 7 ti29 j0<|u<|sto ti29 j0 j0 j0<|u<|sto ti29 j0 j0 j0<|r_nil ?_
  refine rg j0<|u<|fa ti29 j0 j0 j0<|u<|sto ti9 j0 j0 j0<|r_nil ?_
  refine rg j0<|u<|fa ti29 j0 j0 j0<|u<|ld ti27 j0 j0<|u<|ixX ti27 j0 ti76 j0 j0 j0<|u<|fa ti76 j0 j0 j0<|u<|sto ti9 j0 j0 j0<|r_nil ?_
  obtain ⟨v8,q3,h⟩:=bs h
  obtain ⟨v9,q4,h⟩:=bs h
  refine rg j0<|u<|mv j0<|u<|mv j0<|u<|mv j0<|u<|pc (law11_made_ok v1 v3 v5 q3) j0 j0 j0<|u<|mv j0<|u<|mv j0<|u<|mv j0<|u<|pc (law11_made_ok v2 v4 v6 q4) j0 j0 j0<|u<|al 8 ti76 j0<|u<|al 9 ti76 j0<|u<|sto ti76 j0 j0 j0<|u<|sto ti76 j0 j0 j0<|r_nil ?_
  refine sw_can (env0:=[(4,bA v5),(5,bA v6),(14,.mpt 0 0 0),(15,.mpt 3 0 0),(16,.mpt 7 0 0),(17,.mpt 8 0 0)]) (st0:=[some (6,[[sA [65,97],sA [79,98,106,101,99,116],bA false,.lit (.slice none 0 0),.msl 1 0 (List.length ([(ApiField.mk [120] [73] false)])),.msl 2 0 (List.length ([(ApiMethod.mk [109,97,105,110] [] [86] true false 0 0 ([(ApiIns.mk 46 0 [] [])]) [] [])]))]]),some (3,List.map rApiField ([(ApiField.mk [120] [73] false)])),some (10,List.map rApiMethod ([(ApiMethod.mk [109,97,105,110] [] [86] true false 0 0 ([(ApiIns.mk 46 0 [] [])]) [] [])])),some (6,[[sA [66,98],sA [65,97],bA false,.lit (.slice none 0 0),.msl 4 0 (List.length ([(ApiField.mk [120] [73] false)])),.msl 5 0 1]]),some (3,List.map rApiField ([(ApiField.mk [120] [73] false)])),some (10,[[sA [103,111],.lit (.slice none 0 0),sA [86],bA true,bA false,iA 0,iA 0,.msl 6 0 (List.length ([(ApiIns.mk 46 0 [] [])])),.lit (.slice none 0 0),.lit (.slice none 0 0)]]),some (4,List.map rApiIns ([(ApiIns.mk 46 0 [] [])])),some (10,[(rApiMethod v8)]),some (10,[(rApiMethod v9)])]) ⟨[.old 6,.old 0,.old 1,.old 7,.old 3,.old 4,.old 5,.old 8,.old 9],ce j0 j0<|ce j0 j0<|cv j0 (.mpt j0)<|cv j0 (.mpt j0)<|cv j0 (.mpt j0)<|cv j0 (.mpt j0)<|cn,j0,⟨⟨_,j0,rsOne ⟨ci j0,ci j0,ci j0,ci j0,.msl j0,.msl j0,j5⟩⟩,⟨_,j0,rsRows ⟨⟨(ci j0),(ci j0),(ci j0),j5⟩,j5⟩⟩,⟨_,j0,rsRows ⟨⟨(ci j0),(.nil),(ci j0),(ci j0),(ci j0),(ci j0),(ci j0),(rsSealX j0 j0 ⟨⟨⟨ci j0,ci j0,ci j0,ci j0,j5⟩,j0⟩,j5⟩),(.nil),(.nil),j5⟩,j5⟩⟩,⟨_,j0,rsOne ⟨ci j0,ci j0,ci j0,ci j0,.msl j0,.msl j0,j5⟩⟩,⟨_,j0,rsRows ⟨⟨(ci j0),(ci j0),(ci j0),j5⟩,j5⟩⟩,⟨_,j0,rsRows ⟨⟨(ci j0),(ci j0),(ci j0),(ci j0),(ci j0),(ci j0),(ci j0),(.msl j0),(ci j0),(ci j0),j5⟩,j5⟩⟩,⟨_,j0,rsRows ⟨⟨(ci j0),(ci j0),(ci j0),(ci j0),j5⟩,j5⟩⟩,⟨_,j0,rsOne (ciL j0)⟩,⟨_,j0,rsOne (ciL j0)⟩,j5⟩,j0,j1⟩ ?_
  refine sw_can (env0:=[(4,bA v5),(5,bA v6),(14,.mpt 0 0 0),(15,.mpt 3 0 0),(16,.mpt 6 0 0),(17,.mpt 7 0 0)]) (st0:=[some (6,[[sA [65,97],sA [79,98,106,101,99,116],bA false,.lit (.slice none 0 0),.msl 1 0 (List.length ([(ApiField.mk [120] [73] false)])),.msl 2 0 (List.length ([(ApiMethod.mk [109,97,105,110] [] [86] true false 0 0 ([(ApiIns.mk 46 0 [] [])]) [] [])]))]]),some (3,List.map rApiField ([(ApiField.mk [120] [73] false)])),some (10,List.map rApiMethod ([(ApiMethod.mk [109,97,105,110] [] [86] true false 0 0 ([(ApiIns.mk 46 0 [] [])]) [] [])])),some (6,[[sA [66,98],sA [65,97],bA false,.lit (.slice none 0 0),.msl 4 0 (List.length ([(ApiField.mk [120] [73] false)])),.msl 5 0 (List.length ([(ApiMethod.mk [103,111] [] [86] true false 0 0 ([(ApiIns.mk 46 0 [] [])]) [] [])]))]]),some (3,List.map rApiField ([(ApiField.mk [120] [73] false)])),some (10,List.map rApiMethod ([(ApiMethod.mk [103,111] [] [86] true false 0 0 ([(ApiIns.mk 46 0 [] [])]) [] [])])),some (10,[(rApiMethod v8)]),some (10,[(rApiMethod v9)])]) ⟨[.old 0,.old 1,.old 2,.old 3,.old 4,.old 5,.old 7,.old 8],ce j0 j0<|ce j0 j0<|cv j0 (.mpt j0)<|cv j0 (.mpt j0)<|cv j0 (.mpt j0)<|cv j0 (.mpt j0)<|cn,j0,⟨⟨_,j0,rsOne ⟨ci j0,ci j0,ci j0,ci j0,.msl j0,.msl j0,j5⟩⟩,⟨_,j0,rsMap (fun _=>j0)⟩,⟨_,j0,rsMap (fun _=>j0)⟩,⟨_,j0,rsOne ⟨ci j0,ci j0,ci j0,ci j0,.msl j0,.msl j0,j5⟩⟩,⟨_,j0,rsMap (fun _=>j0)⟩,⟨_,j0,rsRows ⟨⟨(ci j0),(.nil),(ci j0),(ci j0),(ci j0),(ci j0),(ci j0),(rsSeal j0 j0 (fun _=>j0)),(.nil),(.nil),j5⟩,j5⟩⟩,⟨_,j0,rsOne (ciL j0)⟩,⟨_,j0,rsOne (ciL j0)⟩,j5⟩,j0,j1⟩ ?_
  obtain ⟨v11,q6,h⟩:=bs h
  obtain ⟨v12,q7,h⟩:=bs h
  refine rd [(4,bA v5),(5,bA v6),(14,.mpt 0 0 0),(15,.mpt 3 0 0),(16,.mpt 6 0 0),(17,.mpt 7 0 0)] [some (6,[[sA [65,97],sA [79,98,106,101,99,116],bA false,.lit (.slice none 0 0),.msl 1 0 (List.length ([(ApiField.mk [120] [73] false)])),.msl 2 0 (List.length v11)]]),some (3,List.map rApiField ([(ApiField.mk [120] [73] false)])),some (10,List.map rApiMethod v11),some (6,[[sA [66,98],sA [65,97],bA false,.lit (.slice none 0 0),.msl 4 0 (List.length ([(ApiField.mk [120] [73] false)])),.msl 5 0 (List.length v12)]]),some (3,List.map rApiField ([(ApiField.mk [120] [73] false)])),some (10,List.map rApiMethod v12),some (10,[(rApiMethod v8)]),some (10,[(rApiMethod v9)])] [3,4,8,9,11,13] [7,6,5,2,1,0] [(46,.agg (rApiMethod v9)),(45,.msl 5 0 (List.length ([(ApiMethod.mk [103,111] [] [86] true false 0 0 ([(ApiIns.mk 46 0 [] [])]) [] [])]))),(44,.mpt 3 0 5),(41,.agg (rApiMethod v8)),(40,.msl 2 0 (List.length ([(ApiMethod.mk [109,97,105,110] [] [86] true false 0 0 ([(ApiIns.mk 46 0 [] [])]) [] [])]))),(39,.mpt 0 0 5)] 6 (by kernel_rfl) (by kernel_rfl) j0 (by kernel_rfl) (dtS ⟨(fun _=>pa j0 j0 j0 j0 (ld ti76 j0 j0<|j4)),(fun _=>pa j0 j0 j0 j0 (ld ti27 j0 j0<|j4)),(fun _=>pa j0 j0 j0 j0 (fa ti29 j0 j0 j0<|j4)),(fun _=>pa j0 j0 j0 j0 (ld ti76 j0 j0<|j4)),(fun _=>pa j0 j0 j0 j0 (ld ti27 j0 j0<|j4)),(fun _=>pa j0 j0 j0 j0 (fa ti29 j0 j0 j0<|j4)),j5⟩ (by kernel_rfl) j0 ⟨(fun _ _=>⟨_,j0,j0,bl 8 ti27 j0 ti76 j0 (by decide) (by decide) j0 j0 j0<|⟨(.msl 8 0 1),[],[(42,.msl 8 0 1)],j0,j0,by kernel_rfl,j0,dtS ⟨(fun _=>pa j0 j0 j0 j0 (ld ti76 j0 j0<|j4)),(fun _=>pa j0 j0 j0 j0 (ld ti27 j0 j0<|j4)),(fun _=>pa j0 j0 j0 j0 (fa ti29 j0 j0 j0<|j4)),(fun h=>by cases h),(fun _=>pa j0 j0 j0 j0 (ld ti27 j0 j0<|j4)),(fun _=>pa j0 j0 j0 j0 (fa ti29 j0 j0 j0<|j4)),j5⟩ (by kernel_rfl) j0 ⟨(fun h=>by cases h),(fun _ _=>⟨_,j0,j0,apM 9 ti27 j0 ti76 j0 j0 (by decide) ti27 j0 j0 j0 j0 (roX (f:=rApiMethod) (z:=[v8]) j0 j0) (fun _=>j0) j0 q6<|⟨(.msl 9 0 (List.length v11)),[10],[(49,.mpt 0 0 5),(43,.msl 9 0 (List.length v11))],j0,j0,by kernel_rfl,j0,dtS ⟨(fun _=>pa j0 j0 j0 j0 (fa ti29 j0 j0 j0<|j4)),(fun _=>pa j0 j0 j0 j0 (ld ti76 j0 j0<|j4)),(fun _=>pa j0 j0 j0 j0 (ld ti27 j0 j0<|j4)),(fun _=>pa j0 j0 j0 j0 (fa ti29 j0 j0 j0<|j4)),(fun h=>by cases h),(fun h=>by cases h),(fun _=>pa j0 j0 j0 j0 (fa ti29 j0 j0 j0<|j4)),j5⟩ (by kernel_rfl) j0 ⟨(fun h=>by cases h),(fun h=>by cases h),(fun _ _=>⟨_,j0,j0,bl 10 ti27 j0 ti76 j0 (by decide) (by decide) j0 j0 j0<|⟨(.msl 10 0 1),[],[(47,.msl 10 0 1)],j0,j0,by kernel_rfl,j0,dtS ⟨(fun _=>pa j0 j0 j0 j0 (fa ti29 j0 j0 j0<|j4)),(fun h=>by cases h),(fun _=>pa j0 j0 j0 j0 (ld ti27 j0 j0<|j4)),(fun _=>pa j0 j0 j0 j0 (fa ti29 j0 j0 j0<|j4)),(fun h=>by cases h),(fun h=>by cases h),(fun _=>pa j0 j0 j0 j0 (fa ti29 j0 j0 j0<|j4)),j5⟩ (by kernel_rfl) j0 ⟨(fun h=>by cases h),(fun h=>by cases h),(fun h=>by cases h),(fun _ _=>⟨_,j0,j0,apM 11 ti27 j0 ti76 j0 j0 (by decide) ti27 j0 j0 j0 j0 (roX (f:=rApiMethod) (z:=[v9]) j0 j0) (fun _=>j0) j0 q7<|⟨(.msl 11 0 (List.length v12)),[],[(48,.msl 11 0 (List.length v12))],j0,j0,by kernel_rfl,j0,dtS ⟨(fun _=>pa j0 j0 j0 j0 (fa ti29 j0 j0 j0<|j4)),(fun h=>by cases h),(fun h=>by cases h),(fun _=>pa j0 j0 j0 j0 (fa ti29 j0 j0 j0<|j4)),(fun h=>by cases h),(fun h=>by cases h),(fun _=>pa j0 j0 j0 j0 (fa ti29 j0 j0 j0<|j4)),j5⟩ (by kernel_rfl) j0 ⟨(fun h=>by cases h),(fun h=>by cases h),(fun h=>by cases h),(fun h=>by cases h),(fun _ _=>⟨_,j0,j0,sto ti27 j0 j0 j0<|⟨.any,[12],[(50,.mpt 3 0 5)],j0,j0,by kernel_rfl,j5,dtS ⟨(fun _=>pa j0 j0 j0 j0 (fa ti29 j0 j0 j0<|j4)),(fun h=>by cases h),(fun h=>by cases h),(fun h=>by cases h),(fun _=>pa j0 j0 j0 j0 (fa ti29 j0 j0 j0<|j4)),(fun h=>by cases h),(fun h=>by cases h),(fun h=>by cases h),j5⟩ (by kernel_rfl) j0 ⟨(fun h=>by cases h),(fun h=>by cases h),(fun h=>by cases h),(fun h=>by cases h),(fun h=>by cases h),(fun _ _=>⟨_,j0,j0,sto ti27 j0 j0 j0<|⟨.any,[],[],j0,j0,by kernel_rfl,j5,dt0 ⟨(fun h=>by cases h),(fun h=>by cases h),(fun h=>by cases h),(fun h=>by cases h),(fun h=>by cases h),(fun h=>by cases h),(fun h=>by cases h),(fun h=>by cases h),j5⟩ (by kernel_rfl) j0 ⟨[.old 0,.old 1,.old 9,.old 3,.old 4,.old 11,.old 6,.old 7],ce j0 j0<|ce j0 j0<|cv j0 (.mpt j0)<|cv j0 (.mpt j0)<|cv j0 (.mpt j0)<|cv j0 (.mpt j0)<|cn,j0,⟨⟨_,j0,rsOne ⟨ci j0,ci j0,ci j0,ci j0,.msl j0,.msl j0,j5⟩⟩,⟨_,j0,rsMap (fun _=>j0)⟩,⟨_,j0,rsMap (fun _=>j0)⟩,⟨_,j0,rsOne ⟨ci j0,ci j0,ci j0,ci j0,.msl j0,.msl j0,j5⟩⟩,⟨_,j0,rsMap (fun _=>j0)⟩,⟨_,j0,rsMap (fun _=>j0)⟩,⟨_,j0,rsOne (ciL j0)⟩,⟨_,j0,rsOne (ciL j0)⟩,j5⟩,j0,j1⟩⟩⟩),j5⟩⟩⟩),(fun _ h=>by cases h),j5⟩⟩⟩),(fun _ h=>by cases h),(fun _ h=>by cases h),j5⟩⟩⟩),(fun _ h=>by cases h),(fun _ h=>by cases h),(fun _ h=>by cases h),j5⟩⟩⟩),(fun _ _=>⟨_,j0,j0,bl 9 ti27 j0 ti76 j0 (by decide) (by decide) j0 j0 j0<|⟨(.msl 9 0 1),[],[(47,.msl 9 0 1)],j0,j0,by kernel_rfl,j0,dtS ⟨(fun h=>by cases h),(fun _=>pa j0 j0 j0 j0 (ld ti27 j0 j0<|j4)),(fun _=>pa j0 j0 j0 j0 (fa ti29 j0 j0 j0<|j4)),(fun h=>by cases h),(fun _=>pa j0 j0 j0 j0 (ld ti27 j0 j0<|j4)),(fun _=>pa j0 j0 j0 j0 (fa ti29 j0 j0 j0<|j4)),j5⟩ (by kernel_rfl) j0 ⟨(fun h=>by cases h),(fun _ _=>⟨_,j0,j0,apM 10 ti27 j0 ti76 j0 j0 (by decide) ti27 j0 j0 j0 j0 (roX (f:=rApiMethod) (z:=[v8]) j0 j0) (fun _=>j0) j0 q6<|⟨(.msl 10 0 (List.length v11)),[10],[(49,.mpt 0 0 5),(43,.msl 10 0 (List.length v11))],j0,j0,by kernel_rfl,j0,dtS ⟨(fun _=>pa j0 j0 j0 j0 (fa ti29 j0 j0 j0<|j4)),(fun h=>by cases h),(fun _=>pa j0 j0 j0 j0 (ld ti27 j0 j0<|j4)),(fun _=>pa j0 j0 j0 j0 (fa ti29 j0 j0 j0<|j4)),(fun h=>by cases h),(fun h=>by cases h),(fun _=>pa j0 j0 j0 j0 (fa ti29 j0 j0 j0<|j4)),j5⟩ (by kernel_rfl) j0 ⟨(fun h=>by cases h),(fun h=>by cases h),(fun h=>by cases h),(fun _ _=>⟨_,j0,j0,apM 11 ti27 j0 ti76 j0 j0 (by decide) ti27 j0 j0 j0 j0 (roX (f:=rApiMethod) (z:=[v9]) j0 j0) (fun _=>j0) j0 q7<|⟨(.msl 11 0 (List.length v12)),[],[(48,.msl 11 0 (List.length v12))],j0,j0,by kernel_rfl,j0,dtS ⟨(fun _=>pa j0 j0 j0 j0 (fa ti29 j0 j0 j0<|j4)),(fun h=>by cases h),(fun h=>by cases h),(fun _=>pa j0 j0 j0 j0 (fa ti29 j0 j0 j0<|j4)),(fun h=>by cases h),(fun h=>by cases h),(fun _=>pa j0 j0 j0 j0 (fa ti29 j0 j0 j0<|j4)),j5⟩ (by kernel_rfl) j0 ⟨(fun h=>by cases h),(fun h=>by cases h),(fun h=>by cases h),(fun h=>by cases h),(fun _ _=>⟨_,j0,j0,sto ti27 j0 j0 j0<|⟨.any,[12],[(50,.mpt 3 0 5)],j0,j0,by kernel_rfl,j5,dtS ⟨(fun _=>pa j0 j0 j0 j0 (fa ti29 j0 j0 j0<|j4)),(fun h=>by cases h),(fun h=>by cases h),(fun h=>by cases h),(fun _=>pa j0 j0 j0 j0 (fa ti29 j0 j0 j0<|j4)),(fun h=>by cases h),(fun h=>by cases h),(fun h=>by cases h),j5⟩ (by kernel_rfl) j0 ⟨(fun h=>by cases h),(fun h=>by cases h),(fun h=>by cases h),(fun h=>by cases h),(fun h=>by cases h),(fun _ _=>⟨_,j0,j0,sto ti27 j0 j0 j0<|⟨.any,[],[],j0,j0,by kernel_rfl,j5,dt0 ⟨(fun h=>by cases h),(fun h=>by cases h),(fun h=>by cases h),(fun h=>by cases h),(fun h=>by cases h),(fun h=>by cases h),(fun h=>by cases h),(fun h=>by cases h),j5⟩ (by kernel_rfl) j0 ⟨[.old 0,.old 1,.old 10,.old 3,.old 4,.old 11,.old 6,.old 7],ce j0 j0<|ce j0 j0<|cv j0 (.mpt j0)<|cv j0 (.mpt j0)<|cv j0 (.mpt j0)<|cv j0 (.mpt j0)<|cn,j0,⟨⟨_,j0,rsOne ⟨ci j0,ci j0,ci j0,ci j0,.msl j0,.msl j0,j5⟩⟩,⟨_,j0,rsMap (fun _=>j0)⟩,⟨_,j0,rsMap (fun _=>j0)⟩,⟨_,j0,rsOne ⟨ci j0,ci j0,ci j0,ci j0,.msl j0,.msl j0,j5⟩⟩,⟨_,j0,rsMap (fun _=>j0)⟩,⟨_,j0,rsMap (fun _=>j0)⟩,⟨_,j0,rsOne (ciL j0)⟩,⟨_,j0,rsOne (ciL j0)⟩,j5⟩,j0,j1⟩⟩⟩),j5⟩⟩⟩),(fun _ h=>by cases h),j5⟩⟩⟩),(fun _ h=>by cases h),(fun _ h=>by cases h),j5⟩⟩⟩),(fun h=>by cases h),(fun _ h=>by cases h),(fun _ h=>by cases h),(fun _ h=>by cases h),j5⟩⟩⟩),(fun _ h=>by cases h),(fun _ h=>by cases h),(fun _ h=>by cases h),j5⟩⟩⟩),(fun _ h=>by cases h),(fun _ _=>⟨_,j0,j0,bl 8 ti27 j0 ti76 j0 (by decide) (by decide) j0 j0 j0<|⟨(.msl 8 0 1),[],[(47,.msl 8 0 1)],j0,j0,by kernel_rfl,j0,dtS ⟨(fun h=>by cases h),(fun _=>pa j0 j0 j0 j0 (ld ti27 j0 j0<|j4)),(fun _=>pa j0 j0 j0 j0 (fa ti29 j0 j0 j0<|j4)),(fun _=>pa j0 j0 j0 j0 (ld ti76 j0 j0<|j4)),(fun _=>pa j0 j0 j0 j0 (ld ti27 j0 j0<|j4)),(fun _=>pa j0 j0 j0 j0 (fa ti29 j0 j0 j0<|j4)),j5⟩ (by kernel_rfl) j0 ⟨(fun _ _=>⟨_,j0,j0,bl 9 ti27 j0 ti76 j0 (by decide) (by decide) j0 j0 j0<|⟨(.msl 9 0 1),[],[(42,.msl 9 0 1)],j0,j0,by kernel_rfl,j0,dtS ⟨(fun h=>by cases h),(fun _=>pa j0 j0 j0 j0 (ld ti27 j0 j0<|j4)),(fun _=>pa j0 j0 j0 j0 (fa ti29 j0 j0 j0<|j4)),(fun h=>by cases h),(fun _=>pa j0 j0 j0 j0 (ld ti27 j0 j0<|j4)),(fun _=>pa j0 j0 j0 j0 (fa ti29 j0 j0 j0<|j4)),j5⟩ (by kernel_rfl) j0 ⟨(fun h=>by cases h),(fun _ _=>⟨_,j0,j0,apM 10 ti27 j0 ti76 j0 j0 (by decide) ti27 j0 j0 j0 j0 (roX (f:=rApiMethod) (z:=[v8]) j0 j0) (fun _=>j0) j0 q6<|⟨(.msl 10 0 (List.length v11)),[10],[(49,.mpt 0 0 5),(43,.msl 10 0 (List.length v11))],j0,j0,by kernel_rfl,j0,dtS ⟨(fun _=>pa j0 j0 j0 j0 (fa ti29 j0 j0 j0<|j4)),(fun h=>by cases h),(fun _=>pa j0 j0 j0 j0 (ld ti27 j0 j0<|j4)),(fun _=>pa j0 j0 j0 j0 (fa ti29 j0 j0 j0<|j4)),(fun h=>by cases h),(fun h=>by cases h),(fun _=>pa j0 j0 j0 j0 (fa ti29 j0 j0 j0<|j4)),j5⟩ (by kernel_rfl) j0 ⟨(fun h=>by cases h),(fun h=>by cases h),(fun h=>by cases h),(fun _ _=>⟨_,j0,j0,apM 11 ti27 j0 ti76 j0 j0 (by decide) ti27 j0 j0 j0 j0 (roX (f:=rApiMethod) (z:=[v9]) j0 j0) (fun _=>j0) j0 q7<|⟨(.msl 11 0 (List.length v12)),[],[(48,.msl 11 0 (List.length v12))],j0,j0,by kernel_rfl,j0,dtS ⟨(fun _=>pa j0 j0 j0 j0 (fa ti29 j0 j0 j0<|j4)),(fun h=>by cases h),(fun h=>by cases h),(fun _=>pa j0 j0 j0 j0 (fa ti29 j0 j0 j0<|j4)),(fun h=>by cases h),(fun h=>by cases h),(fun _=>pa j0 j0 j0 j0 (fa ti29 j0 j0 j0<|j4)),j5⟩ (by kernel_rfl) j0 ⟨(fun h=>by cases h),(fun h=>by cases h),(fun h=>by cases h),(fun h=>by cases h),(fun _ _=>⟨_,j0,j0,sto ti27 j0 j0 j0<|⟨.any,[12],[(50,.mpt 3 0 5)],j0,j0,by kernel_rfl,j5,dtS ⟨(fun _=>pa j0 j0 j0 j0 (fa ti29 j0 j0 j0<|j4)),(fun h=>by cases h),(fun h=>by cases h),(fun h=>by cases h),(fun _=>pa j0 j0 j0 j0 (fa ti29 j0 j0 j0<|j4)),(fun h=>by cases h),(fun h=>by cases h),(fun h=>by cases h),j5⟩ (by kernel_rfl) j0 ⟨(fun h=>by cases h),(fun h=>by cases h),(fun h=>by cases h),(fun h=>by cases h),(fun h=>by cases h),(fun _ _=>⟨_,j0,j0,sto ti27 j0 j0 j0<|⟨.any,[],[],j0,j0,by kernel_rfl,j5,dt0 ⟨(fun h=>by cases h),(fun h=>by cases h),(fun h=>by cases h),(fun h=>by cases h),(fun h=>by cases h),(fun h=>by cases h),(fun h=>by cases h),(fun h=>by cases h),j5⟩ (by kernel_rfl) j0 ⟨[.old 0,.old 1,.old 10,.old 3,.old 4,.old 11,.old 6,.old 7],ce j0 j0<|ce j0 j0<|cv j0 (.mpt j0)<|cv j0 (.mpt j0)<|cv j0 (.mpt j0)<|cv j0 (.mpt j0)<|cn,j0,⟨⟨_,j0,rsOne ⟨ci j0,ci j0,ci j0,ci j0,.msl j0,.msl j0,j5⟩⟩,⟨_,j0,rsMap (fun _=>j0)⟩,⟨_,j0,rsMap (fun _=>j0)⟩,⟨_,j0,rsOne ⟨ci j0,ci j0,ci j0,ci j0,.msl j0,.msl j0,j5⟩⟩,⟨_,j0,rsMap (fun _=>j0)⟩,⟨_,j0,rsMap (fun _=>j0)⟩,⟨_,j0,rsOne (ciL j0)⟩,⟨_,j0,rsOne (ciL j0)⟩,j5⟩,j0,j1⟩⟩⟩),j5⟩⟩⟩),(fun _ h=>by cases h),j5⟩⟩⟩),(fun _ h=>by cases h),(fun _ h=>by cases h),j5⟩⟩⟩),(fun h=>by cases h),(fun _ h=>by cases h),(fun _ h=>by cases h),(fun _ h=>by cases h),j5⟩⟩⟩),(fun _ h=>by cases h),(fun h=>by cases h),(fun _ h=>by cases h),(fun _ h=>by cases h),(fun _ h=>by cases h),j5⟩⟩⟩),(fun _ h=>by cases h),(fun _ h=>by cases h),(fun _ h=>by cases h),j5⟩) ?_
  obtain ⟨v13,q8,h⟩:=bs h
  refine rg j0<|u<|ld ti29 j0 j0<|u<|ld ti29 j0 j0<|u<|bl 8 ti24 j0 ti29 j0 (by decide) (by decide) j0 j0 j0<|u<|bd ti94 j0 j0 j0<|r_can (env0:=[(4,bA v5),(5,bA v6),(16,.mpt 0 0 0),(17,.mpt 1 0 0),(54,.isl 6 (List.map rApiClass ([(ApiClass.mk [66,98] [65,97] false [] ([(ApiField.mk [120] [73] false)]) v12),(ApiClass.mk [65,97] [79,98,106,101,99,116] false [] ([(ApiField.mk [120] [73] false)]) v11)]))),(55,.agg [sA [65,97],sA [109,97,105,110]])]) (st0:=[some (10,[(rApiMethod v8)]),some (10,[(rApiMethod v9)])]) ⟨[.old 6,.old 7],ce j0 j0<|ce j0 j0<|cv j0 (.mpt j0)<|cv j0 (.mpt j0)<|cv j0 (rsSealX j0 j0 ⟨⟨⟨ci j0,ci j0,ci j0,.nil,rsSeal j0 j0 (fun _=>j0),rsSeal j0 j0 (fun _=>j0),j5⟩,j0⟩,⟨⟨ci j0,ci j0,ci j0,.nil,rsSeal j0 j0 (fun _=>j0),rsSeal j0 j0 (fun _=>j0),j5⟩,j0⟩,j5⟩)<|ce j0 j0<|cn,j0,⟨⟨_,j0,rsOne (ciL j0)⟩,⟨_,j0,rsOne (ciL j0)⟩,j5⟩,j0,j1⟩<|u<|pc (closed_Check_ok ([(ApiClass.mk [66,98] [65,97] false [] ([(ApiField.mk [120] [73] false)]) v12),(ApiClass.mk [65,97] [79,98,106,101,99,116] false [] ([(ApiField.mk [120] [73] false)]) v11)]) (ApiEntry.mk [65,97] [109,97,105,110]) q8) j0 j0 j0<|u<|mv j0<|u<|ex j0 j0<|u<|ex j0 j0<|u<|asg j0<|u<|asg j0<|r_nil ?_
  obtain ⟨v15,q13,h⟩:=bs h
  refine rg j0<|u<|mv j0<|u<|nt j0<|u<|mv j0<|r_and (j:=2) 2 j0 j0 j0 j0 j0 gpn (fun hb9=>g j0 hb9<|mv j0<|g j0 hb9<|nt j0<|r_nil (egA [62,63] 2 hb9 j0 j0 j0 j0)) andF<|u<|mv j0<|r_and (j:=6) 5 j0 j0 j0 j0 j0 gpn (fun hb10=>g j0 hb10<|fa ti76 j0 j0 j0<|g j0 hb10<|ld ti9 j0 j0<|g j0 hb10<|fa ti76 j0 j0 j0<|g j0 hb10<|ld ti9 j0 j0<|g j0 hb10<|seq ti9 j0 j0<|r_nil (egA [66,67,68,69,70] 5 hb10 j0 j0 j0 j0)) andF<|u<|mv j0<|r_and (x:=v15) (j:=13) 5 j0 j0 j0 j0 j0 gpn (fun hb11=>by replace q13:=bT hb11 q13; obtain ⟨v14,q12,q13⟩:=bs q13; obtain rfl:=sm q13; exact g j0 hb11<|fa ti76 j0 j0 j0<|g j0 hb11<|ld ti25 j0 j0<|g j0 hb11<|fa ti76 j0 j0 j0<|g j0 hb11<|ld ti25 j0 j0<|g j0 hb11<|pc (ref3_EqTexts_ok v8.Params v9.Params q12) j0 j0 j0<|r_nil (eg [73,74,75,76,77] 5 j0 j0 j0 j0)) (fun hb=>(sm (bF hb q13)).symm)<|u<|asg j0<|r_nil ?_
  refine rg j0<|u<|mv j0<|u<|eql ti33 j0 j0<|u<|mv j0<|u<|beq ti4 j0 j0 j0<|u<|mv j0<|r_and (j:=4) 5 j0 j0 j0 j0 j0 gpn (fun hb14=>g j0 hb14<|mv j0<|g j0 hb14<|mv j0<|r_or (j:=6) 2 j0 j0 j0 j0 j0 (gps j0 j0 hb14) (fun hb15=>g j0 hb15<|mv j0<|g j0 hb15<|eql ti33 j0 j0<|r_nil (egO [86,87] 2 hb15 j0 j0 j0 j0)) orT<|r_nil (egA [84,85,86,87,88] 3 hb14 j0 j0 j0 j0)) andF<|u<|asg j0<|r_nil ?_
  refine sw_ret ?_
  obtain rfl:=sm h
  exact ⟨_,j0,[],ci j0,j0,j5,j0,j1⟩
end
end Go.Proofs.YtjbdfkapnffjnaaGreat
namespace Go.Proofs.YtjbdfkapnffjnaaGreat
set_option linter.unusedSimpArgs false
set_option linter.unusedVariables false
theorem idx_nat {α : Type} (l : List α) (i : Nat) : idx l (i : Int) = l[i]? := by
  unfold idx
  rw [if_pos (by omega), Int.toNat_natCast]
theorem wrapI {n : Int} (h1 : -9223372036854775808 ≤ n) (h2 : n ≤ 9223372036854775807) : IntKind.i64.wrap n = n := IntWalk.i64_in n ⟨h1, h2⟩
theorem wrap_succ {i : Nat} (h : i < 9223372036854775807) : IntKind.i64.wrap ((i : Int) + 1) = ((i + 1 : Nat) : Int) := by
  rw [wrapI (by omega) (by omega)]; omega
end Go.Proofs.YtjbdfkapnffjnaaGreat
namespace Go.Proofs.YtjbdfkapnffjnaaGreat
set_option linter.unusedSimpArgs false
set_option linter.unusedVariables false
def yesO (o : Option Bool) : Bool := match o with | some true => true | _ => false
theorem yesO_eq {o : Option Bool} (h : yesO o = true) : o = some true := by
  cases o with
  | none => cases h
  | some b =>
    cases b with
    | false => cases h
    | true => rfl
end Go.Proofs.YtjbdfkapnffjnaaGreat
namespace Go.Proofs.YtjbdfkapnffjnaaGreat
set_option linter.unusedSimpArgs false
set_option linter.unusedVariables false
def bitOf (l : List Bool) (k : Nat) : Bool := (l[k]?).getD false
def four4 (l : List Bool) : List Bool := [bitOf l 0, bitOf l 1, bitOf l 2, bitOf l 3]
theorem four4_bit (l : List Bool) {k : Nat} (h : k < 4) : bitOf (four4 l) k = bitOf l k := by
  match k, h with
  | 0, _ => rfl
  | 1, _ => rfl
  | 2, _ => rfl
  | 3, _ => rfl
theorem bit_two {R : Type} (J : Bool → Bool → Option R) (a b : List Bool) (k : Nat) :
    cond (decide ((k : Int) < (List.length a : Int))) ((idx a (k : Int)).bind fun x => cond (decide ((k : Int) < (List.length b : Int))) ((idx b (k : Int)).bind fun y => J x y) (J x false))
      (cond (decide ((k : Int) < (List.length b : Int))) ((idx b (k : Int)).bind fun y => J false y) (J false false)) = J (bitOf a k) (bitOf b k) := by
  rw [idx_nat, idx_nat]
  unfold bitOf
  by_cases h1 : k < a.length <;> by_cases h2 : k < b.length
  · rw [decide_eq_true (by omega), decide_eq_true (by omega), List.getElem?_eq_getElem h1, List.getElem?_eq_getElem h2]; rfl
  · rw [decide_eq_true (by omega), decide_eq_false (by omega), List.getElem?_eq_getElem h1, List.getElem?_eq_none (by omega : b.length ≤ k)]; rfl
  · rw [decide_eq_false (by omega), decide_eq_true (by omega), List.getElem?_eq_none (by omega : a.length ≤ k), List.getElem?_eq_getElem h2]; rfl
  · rw [decide_eq_false (by omega), decide_eq_false (by omega), List.getElem?_eq_none (by omega : a.length ≤ k), List.getElem?_eq_none (by omega : b.length ≤ k)]; rfl
theorem cf_same (a b : List Bool) (v : Bool) {k : Nat} (hk : k < 4) (x y z : List ApiMethod) (w : Bool) : law11_ClosedFaces_l7 a b v x y z w (k : Int) = law11_ClosedFaces_l7 (four4 a) (four4 b) v x y z w (k : Int) := by
  unfold law11_ClosedFaces_l7
  rw [bit_two (fun p q => law11_ClosedFaces_j4 v x y z w (k : Int) p q), bit_two (fun p q => law11_ClosedFaces_j4 v x y z w (k : Int) p q), four4_bit a hk, four4_bit b hk]
theorem cf_j4 (v : Bool) (x y z : List ApiMethod) (w : Bool) {k : Nat} (hk : k < 4) (p q : Bool) : law11_ClosedFaces_j4 v x y z w (k : Int) p q = none ∨ ∃ x' y' z' w', law11_ClosedFaces_j4 v x y z w (k : Int) p q = some (.inl (x', y', z', w', ((k + 1 : Nat) : Int))) := by
  have j6 : ∀ a b c, ∃ x' y' z' w', law11_ClosedFaces_j6 w (k : Int) p q a b c = some (.inl (x', y', z', w', ((k + 1 : Nat) : Int))) := fun a b c => by
    unfold law11_ClosedFaces_j6
    rw [wrap_succ (by omega)]
    exact ⟨_, _, _, _, rfl⟩
  have j5 : ∀ a, law11_ClosedFaces_j5 v y z w (k : Int) p q a = none ∨ ∃ x' y' z' w', law11_ClosedFaces_j5 v y z w (k : Int) p q a = some (.inl (x', y', z', w', ((k + 1 : Nat) : Int))) := fun a => by
    unfold law11_ClosedFaces_j5
    cases q with
    | false => exact .inr (j6 _ _ _)
    | true =>
      simp only [cond_true]
      cases v with
      | true =>
        simp only [cond_true]
        cases appP 152 y ([(ApiMethod.mk [(109 : UInt8), (tU8 (IntKind.i64.wrap (48 + (k : Int))))] [] [86] false false 1 0 ([(ApiIns.mk 46 0 [] [])]) [] [])]) with
        | none => exact .inl rfl
        | some r => exact .inr (j6 _ _ _)
      | false =>
        simp only [cond_false]
        cases appP 152 z ([(ApiMethod.mk [(109 : UInt8), (tU8 (IntKind.i64.wrap (48 + (k : Int))))] [] [86] false false 1 0 ([(ApiIns.mk 46 0 [] [])]) [] [])]) with
        | none => exact .inl rfl
        | some r => exact .inr (j6 _ _ _)
  unfold law11_ClosedFaces_j4
  cases p with
  | false => exact j5 _
  | true =>
    simp only [cond_true]
    cases appP 152 x ([(ApiMethod.mk [(109 : UInt8), (tU8 (IntKind.i64.wrap (48 + (k : Int))))] [] [86] false true 0 0 [] [] [])]) with
    | none => exact .inl rfl
    | some r => exact j5 _
theorem cf_form (a b : List Bool) (v : Bool) {k : Nat} (hk : k < 4) (x y z : List ApiMethod) (w : Bool) : law11_ClosedFaces_l7 a b v x y z w (k : Int) = none ∨ ∃ x' y' z' w', law11_ClosedFaces_l7 a b v x y z w (k : Int) = some (.inl (x', y', z', w', ((k + 1 : Nat) : Int))) := by
  unfold law11_ClosedFaces_l7
  rw [bit_two (fun p q => law11_ClosedFaces_j4 v x y z w (k : Int) p q), decide_eq_true (show (k : Int) < 4 by omega)]
  exact cf_j4 v x y z w hk _ _
theorem cf_loop (a b : List Bool) (v : Bool) : ∀ (d k : Nat), 4 - k = d → k ≤ 4 → ∀ (x y z : List ApiMethod) (w : Bool),
    loopP (fun s => law11_ClosedFaces_l7 a b v s.1 s.2.1 s.2.2.1 s.2.2.2.1 s.2.2.2.2) (x, y, z, w, (k : Int)) = loopP (fun s => law11_ClosedFaces_l7 (four4 a) (four4 b) v s.1 s.2.1 s.2.2.1 s.2.2.2.1 s.2.2.2.2) (x, y, z, w, (k : Int)) := by
  intro d
  induction d with
  | zero =>
    intro k hd hk x y z w
    have : k = 4 := by omega
    subst this
    rw [loopP_eq, loopP_eq]
    rfl
  | succ d ih =>
    intro k hd hk x y z w
    have hlt : k < 4 := by omega
    rw [loopP_eq, loopP_eq]
    show (law11_ClosedFaces_l7 a b v x y z w (k : Int)).bind _ = (law11_ClosedFaces_l7 (four4 a) (four4 b) v x y z w (k : Int)).bind _
    rw [cf_same a b v hlt]
    rcases cf_form (four4 a) (four4 b) v hlt x y z w with h | ⟨x', y', z', w', h⟩
    · rw [h]; rfl
    · rw [h]
      exact ih (k + 1) (by omega) (by omega) x' y' z' w'
theorem cf_four (a b : List Bool) (v : Bool) : law11_ClosedFaces a b v = law11_ClosedFaces (four4 a) (four4 b) v := by
  unfold law11_ClosedFaces
  have := cf_loop a b v 4 0 rfl (by omega) [] [(ApiMethod.mk [109, 97, 105, 110] [] [86] true false 0 0 ([(ApiIns.mk 46 0 [] [])]) [] [])] [(ApiMethod.mk [103, 111] [] [86] true false 0 0 ([(ApiIns.mk 46 0 [] [])]) [] [])] true
  rw [show loopP (fun s => law11_ClosedFaces_l7 a b v s.1 s.2.1 s.2.2.1 s.2.2.2.1 s.2.2.2.2) ([], [(ApiMethod.mk [109, 97, 105, 110] [] [86] true false 0 0 ([(ApiIns.mk 46 0 [] [])]) [] [])], [(ApiMethod.mk [103, 111] [] [86] true false 0 0 ([(ApiIns.mk 46 0 [] [])]) [] [])], true, 0) = _ from this]
  rfl
noncomputable def cfq (v a0 a1 a2 a3 : Bool) (b0 b1 : Bool) : Bool := yesO (law11_ClosedFaces [a0, a1, a2, a3] [b0, b1, false, false] v) && (yesO (law11_ClosedFaces [a0, a1, a2, a3] [b0, b1, false, true] v) && (yesO (law11_ClosedFaces [a0, a1, a2, a3] [b0, b1, true, false] v) && yesO (law11_ClosedFaces [a0, a1, a2, a3] [b0, b1, true, true] v)))
noncomputable def cfB (v a0 a1 a2 a3 : Bool) : Bool := cfq v a0 a1 a2 a3 false false && (cfq v a0 a1 a2 a3 false true && (cfq v a0 a1 a2 a3 true false && cfq v a0 a1 a2 a3 true true))
theorem cf_0 : cfB false false false false false = true := by kernel_rfl
theorem cf_1 : cfB false false false false true = true := by kernel_rfl
theorem cf_2 : cfB false false false true false = true := by kernel_rfl
theorem cf_3 : cfB false false false true true = true := by kernel_rfl
theorem cf_4 : cfB false false true false false = true := by kernel_rfl
theorem cf_5 : cfB false false true false true = true := by kernel_rfl
theorem cf_6 : cfB false false true true false = true := by kernel_rfl
theorem cf_7 : cfB false false true true true = true := by kernel_rfl
theorem cf_8 : cfB false true false false false = true := by kernel_rfl
theorem cf_9 : cfB false true false false true = true := by kernel_rfl
theorem cf_10 : cfB false true false true false = true := by kernel_rfl
theorem cf_11 : cfB false true false true true = true := by kernel_rfl
theorem cf_12 : cfB false true true false false = true := by kernel_rfl
theorem cf_13 : cfB false true true false true = true := by kernel_rfl
theorem cf_14 : cfB false true true true false = true := by kernel_rfl
theorem cf_15 : cfB false true true true true = true := by kernel_rfl
theorem cf_16 : cfB true false false false false = true := by kernel_rfl
theorem cf_17 : cfB true false false false true = true := by kernel_rfl
theorem cf_18 : cfB true false false true false = true := by kernel_rfl
theorem cf_19 : cfB true false false true true = true := by kernel_rfl
theorem cf_20 : cfB true false true false false = true := by kernel_rfl
theorem cf_21 : cfB true false true false true = true := by kernel_rfl
theorem cf_22 : cfB true false true true false = true := by kernel_rfl
theorem cf_23 : cfB true false true true true = true := by kernel_rfl
theorem cf_24 : cfB true true false false false = true := by kernel_rfl
theorem cf_25 : cfB true true false false true = true := by kernel_rfl
theorem cf_26 : cfB true true false true false = true := by kernel_rfl
theorem cf_27 : cfB true true false true true = true := by kernel_rfl
theorem cf_28 : cfB true true true false false = true := by kernel_rfl
theorem cf_29 : cfB true true true false true = true := by kernel_rfl
theorem cf_30 : cfB true true true true false = true := by kernel_rfl
theorem cf_31 : cfB true true true true true = true := by kernel_rfl
theorem cf_all (v a0 a1 a2 a3 : Bool) : cfB v a0 a1 a2 a3 = true := by
  cases v <;> cases a0 <;> cases a1 <;> cases a2 <;> cases a3
  · exact cf_0
  · exact cf_1
  · exact cf_2
  · exact cf_3
  · exact cf_4
  · exact cf_5
  · exact cf_6
  · exact cf_7
  · exact cf_8
  · exact cf_9
  · exact cf_10
  · exact cf_11
  · exact cf_12
  · exact cf_13
  · exact cf_14
  · exact cf_15
  · exact cf_16
  · exact cf_17
  · exact cf_18
  · exact cf_19
  · exact cf_20
  · exact cf_21
  · exact cf_22
  · exact cf_23
  · exact cf_24
  · exact cf_25
  · exact cf_26
  · exact cf_27
  · exact cf_28
  · exact cf_29
  · exact cf_30
  · exact cf_31
theorem cfq_get {v a0 a1 a2 a3 b0 b1 : Bool} (h : cfq v a0 a1 a2 a3 b0 b1 = true) (b2 b3 : Bool) : law11_ClosedFaces [a0, a1, a2, a3] [b0, b1, b2, b3] v = some true := by
  unfold cfq at h
  rw [Bool.and_eq_true, Bool.and_eq_true, Bool.and_eq_true] at h
  cases b2 <;> cases b3
  · exact yesO_eq h.1
  · exact yesO_eq h.2.1
  · exact yesO_eq h.2.2.1
  · exact yesO_eq h.2.2.2
theorem law11_ClosedFaces_eq (a b : List Bool) (v : Bool) : law11_ClosedFaces a b v = some true := by
  rw [cf_four]
  have h := cf_all v (bitOf a 0) (bitOf a 1) (bitOf a 2) (bitOf a 3)
  unfold cfB at h
  rw [Bool.and_eq_true, Bool.and_eq_true, Bool.and_eq_true] at h
  unfold four4
  refine cfq_get ?_ _ _
  cases bitOf b 0 <;> cases bitOf b 1
  · exact h.1
  · exact h.2.1
  · exact h.2.2.1
  · exact h.2.2.2
theorem closedFaces_pure (a b : List Bool) (v : Bool) (_ : wL wT a) (_ : wL wT b) : PureC Tryz.prog 18 [.isl 1 (List.map rB a), .isl 1 (List.map rB b), bA v] (bA true) := law11_ClosedFaces_ok a b v (law11_ClosedFaces_eq a b v)
end Go.Proofs.YtjbdfkapnffjnaaGreat
