/- The functions' abstract code, printed by a program; each equation is closed by the kernel. -/
import Derived.Test.YtdbhocoeolhjhaaGreatDoorAbs2
import Derived.Test.YtdbhocoeolhjhaaGreatDoorProg
import Derived.KernelRfl
set_option linter.unusedVariables false
namespace Go.Proofs.YtdbhocoeolhjhaaGreatDoor
open Go.Abs
def loud : List Nat := [10, 20, 31, 32, 46, 48, 49, 50, 51, 53, 54, 56, 70, 87, 93, 104, 115, 119, 124, 128, 129, 134, 140, 141, 142, 149, 162, 163, 165, 170, 174, 178, 196, 203, 204, 222, 268, 308, 309, 332, 1000010, 1000056, 1000064, 1000075, 1000114, 1000128, 1000131, 1000132, 1000141, 1000149, 1000163, 1000170, 1000174, 1000196, 1000222, 2000270, 3000040, 3000071, 3000114, 3000169, 3000176]
abbrev qS (l : List AIns) (c : ACode) : ACode := .seq (.ops l) c
abbrev qR (n a b : Nat) : AIns := ⟨none, none, .store n (.s a) (.s b)⟩
abbrev qI (n : Int) : AV := .int .i64 n
abbrev qC (n : Int) : Opd := .c (.int .i64 n)
abbrev qO (d : Nat) (o : AOp) : AIns := ⟨none, some d, o⟩
abbrev qT (g d : Nat) (o : AOp) : AIns := ⟨some (g, true), some d, o⟩
abbrev qN (g d : Nat) (o : AOp) : AIns := ⟨some (g, false), some d, o⟩
abbrev qV (d m : Nat) : AIns := ⟨none, some d, .mv (.s m)⟩
abbrev qL (d n m : Nat) : AIns := ⟨none, some d, .load true n (.s m)⟩
abbrev qK (d n m : Nat) : AIns := ⟨none, some d, .load false n (.s m)⟩
abbrev qF (d n m : Nat) : AIns := ⟨none, some d, .faddr n (.s m)⟩
abbrev qB (d : Nat) (o : BinOp) (a b : Nat) : AIns := ⟨none, some d, .bin o (.s a) (.s b)⟩
abbrev qE (d a i : Nat) : AIns := ⟨none, some d, .ext (.s a) i⟩
abbrev qZ (n : Nat) : ACode := qS [qO n (.mv (.c (.bool false)))] .ret
abbrev qA (x y : Nat) : AOp := .pick (.s x) (.s y) (.c (.bool false))
abbrev qD (x y : Nat) : AOp := .pick (.s x) (.c (.bool true)) (.s y)
abbrev qG (a b c x y : Nat) : AOp := .app a b c (.s x) (.s y)
abbrev qH (a x : Nat) : AOp := .load false a (.s x)
abbrev qJ (a x y : Nat) : AOp := .iaddr a (.s x) (.s y)
abbrev qM (a x : Nat) : AOp := .faddr a (.s x)
abbrev qP (x : Nat) : AOp := .len (.s x)
abbrev qQ (n x : Nat) : AOp := .box n (.s x)
abbrev qU (x : Nat) (n : Int) : AOp := .bin .add (.s x) (qC n)
abbrev qW (x : Nat) (n : Int) : AOp := .bin .eql (.s x) (qC n)
abbrev qX : Opd := .c (.bool false)
abbrev qY : Opd := .c (.bool true)
abbrev qg (x : Nat) : AOp := .not (.s x)
abbrev qb (a:Nat)(b:Int):AIns:=qO a (.mv (qC b))
abbrev qe (a b:Nat)(c d:Nat):AIns:=qO a (.call b [.s c,.s d])
abbrev qf (a b c:Nat):AIns:=qO a (.call b [.s c])
abbrev qj (a:Nat):AIns:=qO a (.mv (.c .nils))
abbrev qk (a b:Nat):AIns:=qO a (.alloc b [qI 0,.nils,.nils,.nils,.nils,qI 0,.nils,qI 0,qI 0,.bool false])
abbrev qn (a b:Nat):AIns:=qO a (.alloc b [.bool false,qI 0])
abbrev qo (a b:Nat)(c:Int):AIns:=qO a (.bin .neq (.s b) (qC c))
abbrev qp (a b:Nat):AIns:=qO a (.alloc b [qI 0,.nils,.nils,.nils,.nils,qI 0])
abbrev qq (a:Nat):AIns:=qO a (.mv qX)
abbrev qr (a b c:Nat):AIns:=qO a (qQ b c)
abbrev qt (a b:Nat)(c d:Nat):AIns:=qO a (.slc b (.s c) (some (.s d)) none)
abbrev qu (a b:Nat):AIns:=qO a (.nilck (.s b))
abbrev qw (a b:Nat)(c d:Nat):AIns:=qO a (qJ b c d)
abbrev qx (a b:Nat)(c:Int):AIns:=qO a (.bin .lss (.s b) (qC c))
abbrev qy (a b:Nat):AIns:=qO a (qP b)
abbrev qz (a b c:Nat):AIns:=qN a b (.mv (.s c))
abbrev q8 (a b c:Nat):AIns:=qT a b (.mv (.s c))
abbrev q9 (a b:Nat):AIns:=qO a (.alloc b [qI 0,.str [],qI 0,qI 0,.nils,qI 0,qI 0,qI 0,qI 0])
abbrev wa (a b:Nat):AIns:=qO a (.alloc b [qI 0,.nils,qI 0])
abbrev wc (a b:Nat):AIns:=qO a (.alloc b [qI 0,.str [],.nils,qI 0,qI 0,qI 0,qI 0,.nils,qI 0,qI 0,qI 0])
abbrev wd (a b:Nat):AIns:=qO a (.alloc b [qI 0,qI 0,.nils])
abbrev we (a b c:Nat):AIns:=qO a (qD b c)
abbrev wg (a b c:Nat):AIns:=qO a (qU b c)
abbrev wh (a b:Nat):AIns:=qO a (.alloc b [.int .u64 0,.int .u64 0])
abbrev wi (a:Nat):AIns:=qO a (.mv (.c (.int .u64 0)))
abbrev wk (a b c:Nat):AIns:=qO a (.qcall b [.s c])
abbrev wm (a b c:Nat):AIns:=qO a (qA b c)
abbrev wo (a b:Nat)(c d e:Nat):AIns:=qO a (.call b [.s c,.s d,.s e])
abbrev wq (a b:Nat)(c d:Nat):AIns:=qN a b (qM c d)
abbrev wr (a b:Nat)(c d:Nat):AIns:=qN a b (qH c d)
abbrev wu (a b:Nat)(c d:Nat):AIns:=qO a (.slc b (.s c) none (some (.s d)))
abbrev wv (a b:Nat)(c d:Nat):AIns:=qT a b (qM c d)
abbrev ww (a b c:Nat)(d:Int):AIns:=qT a b (.bin .leq (.s c) (qC d))
abbrev wz (a b c:Nat)(d:Int):AIns:=qN a b (.bin .gtr (.s c) (qC d))
abbrev wB (a b:Nat):AIns:=qO a (qg b)
abbrev wC (a b:Nat)(c d:Nat):AIns:=qT a b (qH c d)
abbrev wD (a b:Nat)(c:Int):AIns:=qO a (.bin .sub (.s b) (qC c))
abbrev wE (a b:Nat)(c:Int):AIns:=qO a (.bin .geq (.s b) (qC c))
abbrev wF (a b:Nat):AIns:=qO a (.alloc b [.str [],qI 0,qI 0,.str [],qI 0,.str [],qI 0,qI 0,.nils,qI 0,qI 0,qI 0,qI 0,.nils])
abbrev wG (a b:Nat)(c d:Nat):AIns:=qT a b (.load true c (.s d))
abbrev wH (a b:Nat):AIns:=qO a (.alloc b [qI 0,.nils])
abbrev wI (a b:Nat)(c d:Nat):AIns:=qO a (.build [.bool false,qI 0] [(b,c,.s d)])
abbrev wJ (a b c:Nat)(d:Int):AIns:=qO a (.iaddr b (.s c) (qC d))
abbrev wK (a b:Nat)(c:Int):AIns:=qO a (.bin .gtr (.s b) (qC c))
abbrev wL (a b:Nat):AIns:=qO a (.conv .u64 (.s b))
abbrev wM (a b:Nat)(c d:Nat):AIns:=qO a (.qcall b [.s c,.s d])
abbrev wN (a b:Nat):AIns:=qO a (.alloc b [qI 0,qI 0])
abbrev wO (a:Nat):AIns:=qO a (.build [.str [],qI 0,qI 0,.str [],qI 0,.str [],qI 0,qI 0,.nils,qI 0,qI 0,qI 0,qI 0,.nils] [])
abbrev wP (a b c:Nat):AIns:=qO a (.build [.bool false,qI 0] [(b,c,.c (.bool true))])
abbrev wQ (a b c:Nat):AIns:=qO a (qW b c)
abbrev wR (a b:Nat)(c d:Nat)(e f g:Nat):AIns:=qO a (.build [qI 0,qI 0] [(b,c,.s d),(e,f,.s g)])
abbrev wS (a b:Nat)(c d:Nat):AIns:=qT a b (.bin .eql (.s c) (.s d))
abbrev wT (a b:Nat)(c d:Nat):AIns:=qO a (.build [qI 0,.nils,.nils,.nils,.nils,qI 0,.nils,qI 0,qI 0,.bool false,qI 0] [(b,c,.s d)])
abbrev wU (a b:Nat)(c d:Nat):AIns:=qO a (.ex (.cpy b (.s c) (.s d)))
abbrev wV (a b:Nat)(c d:Nat):AIns:=qN a b (.call c [.s d])
abbrev wW (a b:Nat):AIns:=qO a (.conv .i64 (.s b))
abbrev wX (a:Nat):AIns:=qO a (.build [qI 0,.str [],.nils,qI 0,qI 0,qI 0,qI 0,.nils,qI 0,qI 0,qI 0] [])
abbrev wY (a:Nat):AIns:=qO a (.mv qY)
abbrev wZ (a b:Nat):AIns:=qO a (.bin .eql (.s b) (.c (.int .u64 1)))
abbrev w6 (a b c:Nat):AIns:=qO a (.px (.bit .or (.s b) (.s c)))
abbrev w7 (a b:Nat)(c d:Nat):AIns:=qO a (.call b [.s c,.c (.fn (.func d) [] [])])
abbrev w8 (a b:Nat)(c d:Nat):AIns:=qN a b (.load true c (.s d))
abbrev w9 (a b:Nat):AIns:=qO a (.call b [])
abbrev ve (a b c:Nat)(d:Int):AIns:=qO a (.call b [.s c,qC d])
abbrev vf (a b:Nat)(c d:Nat)(e:Int):AIns:=qO a (.call b [.s c,.s d,qC e])
abbrev vg (a b c:Nat)(d:Int):AIns:=qT a b (.bin .geq (.s c) (qC d))
abbrev vh (a:Nat):AIns:=qO a (.build [qI 0,qI 0,.nils] [])
abbrev vi (a b c:Nat)(d:Int):AIns:=qN a b (.bin .neq (.s c) (qC d))
abbrev vk (a b:Nat)(c d:Nat):AIns:=qN a b (.bin .neq (.s c) (.s d))
abbrev vl (a b c:Nat):AIns:=qO a (.callv (.s b) [.s c])
abbrev vm (a b c:Nat):AIns:=qN a b (.bin .eql (.s c) (qC (-9223372036854775808)))
abbrev vn (a b:Nat):AIns:=qO a (.px (.bit .shr (.s b) (.c (.int .u64 63))))
abbrev vo (a b:Nat):AIns:=qO a (.px (.bit .shl (.s b) (.c (.int .u64 1))))
abbrev vp (a b:Nat)(c d:Nat)(e f:Nat):AIns:=qO a (qG b c d e f)
abbrev vq (a b:Nat)(c d:Nat)(e f g:Nat):AIns:=qO a (.build [.int .u64 0,.int .u64 0] [(b,c,.s d),(e,f,.s g)])
abbrev vr (a b:Nat)(c d e:Nat):AIns:=qO a (.qcall b [.s c,.s d,.s e])
abbrev vt (a b c:Nat)(d:Int):AIns:=qN a b (.bin .lss (.s c) (qC d))
abbrev vu (a b:Nat):AIns:=qO a (.bin .geq (.s b) (.c (.int .u64 4294967296)))
abbrev vv (a:Nat):AIns:=qO a (.build [qI 0,.str [],qI 0,qI 0,.nils,qI 0,qI 0,qI 0,qI 0] [])
abbrev vw (a b:Nat)(c d:Nat):AIns:=qO a (.call b [.s c,.s d,.c (.str [46,112])])
abbrev vx (a b:Nat):AIns:=qO a (.px (.bit .shr (.s b) (.c (.int .u64 1))))
abbrev vy (a b:Nat):AIns:=qO a (.px (.bit .and (.s b) (.c (.int .u64 1))))
abbrev vz (a b:Nat):AIns:=qO a (.nlc false (.s b))
abbrev vA (a:Nat):AIns:=qO a (.mv (qC (-1)))
abbrev vB (a b:Nat)(c d:Nat)(e f:Nat):AIns:=qO a (.mklst b c [qI 0,qI 0] d [(e,.s f)])
abbrev vC (a b c:Nat):AIns:=qO a (.mkfn (.func b) [] [.s c])
abbrev vD (a b c:Nat):AIns:=qN a b (qg c)
abbrev vE (a b c:Nat):AIns:=qN a b (qP c)
abbrev vF (a b:Nat):AIns:=qO a (.bin .eql (.s b) (qC (-1)))
abbrev vG (a b:Nat):AIns:=qO a (.bin .eql (.s b) (.c (.int .u64 0)))
abbrev vH (a b c:Nat):AIns:=qO a (.px (.bit .shr (.s b) (.s c)))
abbrev vI (a b c:Nat):AIns:=qO a (.px (.bit .shl (.s b) (.s c)))
abbrev vJ (a b:Nat)(c d e:Nat):AIns:=qT a b (.qcall c [.s d,.s e])
abbrev vK (a b:Nat)(c d e:Nat):AIns:=qO a (.aaddr b c (.s d) (.s e))
abbrev vL (a b:Nat):AIns:=qO a (.bin .mul (.s b) (.c (.int .u64 4294967296)))
abbrev vM (a b:Nat):ACode:=.cond (.s a) .skip (.exit b)
abbrev vN (a b:Nat):ACode:=.cond (.s a) (qZ b) .skip
abbrev vO (a b:Nat)(c d e:Nat):ACode:=.ops [wg a b c,qV d e]
abbrev vP (a b:Nat)(c d:Nat)(e f g:Nat):ACode:=.ops [qV a b,wg c d e,qV f g]
abbrev vQ (a b:Nat)(c d:Nat)(e f:Nat):ACode:=.cond (.s a) (qS [w9 b c,qR d e f] .ret) .skip
abbrev vR (a b:Nat)(c d:Nat)(e f:Nat)(g h:Nat):ACode:=qS [qL a b c,qR d e f,qb g h] .ret
abbrev vS (a b:Nat)(c d e:Nat):ACode:=.cond (.s a) (qS [qV b c,qV d e] .ret) .skip
abbrev vT (a b:Nat)(c d:Nat):ACode:=qS [qV a b,qV c d] .ret
abbrev vU (a b:Nat):ACode:=.cond (.s a) (qS [qj b] .ret) .skip
abbrev vV (a b:Nat)(c d:Nat)(e f:Nat)(g h:Nat)(i j k:Nat):ACode:=qS [qV a b,qV c d,qy e f,qB g .lss h i] (vM j k)
abbrev vW (a b:Nat)(c d:Nat)(e f:Nat)(g h:Nat)(i j:Nat):ACode:=qS [qL a b c,qV d e,qR f g h,qV i j] .ret
abbrev vX (a b:Nat)(c d:Nat):ACode:=.cond (.s a) (qS [qj b,qb c d] .ret) .skip
abbrev vY (a b:Nat)(c d:Nat)(e f:Nat):ACode:=qS [qL a b c,qR d e f] .ret
abbrev vZ (a:Nat):ACode:=qS [wY a] .ret
abbrev v6 (a b:Nat):ACode:=.cond (.s a) (.exit b) .skip
abbrev v7 (a b:Nat)(c d:Nat)(e f:Nat)(g h:Nat)(i j k:Nat):ACode:=.cond (.s a) (vW b c d e f g h i j k) .skip
abbrev v8 (a b c:Nat):AOp:=.px (.look a (.bool false) false (.s b) (.s c))
abbrev ua (a b:Nat)(c d:Nat)(e f:Nat)(g h i:Nat):ACode:=.cond (.s a) (vR b c d e f g h i) .skip
abbrev ub (a:Nat):AOp:=.bin .eql (.s a) (.c (.str [46,99]))
abbrev uc (a:Nat):AOp:=.bin .neq (.s a) (.c (.str []))
abbrev ud (a:Nat):AOp:=.bin .gtr (.s a) (.c (.int .u64 9223372036854775807))
abbrev ue (a b:Nat)(c d:Nat)(e f:Nat)(g h:Nat)(i j:Nat)(k l m:Nat):ACode:=qS [qV a b,qy c d,qV e f,qy g h,qB i .neq j k] (vN l m)
theorem hmix : Tryz.prog.follows .mixedOrders = true := by kernel_rfl
abbrev zkT:Nat:=7
def zgc:AFunc:=⟨80,[(0,none)],qS [qq 0] (qS [qO 10 (.call 9 [qC 2000]),qV 9 10,qE 11 9 0,qE 12 9 1,qk 1 33,qR 10 1 11,qV 2 12] (qS [qL 14 10 1,qO 15 (.qcall 17 []),qO 16 (.build [qI 0,qI 0,qI 0,qI 0] [(0,1,qC 100),(1,1,qC 5),(2,1,qC 101)]),qO 17 (.mklst 91 4 [qI 0,qI 0,qI 0,qI 0] 1 [(0,.s 16)]),qO 18 (.qcall 28 [.s 14,.c (.str [97]),.s 15,.s 17]),qV 13 18,qE 19 13 0,qE 20 13 1,qR 10 1 19,qV 3 20] (qS [qL 22 10 1,qO 23 (.call 19 [.s 22,.c (.str [97])]),qV 21 23,qE 24 21 0,qE 25 21 1,qR 10 1 24,qV 4 25] (qS [qL 27 10 1,qO 28 (.call 13 [.s 27,.c (.str [97])]),qV 26 28,qE 29 26 0,qE 30 26 1,wc 5 57,qR 11 5 29,qV 6 30] (qS [qF 32 0 1,qL 33 6 32,qf 34 20 33,qV 31 34,qE 35 31 0,qE 36 31 1,qV 7 35,qV 8 36] (qS [qV 37 2,wQ 38 37 0,qV 39 38,q8 39 40 3,qT 39 41 (qW 40 0),wm 42 39 41,qV 43 42,q8 43 44 4,qT 43 45 (qW 44 0),wm 46 43 45,qV 47 46,q8 47 48 6,qT 47 49 (qW 48 0),wm 50 47 49,qV 51 50,q8 51 52 8,qT 51 53 (qW 52 0),wm 54 51 53,qV 55 54,q8 55 56 7,qT 55 57 (qP 56),qT 55 58 (qW 57 1),wm 59 55 58,qV 60 59,q8 60 61 7,qT 60 62 (.iaddr 1 (.s 61) (qC 0)),wC 60 63 1 62,qT 60 64 (.bin .eql (.s 63) (.c (.str [49,46,50,46,99]))),wm 65 60 64,qV 66 65,wv 66 67 8 5,wC 66 68 1 67,qT 66 69 (qW 68 2),wm 70 66 69,qV 71 70,wv 71 72 5 5,wG 71 73 3 72,qT 71 74 (.qcall 17 []),qT 71 75 (.build [qI 0,qI 0,qI 0,qI 0] [(0,1,qC 100),(1,1,qC 5),(2,1,qC 101)]),qT 71 76 (.mklst 91 4 [qI 0,qI 0,qI 0,qI 0] 1 [(0,.s 75)]),vJ 71 77 16 74 76,vJ 71 78 15 73 77,wm 79 71 78,qV 0 79] .ret))))))⟩
theorem zkD:zae Tryz.prog loud 7=some zgc:=by kernel_rfl
abbrev zkV:Nat:=8
def zge:AFunc:=⟨32,[(2,none)],qS [qq 2] (qS [qV 5 0,qy 6 5,qV 3 6] (.seq (qS [qb 4 0] (.block 0 (.loop (.seq (qS [qV 7 4,qV 8 0,qy 9 8,qB 10 .lss 7 9,qV 11 10,q8 11 12 3,ww 11 13 12 300,wm 14 11 13] (vM 14 0)) (.seq (.block 1 (.ops [qV 17 3,qV 18 0,qV 19 4,qw 20 3 18 19,qF 21 2 20,qK 22 1 21,qy 23 22,qB 24 .add 17 23,qV 3 24])) (vP 15 4 16 15 1 4 16)))))) (qS [qV 25 3,wK 26 25 300,qV 27 26,qz 27 28 0,vE 27 29 28,wz 27 30 29 60,we 31 27 30,qV 2 31] .ret)))⟩
theorem zk6:zae Tryz.prog loud 8=some zge:=by kernel_rfl
abbrev zww:Nat:=9
def zoX:AFunc:=⟨17,[(2,some (true,10)),(3,none)],qS [qk 2 33,qb 3 0] (qS [qV 7 0,qf 8 29 7,qV 6 8,qE 9 6 0,qE 10 6 1,qp 4 30,qR 6 4 9,qV 5 10] (.seq (qS [qV 11 5,qo 12 11 0] (.cond (.s 12) (qS [qO 13 (.build [qI 0,.nils,.nils,.nils,.nils,qI 0,.nils,qI 0,qI 0,.bool false] []),qV 14 5,qR 10 2 13,qV 3 14] .ret) .skip)) (qS [qL 15 6 4,qO 16 (.build [qI 0,.nils,.nils,.nils,.nils,qI 0,.nils,qI 0,qI 0,.bool false] [(0,6,.s 15),(7,1,qC 1),(8,1,qC (-1))]),qR 10 2 16,qb 3 0] .ret)))⟩
theorem zw6:zae Tryz.prog loud 9=some zoX:=by kernel_rfl
abbrev zbZ:Nat:=10
def zch:AFunc:=⟨194,[(6,some (true,10)),(7,none),(8,none)],qS [qr 4 33 1,qr 5 47 2,qk 6 33,qb 7 0,qq 8] (qS [qF 18 1 5,qK 19 1 18,qO 20 (.bin .rem (.s 19) (.c (.int .u8 4))),wW 21 20,qV 9 21] (.seq (qS [qF 22 0 5,qK 23 1 22,qO 24 (.bin .rem (.s 23) (.c (.int .u8 5)))] (.block 0 (qS [qO 26 (.bin .eql (.s 24) (.c (.int .u8 3))),qV 25 26] (.cond (.s 25) (qS [qL 28 10 4,qF 29 1 5,qK 30 1 29,wk 31 14 30,wM 32 27 28 31,qV 27 32,qE 33 27 0,qE 34 27 1,qk 10 33,qR 10 10 33,qV 11 34] (.seq (qS [qV 35 11,wQ 36 35 0] (.cond (.s 36) (.ops [qV 37 0,qV 38 9,qV 39 0,qV 40 9,qu 41 39,qF 42 0 41,vK 43 4 1 42 40,qK 44 1 43,qy 45 44,qu 46 37,qF 47 4 46,vK 48 4 1 47 38,qR 1 48 45]) .skip)) (qS [qL 49 10 10,qV 50 11,qV 51 11,wQ 52 51 0,qV 53 52,qz 53 54 11,qN 53 55 (qW 54 22),we 56 53 55,qV 57 56,qz 57 58 11,qN 57 59 (qW 58 15),qz 57 60 59,q8 60 61 0,q8 60 62 9,qT 60 63 (.nilck (.s 61)),wv 60 64 0 63,qT 60 65 (.aaddr 4 1 (.s 64) (.s 62)),wC 60 66 1 65,qT 60 67 (qP 66),qT 60 68 (qW 67 0),qN 57 69 (qA 60 68),qz 57 70 69,wG 70 71 10 10,wG 70 72 10 4,vJ 70 73 30 71 72,qN 57 74 (qA 70 73),we 75 57 74,qR 10 6 49,qV 7 50,qV 8 75] .ret))) (qS [qO 77 (.bin .eql (.s 24) (.c (.int .u8 4))),qV 76 77] (.cond (.s 76) (qS [qL 79 10 4,qF 80 1 5,qK 81 1 80,wk 82 14 81,wM 83 19 79 82,qV 78 83,qE 84 78 0,qE 85 78 1,qk 12 33,qR 10 12 84,qV 13 85] (.seq (qS [qV 86 13,wQ 87 86 0] (.cond (.s 87) (.ops [qV 88 0,qV 89 9,qV 90 0,qV 91 9,qu 92 90,qF 93 0 92,vK 94 4 1 93 91,qK 95 1 94,qy 96 95,qu 97 88,qF 98 4 97,vK 99 4 1 98 89,qR 1 99 96]) .skip)) (qS [qL 100 10 12,qV 101 13,qV 102 13,wQ 103 102 0,qV 104 103,qz 104 105 13,qN 104 106 (qW 105 22),we 107 104 106,qV 108 107,qz 108 109 13,qN 108 110 (qW 109 6),qz 108 111 110,wG 111 112 10 12,wG 111 113 10 4,vJ 111 114 30 112 113,qN 108 115 (qA 111 114),we 116 108 115,qV 117 116,qz 117 118 13,qN 117 119 (qW 118 15),qz 117 120 119,q8 120 121 0,q8 120 122 9,qT 120 123 (.nilck (.s 121)),wv 120 124 0 123,qT 120 125 (.aaddr 4 1 (.s 124) (.s 122)),wC 120 126 1 125,qT 120 127 (qP 126),qT 120 128 (qW 127 0),qN 117 129 (qA 120 128),qz 117 130 129,wG 130 131 10 12,wG 130 132 10 4,vJ 130 133 30 131 132,qN 117 134 (qA 130 133),we 135 117 134,qR 10 6 100,qV 7 101,qV 8 135] .ret))) .skip)))))) (qS [qV 136 0,qL 137 3 5,qe 138 31 136 137,qV 14 138] (qS [qL 140 10 4,qF 141 1 5,qK 142 1 141,wk 143 14 142,qO 144 (.qcall 17 []),qV 145 14,qO 146 (.qcall 28 [.s 140,.s 143,.s 144,.s 145]),qV 139 146,qE 147 139 0,qE 148 139 1,qk 15 33,qR 10 15 147,qV 16 148] (qS [qV 149 0,qV 150 9,qV 151 14,wo 152 32 149 150 151,qV 17 152] (.seq (qS [qV 153 16] (.block 1 (.seq (qS [wQ 155 153 0,qV 154 155] (.cond (.s 154) .skip (.ops [wQ 156 153 22,qV 154 156]))) (.cond (.s 154) (qS [qV 157 0,qV 158 9,qV 160 0,qV 161 9,qu 162 160,qF 163 0 162,vK 164 4 1 163 161,qK 165 1 164,qV 167 14,qu 169 157,qF 170 0 169,qO 159 (.mkrow 91 4 [qI 0,qI 0,qI 0,qI 0] 0 []),vp 166 91 4 32 159 165,vp 168 91 4 32 166 167,vK 171 4 1 170 158,qR 1 171 168] (qS [qL 172 10 15,qV 173 16,qV 174 17,qR 10 6 172,qV 7 173,qV 8 174] .ret)) (qS [wQ 176 153 6,qV 175 176] (.cond (.s 175) (qS [qL 177 10 15,qV 178 16,qV 179 17,qV 180 179,wG 180 181 10 15,wG 180 182 10 4,vJ 180 183 30 181 182,wm 184 180 183,qR 10 6 177,qV 7 178,qV 8 184] .ret) .skip)))))) (qS [qL 185 10 15,qV 186 16,qV 187 17,wB 188 187,qV 189 188,wG 189 190 10 15,wG 189 191 10 4,vJ 189 192 30 190 191,wm 193 189 192,qR 10 6 185,qV 7 186,qV 8 193] .ret)))))))⟩
theorem zcU:zae Tryz.prog loud 10=some zch:=by kernel_rfl
abbrev zwf:Nat:=11
def zpe:AFunc:=⟨20,[(2,none)],qS [qr 1 30 0,qb 2 0] (qS [qb 3 0] (.seq (qS [qF 6 1 1,qK 7 1 6,qy 8 7,qb 9 0] (.block 0 (.loop (qS [qB 10 .lss 9 8] (.seq (vM 10 0) (.seq (.block 1 (qS [qw 11 3 7 9,qL 12 3 11,wa 5 97,qR 3 5 12] (.ops [qV 13 3,qF 14 1 5,qK 15 1 14,qy 16 15,qB 17 .add 13 16,qV 3 17]))) (vO 18 9 1 9 18))))))) (vT 19 3 2 19)))⟩
theorem zxa:zae Tryz.prog loud 11=some zpe:=by kernel_rfl
abbrev zvF:Nat:=12
def zoa:AFunc:=⟨135,[(2,none)],qS [qr 1 30 0,qq 2] (.seq (.block 0 (qS [qF 13 0 1,qK 14 1 13,qx 15 14 0,qV 16 15,wq 16 17 0 1,wr 16 18 1 17,wz 16 19 18 1073741824,we 20 16 19,qV 21 20,wq 21 22 5 1,wr 21 23 1 22,vt 21 24 23 1,we 25 21 24,qV 26 25,wq 26 27 5 1,wr 26 28 1 27,wz 26 29 28 1099511627776,we 30 26 29,qV 12 30] (.cond (.s 12) (qZ 2) (qS [qF 32 1 1,qK 33 1 32,qy 34 33,wK 35 34 256,qV 36 35,wq 36 37 3 1,wr 36 38 1 37,vE 36 39 38,wz 36 40 39 256,we 41 36 40,qV 42 41,wq 42 43 3 1,wr 42 44 1 43,wV 42 45 33 44,vD 42 46 45,we 47 42 46,qV 48 47,w8 48 49 6 1,wV 48 50 34 49,vD 48 51 50,we 52 48 51,qV 31 52] (vN 31 2))))) (qS [qO 53 (.ex .mkmap),qV 3 53] (.seq (qS [qF 54 3 1,qK 55 1 54,qy 56 55,qb 57 0] (.block 1 (.loop (qS [qB 58 .lss 57 56] (.seq (vM 58 1) (.seq (.block 2 (qS [qw 59 2 55 57,qL 60 2 59,qO 5 (.alloc 101 [.str [],qI 0]),qR 2 5 60] (.ops [qV 61 3,qF 62 1 5,qK 63 1 62,⟨none,none,.ex (.mset 0 (.s 61) (.s 63) qY)⟩]))) (vO 64 57 1 57 64))))))) (qS [qF 65 3 1,qK 66 1 65,qV 6 66] (.seq (qS [qF 67 4 1,qK 68 1 67,qy 69 68,qb 70 0] (.block 3 (.loop (qS [qB 71 .lss 70 69] (.seq (vM 71 3) (.seq (.block 4 (qS [qw 72 4 68 70,qL 73 4 72,qO 8 (.alloc 103 [qI 0,.str [],.str [],qI 0]),qR 4 8 73] (.seq (qS [qF 74 0 8,qK 75 1 74,wQ 76 75 1,qV 77 76,q8 77 78 3,wv 77 79 3 8,wC 77 80 1 79,qT 77 81 (v8 0 78 80),wm 82 77 81] (vN 82 2)) (qS [qq 9] (.seq (qS [qV 84 6,qL 85 4 8,qe 86 35 84 85,qV 83 86,qE 87 83 0,qE 88 83 1,qV 6 87,qV 9 88] (qS [qV 89 9,wB 90 89] (vN 90 2))) (.seq (qS [qF 91 0 8,qK 92 1 91,wQ 93 92 1] (.cond (.s 93) (.ops [qV 94 3,qF 95 3 8,qK 96 1 95,⟨none,none,.ex (.mset 0 (.s 94) (.s 96) qY)⟩]) .skip)) (qS [qV 97 3,qO 98 (.px (.mlen (.s 97))),qF 99 1 1,qK 100 1 99,qy 101 100,qB 102 .gtr 98 101] (vN 102 2)))))))) (vO 103 70 1 70 103))))))) (.seq (qS [qV 104 6,qF 105 2 1,qK 106 1 105,qe 107 36 104 106,wB 108 107,qV 109 108,qz 109 110 3,qN 109 111 (.px (.mlen (.s 110))),wq 109 112 1 1,wr 109 113 1 112,vE 109 114 113,vk 109 115 111 114,we 116 109 115] (vN 116 2)) (.seq (qS [qF 117 1 1,qK 118 1 117,qy 119 118,qb 120 0] (.block 5 (.loop (qS [qB 121 .lss 120 119] (.seq (vM 121 5) (.seq (.block 6 (qS [qw 122 3 118 120,qL 123 3 122,wa 11 97,qR 3 11 123] (qS [qV 124 3,qF 125 0 11,qK 126 1 125,qO 127 (v8 0 124 126),wB 128 127] (vN 128 2)))) (vO 129 120 1 120 129))))))) (qS [qL 130 6 1,wk 131 11 130,qF 132 0 1,qK 133 1 132,qB 134 .leq 131 133,qV 2 134] .ret))))))))⟩
theorem zvu:zae Tryz.prog loud 12=some zoa:=by kernel_rfl
abbrev ziD:Nat:=13
def zit:AFunc:=⟨25,[(4,some (true,11)),(5,none)],qS [qr 2 33 0,wc 4 57,qb 5 0] (.seq (qS [qF 8 9 2,qK 9 1 8] (.cond (.s 9) (qS [wX 10,qR 11 4 10,qb 5 22] .ret) .skip)) (qS [qL 12 10 2,qV 13 1,qe 14 37 12 13,qV 11 14,qE 15 11 0,qE 16 11 1,qV 6 15,qV 7 16] (.seq (qS [qV 17 7,wB 18 17] (.cond (.s 18) (qS [wX 19,qR 11 4 19,qb 5 15] .ret) .skip)) (qS [qF 20 6 2,qK 21 1 20,qV 22 6,qw 23 11 21 22,qL 24 11 23,qR 11 4 24,qb 5 0] .ret))))⟩
theorem zoe:zae Tryz.prog loud 13=some zit:=by kernel_rfl
abbrev zmc:Nat:=14
def zgt:AFunc:=⟨7,[(2,none)],qS [qO 2 (.mv (.c (.str [])))] (qS [qO 3 (.build [.str [],.str [],.str [],.str []] [(0,1,.c (.str [97])),(1,1,.c (.str [98])),(2,1,.c (.str [97,46,99])),(3,1,.c (.str [100,46,101,46,102]))]),qV 4 0,qO 5 (.bin .rem (.s 4) (.c (.int .u8 4))),qO 6 (.aidx 4 1 false (.s 3) (.s 5)),qV 2 6] .ret)⟩
theorem zlD:zae Tryz.prog loud 14=some zgt:=by kernel_rfl
abbrev zli:Nat:=15
def zgq:AFunc:=⟨46,[(4,none)],qS [qr 2 55 0,qr 3 55 1,qq 4] (.seq (qS [qF 6 0 2,qK 7 1 6,qF 8 0 3,qK 9 1 8,qB 10 .neq 7 9,qV 11 10,wq 11 12 1 2,wr 11 13 1 12,wq 11 14 1 3,wr 11 15 1 14,vk 11 16 13 15,we 17 11 16,qV 18 17,wq 18 19 2 2,wr 18 20 1 19,vE 18 21 20,wq 18 22 2 3,wr 18 23 1 22,vE 18 24 23,vk 18 25 21 24,we 26 18 25] (vN 26 4)) (.seq (qS [qb 5 0] (.block 0 (.loop (.seq (qS [qV 27 5,qF 28 2 2,qK 29 1 28,qy 30 29,qB 31 .lss 27 30] (vM 31 0)) (.seq (.block 1 (qS [qF 34 2 2,qK 35 1 34,qV 36 5,qw 37 2 35 36,qL 38 2 37,qF 39 2 3,qK 40 1 39,qV 41 5,qw 42 2 40 41,qL 43 2 42,wM 44 38 38 43,wB 45 44] (vN 45 4))) (vP 32 5 33 32 1 5 33)))))) (vZ 4)))⟩
theorem zmq:zae Tryz.prog loud 15=some zgq:=by kernel_rfl
abbrev zlw:Nat:=16
def zgv:AFunc:=⟨42,[(4,some (true,3))],qS [qr 2 52 0,wd 4 55] (qS [qL 12 3 2,qf 13 39 12,qV 11 13,qE 14 11 0,qE 15 11 1,wd 5 55,qR 3 5 14,qV 6 15] (.seq (qS [qb 7 0] (.block 0 (.loop (.seq (vV 16 7 17 1 18 17 19 16 18 19 0) (.seq (.block 1 (qS [qV 22 1,qV 23 7,qw 24 4 22 23,qL 25 4 24,qO 8 (.alloc 91 [qI 0,qI 0,qI 0,qI 0]),qR 4 8 25] (qS [qL 27 3 5,qF 28 0 8,qK 29 1 28,qF 30 1 8,qK 31 1 30,wR 32 0 1 29 1 1 31,qF 33 2 8,qK 34 1 33,wo 35 40 27 32 34,qV 26 35,qE 36 26 0,qE 37 26 1,wd 9 55,qR 3 9 36,qV 10 37] (qS [qV 38 10,wQ 39 38 0] (.cond (.s 39) (.ops [qL 40 3 9,qR 3 5 40]) .skip))))) (vP 20 7 21 20 1 7 21)))))) (vY 41 3 5 3 4 41)))⟩
theorem zmf:zae Tryz.prog loud 16=some zgv:=by kernel_rfl
abbrev zkO:Nat:=17
def zgb:AFunc:=⟨5,[(0,some (true,3))],qS [qO 0 (.alloc 52 [.nils,qI 0,qI 0])] (qS [qO 1 (.build [qI 0,qI 0] [(0,1,qC 10),(1,1,qC 6)]),qO 2 (.build [qI 0,qI 0] [(0,1,qC 60),(1,1,qC 5)]),qO 3 (.mklst 119 2 [qI 0,qI 0] 2 [(0,.s 1),(1,.s 2)]),qO 4 (.build [.nils,qI 0,qI 0] [(0,1,.s 3),(1,1,qC 1),(2,1,qC 500000)]),qR 3 0 4] .ret)⟩
theorem zkS:zae Tryz.prog loud 17=some zgb:=by kernel_rfl
abbrev zhi:Nat:=18
def zdL:AFunc:=⟨24,[(4,none)],qS [qr 2 52 0,qr 3 52 1,qq 4] (qS [qF 5 0 2,qK 6 1 5,qF 7 0 3,qK 8 1 7,qe 9 41 6 8,qV 10 9,wv 10 11 1 2,wC 10 12 1 11,wv 10 13 1 3,wC 10 14 1 13,wS 10 15 12 14,wm 16 10 15,qV 17 16,wv 17 18 2 2,wC 17 19 1 18,wv 17 20 2 3,wC 17 21 1 20,wS 17 22 19 21,wm 23 17 22,qV 4 23] .ret)⟩
theorem zhp:zae Tryz.prog loud 18=some zdL:=by kernel_rfl
abbrev zpS:Nat:=19
def zja:AFunc:=⟨126,[(4,some (true,10)),(5,none)],qS [qr 2 33 0,qk 4 33,qb 5 0] (qS [qL 17 10 2,qV 18 1,qe 19 13 17 18,qV 16 19,qE 20 16 0,qE 21 16 1,wc 6 57,qR 11 6 20,qV 7 21] (.seq (qS [qV 22 7,qo 23 22 0] (v7 23 24 10 2 25 7 10 4 24 5 25)) (qS [qL 27 11 6,wk 28 43 27,qF 29 5 6,qL 30 3 29,wk 31 44 30,wM 32 42 28 31,qV 26 32,qE 33 26 0,qE 34 26 1,qV 8 33,qV 7 34] (.seq (qS [qV 35 7,qo 36 35 0] (v7 36 37 10 2 38 7 10 4 37 5 38)) (.seq (qS [qF 39 0 2,qL 40 6 39,qV 41 8,qy 42 41,qO 43 (.call 45 [.s 40,.s 42,.c (.bool true)]),qV 9 43] (qS [qV 44 9,qo 45 44 0] (v7 45 46 10 2 47 9 10 4 46 5 47))) (qS [qL 48 10 2,wT 49 0 10 48,qr 50 127 49,qV 10 50] (.seq (qS [qF 51 9 6,qK 52 1 51,wK 53 52 0] (.cond (.s 53) (.ops [qV 54 10,qF 55 0 6,qK 56 1 55,qF 57 9 6,qK 58 1 57,vw 59 47 56 58,qe 60 46 54 59]) .skip)) (qS [qF 61 8 6,qK 62 1 61,qF 63 9 6,qK 64 1 63,qO 65 (.mm true (.s 62) (.s 64)),wg 66 65 1,qV 11 66] (qS [qF 67 0 6,qK 68 1 67,qV 69 11,qO 70 (.qcall 47 [.s 68,.s 69,.c (.str [46,116])]),qF 71 0 6,qK 72 1 71,qV 73 11,qO 74 (.qcall 47 [.s 72,.s 73,.c (.str [46,99])]),qV 12 70,qV 13 74] (qS [qV 75 10,qV 76 12,qe 77 48 75 76] (qS [qV 78 10,qV 79 12,qV 80 8,wo 81 49 78 79 80] (qS [qV 82 10,qV 83 12,qe 84 46 82 83] (qS [qV 85 10,qV 86 12,qV 87 13,wo 88 50 85 86 87] (qS [qV 89 10,qf 90 51 89] (.seq (qS [qV 91 10,qu 92 91,qF 93 10 92,qK 94 1 93,wQ 95 94 0] (.cond (.s 95) (qS [qV 96 10,qu 97 96,qF 98 0 97,qF 99 0 98,qL 100 6 99,qF 101 0 6,qK 102 1 101,qV 103 13,vr 104 52 100 102 103,qy 105 104,qb 106 0] (.block 0 (.loop (qS [qB 107 .lss 106 105] (.seq (vM 107 0) (.seq (.block 1 (qS [qw 108 1 104 106,qK 109 1 108,qV 15 109] (.ops [qV 110 10,qV 111 15,qe 112 53 110 111]))) (vO 113 106 1 106 113))))))) .skip)) (qS [qV 114 10,qf 115 51 114] (qS [qV 116 11,qF 117 8 6,qR 1 117 116,qF 118 9 6,⟨none,none,.store 1 (.s 118) (qC 0)⟩,qF 119 10 6,⟨none,none,.store 1 (.s 119) (qC 0)⟩] (qS [qV 120 10,qL 121 10 2,qL 122 11 6,wo 123 54 120 121 122,qE 124 123 0,qE 125 123 1,qR 10 4 124,qV 5 125] .ret))))))))))))))))))⟩
theorem zpQ:zae Tryz.prog loud 19=some zja:=by kernel_rfl
abbrev zxk:Nat:=20
def zoU:AFunc:=⟨29,[(2,none),(3,none)],qS [qr 1 30 0,qj 2,qb 3 0] (.seq (qS [qL 7 6 1,qf 8 12 7,wB 9 8] (vX 9 2 3 1)) (qS [qF 10 2 1,qK 11 1 10,qy 12 11,qO 13 (.mkslice 9 1 16 [.str []] (.s 12) (.s 12)),qV 4 13] (.seq (qS [qF 14 2 1,qK 15 1 14,qy 16 15,qb 17 0] (.block 0 (.loop (qS [qB 18 .lss 17 16] (.seq (vM 18 0) (.seq (.block 1 (qS [qV 19 17,qw 20 2 15 17,qL 21 2 20,qO 6 (.alloc 101 [.str [],qI 0]),qV 5 19,qR 2 6 21] (.ops [qV 22 4,qV 23 5,qF 24 0 6,qK 25 1 24,qw 26 1 22 23,qR 1 26 25]))) (vO 27 17 1 17 27))))))) (qS [qV 28 4,qV 2 28,qb 3 0] .ret))))⟩
theorem zxi:zae Tryz.prog loud 20=some zoU:=by kernel_rfl
abbrev zuv:Nat:=27
def zn4:AFunc:=⟨40,[(4,some (true,10)),(5,none)],qS [qr 2 33 0,qk 4 33,qb 5 0] (qS [qL 10 10 2,qV 11 1,qe 12 13 10 11,qV 9 12,qE 13 9 0,qE 14 9 1,wc 6 57,qR 11 6 13,qV 7 14] (.seq (qS [qV 15 7,qo 16 15 0] (v7 16 17 10 2 18 7 10 4 17 5 18)) (qS [qL 19 10 2,wT 20 0 10 19,qr 21 127 20,qV 8 21] (.seq (qS [qF 22 9 6,qK 23 1 22,wK 24 23 0] (.cond (.s 24) (.ops [qV 25 8,qF 26 0 6,qK 27 1 26,qF 28 9 6,qK 29 1 28,vw 30 47 27 29,qe 31 46 25 30]) .skip)) (qS [qV 32 8,qf 33 51 32] (qS [qV 34 8,qL 35 10 2,qL 36 11 6,wo 37 54 34 35 36,qE 38 37 0,qE 39 37 1,qR 10 4 38,qV 5 39] .ret))))))⟩
theorem zvx:zae Tryz.prog loud 27=some zn4:=by kernel_rfl
abbrev zri:Nat:=28
def zjU:AFunc:=⟨156,[(8,some (true,10)),(9,none)],qS [qr 4 33 0,qr 6 52 2,qk 8 33,qb 9 0] (qS [qL 19 10 4,qV 20 1,qe 21 13 19 20,qV 18 21,qE 22 18 0,qE 23 18 1,wc 10 57,qR 11 10 22,qV 11 23] (.seq (.block 0 (qS [qV 25 11,wQ 26 25 22,qV 24 26] (.cond (.s 24) (vW 27 10 4 28 11 10 8 27 9 28) (qS [qV 30 1,qf 31 65 30,wB 32 31,qV 29 32] (.cond (.s 29) (vR 33 10 4 10 8 33 9 13) (qS [qV 35 11,wQ 36 35 15,qV 34 36] (.cond (.s 34) (qS [qL 38 10 4,qV 39 1,qL 40 3 6,wo 41 66 38 39 40,qV 37 41,qE 42 37 0,qE 43 37 1,qR 11 10 42,qV 11 43] (qS [qV 44 11,qo 45 44 0] (v7 45 46 10 4 47 11 10 8 46 9 47))) .skip))))))) (.seq (qS [qF 49 5 10,qL 50 3 49,qV 51 3,qe 52 67 50 51,qV 48 52,qE 53 48 0,qE 54 48 1,qF 55 5 10,qR 3 55 53,qV 11 54] (qS [qV 56 11,qo 57 56 0,qV 58 57,qz 58 59 3,vE 58 60 59,qN 58 61 (qW 60 0),we 62 58 61] (v7 62 63 10 4 64 11 10 8 63 9 64))) (qS [qV 66 3,qf 67 68 66,qV 65 67,qE 68 65 0,qE 69 65 1,qV 12 68,qV 11 69] (.seq (qS [qV 70 11,qo 71 70 0] (v7 71 72 10 4 73 11 10 8 72 9 73)) (qS [qF 74 9 10,qK 75 1 74,wQ 76 75 0,qV 77 76,wq 77 78 10 10,wr 77 79 1 78,qN 77 80 (.bin .geq (.s 79) (qC 16)),we 81 77 80,qV 13 81] (.seq (qS [qV 82 13] (.cond (.s 82) (qS [qL 84 11 10,qf 85 43 84,qf 86 69 85,qV 83 86,qE 87 83 0,qE 88 83 1,qV 14 87,qV 15 88] (.seq (qS [qV 89 15,qo 90 89 0] (v7 90 91 10 4 92 15 10 8 91 9 92)) (.ops [qV 93 14,qV 94 12,qO 95 (.mklst 70 1 [.nils] 2 [(0,.s 93),(1,.s 94)]),qf 96 70 95,qV 12 96]))) .skip)) (.seq (qS [qF 97 0 4,qL 98 6 97,qV 99 12,qy 100 99,qV 101 13,wo 102 45 98 100 101,qV 16 102] (qS [qV 103 16,qo 104 103 0] (v7 104 105 10 4 106 16 10 8 105 9 106))) (qS [qL 107 10 4,wT 108 0 10 107,qr 109 127 108,qV 17 109] (.seq (qS [qV 110 13] (.cond (.s 110) (.seq (qS [qF 111 9 10,qK 112 1 111,wK 113 112 0] (.cond (.s 113) (.ops [qV 114 17,qF 115 0 10,qK 116 1 115,qF 117 9 10,qK 118 1 117,vw 119 47 116 118,qe 120 46 114 119]) .skip)) (qS [qF 121 8 10,qK 122 1 121,qF 123 9 10,qK 124 1 123,qO 125 (.mm true (.s 122) (.s 124)),wg 126 125 1,qF 127 9 10,qR 1 127 126,qF 128 10 10,⟨none,none,.store 1 (.s 128) (qC 0)⟩] (.ops [qV 129 17,qF 130 0 10,qK 131 1 130,qF 132 9 10,qK 133 1 132,vw 134 47 131 133,qe 135 48 129 134]))) .skip)) (qS [qV 136 17,qF 137 0 10,qK 138 1 137,qF 139 9 10,qK 140 1 139,vw 141 47 138 140,qV 142 12,wo 143 49 136 141 142] (qS [qF 144 10 10,qK 145 1 144,qV 146 3,qy 147 146,qB 148 .add 145 147,qF 149 10 10,qR 1 149 148] (qS [qV 150 17,qL 151 10 4,qL 152 11 10,wo 153 54 150 151 152,qE 154 153 0,qE 155 153 1,qR 10 8 154,qV 9 155] .ret)))))))))))))⟩
theorem zq0:zae Tryz.prog loud 28=some zjU:=by kernel_rfl
abbrev z0r:Nat:=29
def zsl:AFunc:=⟨13,[(2,some (true,6)),(3,none)],qS [qp 2 30,qb 3 0] (.seq (qS [qV 4 0,qx 5 4 0,qV 6 5,qz 6 7 0,wz 6 8 7 1073741824,we 9 6 8] (.cond (.s 9) (qS [qO 10 (.build [qI 0,.nils,.nils,.nils,.nils,qI 0] []),qR 6 2 10,qb 3 1] .ret) .skip)) (qS [qV 11 0,qO 12 (.build [qI 0,.nils,.nils,.nils,.nils,qI 0] [(0,1,.s 11),(5,1,qC 1)]),qR 6 2 12,qb 3 0] .ret))⟩
theorem zyS:zae Tryz.prog loud 29=some zsl:=by kernel_rfl
abbrev zlo:Nat:=30
def zgu:AFunc:=⟨38,[(4,none)],qS [qr 2 33 0,qr 3 33 1,qq 4] (qS [qF 5 0 2,qL 6 6 5,qF 7 0 3,qL 8 6 7,qe 9 71 6 8,qV 10 9,wv 10 11 6 2,wC 10 12 1 11,wv 10 13 6 3,wC 10 14 1 13,qT 10 15 (.call 72 [.s 12,.s 14]),wm 16 10 15,qV 17 16,wv 17 18 7 2,wC 17 19 1 18,wv 17 20 7 3,wC 17 21 1 20,wS 17 22 19 21,wm 23 17 22,qV 24 23,wv 24 25 8 2,wC 24 26 1 25,wv 24 27 8 3,wC 24 28 1 27,wS 24 29 26 28,wm 30 24 29,qV 31 30,wv 31 32 9 2,wC 31 33 1 32,wv 31 34 9 3,wC 31 35 1 34,qT 31 36 (.beq false (.s 33) (.s 35)),wm 37 31 36,qV 4 37] .ret)⟩
theorem zlQ:zae Tryz.prog loud 30=some zgu:=by kernel_rfl
abbrev zgF:Nat:=31
def zd4:AFunc:=⟨57,[(4,none)],qS [qr 3 47 1,qj 4] (qS [qj 5] (.seq (qS [qb 6 0] (.block 0 (.loop (.seq (qS [qV 7 6,qF 8 2 3,qK 9 1 8,qy 10 9,qB 11 .lss 7 10] (vM 11 0)) (.seq (.block 1 (qS [qV 14 0,qu 15 14,qF 16 8 15,qK 17 1 16,qF 18 2 3,qK 19 1 18,qV 20 6,qw 21 3 19 20,qF 22 1 21,qK 23 1 22,wW 24 23,qO 25 (.bin .rem (.s 24) (qC 30)),qB 26 .add 17 25,qu 27 14,qF 28 8 27,qR 1 28 26] (.ops [qV 29 5,qV 30 0,qu 31 30,qF 32 8 31,qK 33 1 32,qF 34 2 3,qK 35 1 34,qV 36 6,qw 37 3 35 36,qF 38 0 37,qK 39 1 38,wW 40 39,qO 41 (.bin .rem (.s 40) (qC 80)),qB 42 .sub 33 41,qF 43 2 3,qK 44 1 43,qV 45 6,qw 46 3 44 45,qF 47 2 46,qK 48 1 47,qV 49 0,qu 50 49,qF 51 8 50,qK 52 1 51,qO 53 (.build [qI 0,qI 0,qI 0,qI 0] [(0,1,.s 42),(1,1,.s 48),(2,1,.s 52)]),qO 54 (.mklst 91 4 [qI 0,qI 0,qI 0,qI 0] 1 [(0,.s 53)]),vp 55 91 4 32 29 54,qV 5 55]))) (vP 12 6 13 12 1 6 13)))))) (vT 56 5 4 56)))⟩
theorem zgK:zae Tryz.prog loud 31=some zd4:=by kernel_rfl
abbrev zga:Nat:=32
def zcS:AFunc:=⟨49,[(6,none)],qS [qq 6] (qS [qO 11 (.qcall 17 []),qV 12 0,qV 13 1,qu 14 12,qF 15 0 14,vK 16 4 1 15 13,qK 17 1 16,wM 18 16 11 17,wd 7 55,qR 3 7 18] (.seq (qS [qb 8 0] (.block 0 (.loop (.seq (vV 19 8 20 2 21 20 22 19 21 22 0) (.seq (.block 1 (qS [qL 26 3 7,qV 27 2,qV 28 8,qw 29 4 27 28,qF 30 0 29,qK 31 1 30,qV 32 2,qV 33 8,qw 34 4 32 33,qF 35 1 34,qK 36 1 35,wR 37 0 1 31 1 1 36,qV 38 2,qV 39 8,qw 40 4 38 39,qF 41 2 40,qK 42 1 41,vr 43 40 26 37 42,qV 25 43,qE 44 25 0,qE 45 25 1,wd 9 55,qR 3 9 44,qV 10 45] (.seq (qS [qV 46 10,qo 47 46 0] (vN 47 6)) (.ops [qL 48 3 9,qR 3 7 48])))) (vP 23 8 24 23 1 8 24)))))) (vZ 6)))⟩
theorem zfR:zae Tryz.prog loud 32=some zcS:=by kernel_rfl
abbrev zt4:Nat:=33
def zls:AFunc:=⟨43,[(2,none)],qS [qq 2] (qS [qO 6 (.ex .mkmap),qV 3 6] (.seq (qS [qV 7 0,qy 8 7,qb 9 0] (.block 0 (.loop (qS [qB 10 .lss 9 8] (.seq (vM 10 0) (.seq (.block 1 (qS [qV 11 9,qw 12 2 7 9,qL 13 2 12,qO 5 (.alloc 101 [.str [],qI 0]),qV 4 11,qR 2 5 13] (.seq (qS [qF 14 0 5,qK 15 1 14,wk 16 73 15,wB 17 16,qV 18 17,qz 18 19 3,wq 18 20 1 5,wr 18 21 1 20,qN 18 22 (v8 0 19 21),we 23 18 22,qV 24 23,qz 24 25 4,wz 24 26 25 0,qz 24 27 26,q8 27 28 0,q8 27 29 4,qT 27 30 (.bin .sub (.s 29) (qC 1)),qT 27 31 (qJ 2 28 30),wv 27 32 0 31,wC 27 33 1 32,wv 27 34 0 5,wC 27 35 1 34,qT 27 36 (.bin .geq (.s 33) (.s 35)),qN 24 37 (qA 27 36),we 38 24 37] (vN 38 2)) (.ops [qV 39 3,qF 40 1 5,qK 41 1 40,⟨none,none,.ex (.mset 0 (.s 39) (.s 41) qY)⟩])))) (vO 42 9 1 9 42))))))) (vZ 2)))⟩
theorem zsF:zae Tryz.prog loud 33=some zls:=by kernel_rfl
abbrev zuK:Nat:=34
def znD:AFunc:=⟨53,[(2,none)],qS [qr 1 30 0,qq 2] (.seq (qS [qF 5 1 1,qK 6 1 5,qy 7 6,qb 8 0] (.block 0 (.loop (qS [qB 9 .lss 8 7] (.seq (vM 9 0) (.seq (.block 1 (qS [qV 10 8,qw 11 3 6 8,qL 12 3 11,wa 4 97,qV 3 10,qR 3 4 12] (qS [qF 13 0 4,qK 14 1 13,qx 15 14 1,qV 16 15,wq 16 17 0 4,wr 16 18 1 17,wq 16 19 5 1,wr 16 20 1 19,qN 16 21 (.bin .geq (.s 18) (.s 20)),we 22 16 21,qV 23 22,wq 23 24 2 4,wr 23 25 1 24,vt 23 26 25 0,we 27 23 26,qV 28 27,wq 28 29 2 4,wr 28 30 1 29,wq 28 31 1 4,wr 28 32 1 31,vE 28 33 32,qN 28 34 (.bin .gtr (.s 30) (.s 33)),we 35 28 34,qV 36 35,qz 36 37 3,wz 36 38 37 0,qz 36 39 38,wv 39 40 1 1,wC 39 41 1 40,q8 39 42 3,qT 39 43 (.bin .sub (.s 42) (qC 1)),qT 39 44 (qJ 3 41 43),wv 39 45 0 44,wC 39 46 1 45,wv 39 47 0 4,wC 39 48 1 47,qT 39 49 (.bin .geq (.s 46) (.s 48)),qN 36 50 (qA 39 49),we 51 36 50] (vN 51 2)))) (vO 52 8 1 8 52))))))) (vZ 2))⟩
theorem zu7:zae Tryz.prog loud 34=some znD:=by kernel_rfl
abbrev zxy:Nat:=35
def zpH:AFunc:=⟨95,[(4,none),(5,none)],qS [qr 3 103 1,qj 4,qq 5] (qS [qV 9 0,qF 10 1 3,qK 11 1 10,qe 12 74 9 11,qV 8 12,qE 13 8 0,qE 14 8 1,qV 6 13,qV 7 14] (.seq (qS [qF 15 1 3,qK 16 1 15,qf 17 73 16,wB 18 17] (.cond (.s 18) (qS [qj 4,qq 5] .ret) .skip)) (.seq (qS [qF 19 0 3,qK 20 1 19] (.block 0 (qS [wQ 22 20 1,qV 21 22] (.cond (.s 21) (.seq (qS [qV 23 7,qV 24 23,wq 24 25 2 3,wr 24 26 1 25,qN 24 27 (uc 26),we 28 24 27,qV 29 28,wq 29 30 3 3,wr 29 31 1 30,vt 29 32 31 1,we 33 29 32] (.cond (.s 33) (qS [qj 4,qq 5] .ret) .skip)) (qS [qV 34 0,qF 35 1 3,qK 36 1 35,qF 37 3 3,qK 38 1 37,wo 39 75 34 36 38,qV 4 39,wY 5] .ret)) (qS [wQ 41 20 2,qV 40 41] (.cond (.s 40) (.seq (qS [qV 42 7,wB 43 42,qV 44 43,wq 44 45 2 3,wr 44 46 1 45,qN 44 47 (uc 46),we 48 44 47,qV 49 48,wq 49 50 3 3,wr 49 51 1 50,vi 49 52 51 0,we 53 49 52] (.cond (.s 53) (qS [qj 4,qq 5] .ret) .skip)) (qS [qV 54 0,qF 55 1 3,qK 56 1 55,qe 57 76 54 56,qV 4 57,wY 5] .ret)) (qS [wQ 59 20 3,qV 58 59] (.cond (.s 58) (.seq (qS [qV 60 7,wB 61 60,qV 62 61,wq 62 63 2 3,wr 62 64 1 63,wV 62 65 73 64,vD 62 66 65,we 67 62 66,qV 68 67,wq 68 69 2 3,wr 68 70 1 69,wq 68 71 1 3,wr 68 72 1 71,qN 68 73 (.bin .eql (.s 70) (.s 72)),we 74 68 73,qV 75 74,wq 75 76 3 3,wr 75 77 1 76,vi 75 78 77 0,we 79 75 78] (.cond (.s 79) (qS [qj 4,qq 5] .ret) .skip)) (qS [qV 80 0,qF 81 1 3,qK 82 1 81,wM 83 76 80 82,qF 84 2 3,qK 85 1 84,wM 86 76 83 85,qF 87 2 3,qK 88 1 87,qV 89 0,qV 90 6,qw 91 2 89 90,qF 92 1 91,qK 93 1 92,vr 94 75 86 88 93,qV 4 94,wY 5] .ret)) .skip)))))))) (qS [qj 4,qq 5] .ret))))⟩
theorem zx2:zae Tryz.prog loud 35=some zpH:=by kernel_rfl
abbrev ze1:Nat:=36
def zcw:AFunc:=⟨26,[(4,none)],qS [qq 4] (.seq (ue 6 0 7 6 8 1 9 8 10 7 9 10 4) (.seq (qS [qV 11 0,qy 12 11,qb 13 0] (.block 0 (.loop (qS [qB 14 .lss 13 12] (.seq (vM 14 0) (.seq (.block 1 (qS [qV 15 13,qV 5 15] (qS [qV 16 0,qV 17 5,qw 18 2 16 17,qL 19 2 18,qV 20 1,qV 21 5,qw 22 2 20 21,qL 23 2 22,qO 24 (.eqs true [1,0] (.s 19) (.s 23))] (vN 24 4)))) (vO 25 13 1 13 25))))))) (vZ 4)))⟩
theorem zeu:zae Tryz.prog loud 36=some zcw:=by kernel_rfl
abbrev zsD:Nat:=37
def zln:AFunc:=⟨12,[(4,none),(5,none)],qS [qr 2 33 0,qb 4 0,qq 5] (qS [qF 6 6 2,qK 7 1 6,qV 8 1,qO 9 (.call 77 [.s 7,.s 8,.c (.fn (.func 78) [] [])]),qE 10 9 0,qE 11 9 1,qV 4 10,qV 5 11] .ret)⟩
theorem zst:zae Tryz.prog loud 37=some zln:=by kernel_rfl
abbrev zl3:Nat:=38
def zgA:AFunc:=⟨15,[(4,none)],qS [qr 2 112 0,qr 3 112 1,qq 4] (.seq (qS [qF 5 0 2,qK 6 1 5,qF 7 0 3,qK 8 1 7,qB 9 .neq 6 8] (vN 9 4)) (qS [qF 10 1 2,qK 11 1 10,qF 12 1 3,qK 13 1 12,qe 14 80 11 13,qV 4 14] .ret))⟩
theorem zl9:zae Tryz.prog loud 38=some zgA:=by kernel_rfl
abbrev znq:Nat:=39
def zhh:AFunc:=⟨56,[(2,some (true,3)),(3,none)],qS [qr 1 52 0,wd 2 55,qb 3 0] (.seq (qS [qF 8 1 1,qK 9 1 8,qF 10 2 1,qK 11 1 10,qe 12 81 9 11,wB 13 12,qV 14 13,wq 14 15 0 1,wr 14 16 1 15,wV 14 17 82 16,vD 14 18 17,we 19 14 18] (.cond (.s 19) (qS [vh 20,qR 3 2 20,qb 3 1] .ret) .skip)) (qS [qF 21 1 1,qK 22 1 21,qF 23 2 1,qK 24 1 23,qO 25 (.build [qI 0,qI 0,.nils] [(0,1,.s 22),(1,1,.s 24)]),wd 4 55,qR 3 4 25] (.seq (qS [qb 5 0] (.block 0 (.loop (.seq (qS [qV 26 5,qF 27 0 1,qK 28 1 27,qy 29 28,qB 30 .lss 26 29] (vM 30 0)) (.seq (.block 1 (qS [qF 34 0 1,qK 35 1 34,qV 36 5,qw 37 2 35 36,qF 38 0 37,qK 39 1 38,qF 40 0 1,qK 41 1 40,qV 42 5,qw 43 2 41 42,qF 44 1 43,qK 45 1 44,wM 46 83 39 45,qV 33 46,qE 47 33 0,qE 48 33 1,wH 6 112,qR 2 6 47,qV 7 48] (.ops [qF 49 2 4,qK 50 1 49,qL 51 2 6,qO 52 (.mklst 112 2 [qI 0,.nils] 1 [(0,.s 51)]),vp 53 112 2 32 50 52,qF 54 2 4,qR 1 54 53]))) (vP 31 5 32 31 1 5 32)))))) (vR 55 3 4 3 2 55 3 0))))⟩
theorem znt:zae Tryz.prog loud 39=some zhh:=by kernel_rfl
abbrev zfu:Nat:=40
def zdp:AFunc:=⟨183,[(6,some (true,3)),(7,none)],qS [qr 3 55 0,qr 4 117 1,wd 6 55,qb 7 0] (.seq (qS [qL 19 3 3,qf 20 84 19,wB 21 20,qV 22 21,wq 22 23 0 4,wr 22 24 1 23,wV 22 25 85 24,vD 22 26 25,we 27 22 26,qV 28 27,qz 28 29 2,wV 28 30 85 29,vD 28 31 30,we 32 28 31,qV 33 32,wq 33 34 1 4,wr 33 35 1 34,vm 33 36 35,we 37 33 36] (ua 37 38 3 3 3 6 38 7 1)) (.seq (qS [qF 39 0 4,qK 40 1 39,qV 41 2,qB 42 .gtr 40 41] (ua 42 43 3 3 3 6 43 7 3)) (qS [vA 8] (.seq (qS [qF 44 2 3,qK 45 1 44,qy 46 45,wD 47 46 1,qV 9 47] (.block 0 (.loop (.seq (qS [qV 48 9,wE 49 48 0] (vM 49 0)) (.seq (.block 1 (qS [qF 52 2 3,qK 53 1 52,qV 54 9,qw 55 2 53 54,qL 56 2 55,qF 57 0 4,qK 58 1 57,qV 59 2,vr 60 86 56 58 59] (.cond (.s 60) (.ops [qV 61 9,qV 8 61]) .skip))) (.ops [qV 50 9,wD 51 50 1,qV 9 51])))))) (.seq (qS [qV 62 8,qx 63 62 0] (ua 63 64 3 3 3 6 64 7 14)) (qS [qL 65 3 3,qf 66 87 65,wd 10 55,qR 3 10 66] (qS [qF 68 2 10,qK 69 1 68,qV 70 8,qF 71 2 10,qK 72 1 71,qV 73 8,qw 74 2 72 73,qL 75 2 74,qF 76 0 4,qK 77 1 76,qF 78 1 4,qK 79 1 78,vr 80 88 75 77 79,qV 67 80,qE 81 67 0,qE 82 67 1,qw 83 2 69 70,qR 2 83 81] (.seq (qS [qV 84 8,wg 85 84 1,qV 11 85] (.block 2 (.loop (.seq (qS [qV 86 11,qF 87 2 10,qK 88 1 87,qy 89 88,qB 90 .lss 86 89] (vM 90 2)) (.seq (.block 3 (.seq (qS [qF 93 2 10,qK 94 1 93,qV 95 11,qw 96 2 94 95,qL 97 2 96,qF 98 0 4,qK 99 1 98,qV 100 2,vr 101 86 97 99 100,wB 102 101] (v6 102 3)) (.seq (.all [[qF 103 2 10,qK 104 1 103,qV 105 11,wD 106 105 1,qw 107 2 104 106,qL 108 2 107,qF 109 2 10,qK 110 1 109,qV 111 11,qw 112 2 110 111,qF 113 0 112,qK 114 1 113,wH 12 112,qR 2 12 108,qV 13 114],[qF 103 2 10,qK 104 1 103,qV 105 11,wD 106 105 1,qw 107 2 104 106,qL 108 2 107,qF 109 2 10,qK 110 1 109,qV 111 11,qw 112 2 110 111,qF 113 0 112,wH 12 112,qR 2 12 108,qK 114 1 113,qV 13 114],[qF 103 2 10,qK 104 1 103,qV 105 11,wD 106 105 1,qw 107 2 104 106,qL 108 2 107,qF 109 2 10,qK 110 1 109,qV 111 11,wH 12 112,qR 2 12 108,qw 112 2 110 111,qF 113 0 112,qK 114 1 113,qV 13 114],[qF 103 2 10,qK 104 1 103,qV 105 11,wD 106 105 1,qw 107 2 104 106,qL 108 2 107,qF 109 2 10,qV 111 11,wH 12 112,qR 2 12 108,qK 110 1 109,qw 112 2 110 111,qF 113 0 112,qK 114 1 113,qV 13 114]]) (qS [qF 115 0 4,qK 116 1 115,qF 117 0 4,qK 118 1 117,qV 119 13,qB 120 .rem 118 119,qB 121 .sub 116 120,qV 14 121] (qS [qj 15] (.seq (qS [qV 122 14,qV 16 122] (.block 4 (.loop (.seq (qS [qV 123 16,qV 124 14,qV 125 13,qB 126 .add 124 125,qB 127 .lss 123 126] (vM 127 4)) (.seq (.block 5 (qS [qL 132 2 12,qV 133 16,qe 134 89 132 133,qn 17 182,qR 2 17 134] (qS [qF 135 0 17,qK 136 1 135,wB 137 136] (.cond (.s 137) (.ops [qV 138 15,qF 139 1 17,qK 140 1 139,qO 141 (.mklst 2 1 [qI 0] 1 [(0,.s 140)]),vp 142 2 1 8 138 141,qV 15 142]) .skip)))) (.ops [qV 128 16,qF 129 0 12,qK 130 1 129,qB 131 .add 128 130,qV 16 131])))))) (.seq (qS [qV 143 15,qy 144 143,wQ 145 144 0,qV 146 145,qz 146 147 15,vE 146 148 147,qN 146 149 (.bin .mul (.s 148) (qC 1000000)),wq 146 150 1 3,wr 146 151 1 150,qz 146 152 13,wq 146 153 0 12,wr 146 154 1 153,qN 146 155 (.bin .quo (.s 152) (.s 154)),qN 146 156 (.bin .mul (.s 151) (.s 155)),qN 146 157 (.bin .lss (.s 149) (.s 156)),we 158 146 157] (v6 158 3)) (qS [qF 159 0 3,qK 160 1 159,qV 161 15,qe 162 90 160 161,qn 18 182,qR 2 18 162] (qS [qF 163 0 18,qK 164 1 163,wB 165 164] (.cond (.s 165) (.ops [qF 167 2 10,qK 168 1 167,qV 169 11,qF 170 2 10,qK 171 1 170,qV 172 11,qw 173 2 171 172,qL 174 2 173,qV 175 14,qF 176 1 18,qK 177 1 176,vr 178 88 174 175 177,qV 166 178,qE 179 166 0,qE 180 166 1,qw 181 2 168 169,qR 2 181 179]) .skip)))))))))) (vP 91 11 92 91 1 11 92)))))) (vR 182 3 10 3 6 182 7 0)))))))))⟩
theorem zfv:zae Tryz.prog loud 40=some zdp:=by kernel_rfl
abbrev zpE:Nat:=42
def ziM:AFunc:=⟨46,[(4,none),(5,none)],qS [qr 2 74 0,qj 4,qb 5 0] (.seq (qS [qF 12 0 2,qK 13 1 12,qo 14 13 1] (vX 14 4 5 1)) (qS [qL 16 9 2,qf 17 69 16,qV 15 17,qE 18 15 0,qE 19 15 1,qV 6 18,qV 7 19] (.seq (qS [qV 20 7,qo 21 20 0] (.cond (.s 21) (qS [qV 22 7,qj 4,qV 5 22] .ret) .skip)) (.seq (qS [qV 23 1,qy 24 23,qb 25 0] (.block 0 (.loop (qS [qB 26 .lss 25 24] (.seq (vM 26 0) (.seq (.block 1 (qS [qw 27 9 23 25,qL 28 9 27,q9 9 74,qR 9 9 28] (qS [qL 30 9 9,qf 31 69 30,qV 29 31,qE 32 29 0,qE 33 29 1,qV 10 32,qV 11 33] (.seq (qS [qV 34 11,qo 35 34 0,qV 36 35,wq 36 37 0 9,wr 36 38 1 37,qN 36 39 (qW 38 1),we 40 36 39] (vX 40 4 5 1)) (.ops [qV 41 6,qV 42 10,vp 43 5 1 1 41 42,qV 6 43]))))) (vO 44 25 1 25 44))))))) (qS [qV 45 6,qV 4 45,qb 5 0] .ret)))))⟩
theorem zp4:zae Tryz.prog loud 42=some ziM:=by kernel_rfl
abbrev ztB:Nat:=43
def znI:AFunc:=⟨15,[(2,some (true,9))],qS [qr 1 57 0,q9 2 74] (qS [qF 3 1 1,qK 4 1 3,qF 5 2 1,qF 6 1 5,qK 7 1 6,qF 8 2 1,qF 9 2 8,qK 10 1 9,qF 11 2 1,qF 12 0 11,qK 13 1 12,qO 14 (.build [qI 0,.str [],qI 0,qI 0,.nils,qI 0,qI 0,qI 0,qI 0] [(0,1,qC 1),(1,1,.s 4),(2,1,.s 7),(3,1,.s 10),(4,1,.s 13)]),qR 9 2 14] .ret)⟩
theorem zv8:zae Tryz.prog loud 43=some znI:=by kernel_rfl
abbrev zrg:Nat:=44
def zkl:AFunc:=⟨38,[(2,none)],qS [qr 1 55 0,qj 2] (.seq (qS [qL 8 3 1,qf 9 91 8,wB 10 9] (vU 10 2)) (qS [qj 3] (.seq (qS [qF 11 2 1,qK 12 1 11,qy 13 12,qb 14 0] (.block 0 (.loop (qS [qB 15 .lss 14 13] (.seq (vM 15 0) (.seq (.block 1 (qS [qV 16 14,qw 17 2 12 14,qL 18 2 17,wH 5 112,qV 4 16,qR 2 5 18] (qS [qL 19 2 5,qf 20 92 19,qy 21 20,qb 22 0] (.block 2 (.loop (qS [qB 23 .lss 22 21] (.seq (vM 23 2) (.seq (.block 3 (qS [qw 24 2 20 22,qL 25 2 24,wN 7 186,qR 2 7 25] (.ops [qV 26 3,qV 27 4,qF 28 0 7,qK 29 1 28,qF 30 1 7,qK 31 1 30,qO 32 (.build [qI 0,.str [],qI 0,qI 0,.nils,qI 0,qI 0,qI 0,qI 0] [(0,1,qC 3),(5,1,.s 27),(6,1,.s 29),(8,1,.s 31)]),qO 33 (.mklst 74 9 [qI 0,.str [],qI 0,qI 0,.nils,qI 0,qI 0,qI 0,qI 0] 1 [(0,.s 32)]),vp 34 74 9 96 26 33,qV 3 34]))) (vO 35 22 1 22 35))))))))) (vO 36 14 1 14 36))))))) (vT 37 3 2 37))))⟩
theorem zqQ:zae Tryz.prog loud 44=some zkl:=by kernel_rfl
abbrev zvp:Nat:=45
def znF:AFunc:=⟨23,[(6,none)],qS [qr 3 30 0,qb 6 0] (.seq (.block 0 (qS [qV 8 1,qF 9 0 3,qK 10 1 9,qL 11 6 3,wk 12 11 11,qB 13 .sub 10 12,qB 14 .gtr 8 13,qV 7 14] (.cond (.s 7) (qS [qb 6 6] .ret) (qS [qV 16 2,qV 17 16,wv 17 18 1 3,wC 17 19 1 18,qT 17 20 (qP 19),vg 17 21 20 256,wm 22 17 21,qV 15 22] (.cond (.s 15) (qS [qb 6 11] .ret) .skip))))) (qS [qb 6 0] .ret))⟩
theorem ztS:zae Tryz.prog loud 45=some znF:=by kernel_rfl
abbrev zkM:Nat:=46
def zgf:AFunc:=⟨7,[],qS [qr 3 9 1] (.ops [qV 4 0,vC 5 94 3,qe 6 93 4 5])⟩
theorem zkz:zae Tryz.prog loud 46=some zgf:=by kernel_rfl
abbrev zdd:Nat:=47
def zn7:AFunc:=⟨15,[(6,none)],qS [qO 6 (.mv (.c (.str [])))] (qS [qV 7 0,qf 8 96 7,qO 9 (.bin .add (.s 8) (.c (.str [46]))),qV 10 1,qf 11 96 10,qB 12 .add 9 11,qV 13 2,qB 14 .add 12 13,qV 6 14] .ret)⟩
theorem zup:zae Tryz.prog loud 47=some zn7:=by kernel_rfl
abbrev zi1:Nat:=48
def zfh:AFunc:=⟨7,[],qS [qr 3 9 1] (.ops [qV 4 0,vC 5 97 3,qe 6 93 4 5])⟩
theorem ziZ:zae Tryz.prog loud 48=some zfh:=by kernel_rfl
abbrev zlm:Nat:=49
def zg1:AFunc:=⟨9,[],qS [qr 4 9 1,qr 5 70 2] (.ops [qV 6 0,qO 7 (.mkfn (.func 99) [] [.s 4,.s 5]),qe 8 93 6 7])⟩
theorem zl2:zae Tryz.prog loud 49=some zg1:=by kernel_rfl
abbrev zjh:Nat:=50
def zeT:AFunc:=⟨9,[],qS [qr 4 9 1,qr 5 9 2] (.ops [qV 6 0,qO 7 (.mkfn (.func 101) [] [.s 4,.s 5]),qe 8 93 6 7])⟩
theorem zjm:zae Tryz.prog loud 50=some zeT:=by kernel_rfl
abbrev zkJ:Nat:=51
def zdC:AFunc:=⟨12,[],qS [qV 2 0,qu 3 2,qF 4 0 3,qF 5 0 4,qF 6 4 5,qK 7 1 6,qy 8 7,wK 9 8 0] (.cond (.s 9) (.ops [qV 10 0,w7 11 93 10 103]) .skip)⟩
theorem zk9:zae Tryz.prog loud 51=some zdC:=by kernel_rfl
abbrev ztm:Nat:=52
def zmh:AFunc:=⟨23,[(6,none)],qS [qr 3 30 0,qr 5 9 2,qj 6] (qS [qL 11 6 3,qf 12 20 11,qV 10 12,qE 13 10 0,qE 14 10 1,qV 7 13,qV 8 14] (.seq (qS [qV 15 8,qo 16 15 0] (vU 16 6)) (qS [qV 17 1,qf 18 96 17,qO 19 (.bin .add (.s 18) (.c (.str [46]))),qO 9 (.alloc 9 [.str []]),qR 1 9 19] (qS [qV 20 7,qO 21 (.mkfn (.func 105) [] [.s 5,.s 9]),qe 22 104 20 21,qV 6 22] .ret))))⟩
theorem ztu:zae Tryz.prog loud 52=some zmh:=by kernel_rfl
abbrev zjn:Nat:=53
def zfe:AFunc:=⟨7,[],qS [qr 3 9 1] (.ops [qV 4 0,vC 5 107 3,qe 6 93 4 5])⟩
theorem zjb:zae Tryz.prog loud 53=some zfe:=by kernel_rfl
abbrev zkR:Nat:=54
def zgk:AFunc:=⟨35,[(6,some (true,10)),(7,none)],qS [qr 4 33 1,qr 5 57 2,qk 6 33,qb 7 0] (.seq (qS [qV 8 0,qu 9 8,qF 10 10 9,qK 11 1 10] (.block 0 (qS [wQ 13 11 0,qV 12 13] (.cond (.s 12) (qS [qV 14 0,qu 15 14,qF 16 0 15,qL 17 10 16,qL 18 11 5,wM 19 64 17 18,qR 10 6 19,qb 7 0] .ret) (qS [wQ 21 11 22,qV 20 21] (.cond (.s 20) (.seq (.all [[qV 22 0,qu 23 22,qF 24 0 23,qL 25 10 24,qV 26 0,qu 27 26,qF 28 10 27,qK 29 1 28,qR 10 6 25,qV 7 29],[qV 22 0,qu 23 22,qF 24 0 23,qL 25 10 24,qV 26 0,qu 27 26,qF 28 10 27,qR 10 6 25,qK 29 1 28,qV 7 29]]) .ret) .skip)))))) (.seq (.all [[qL 30 10 4,qV 31 0,qu 32 31,qF 33 10 32,qK 34 1 33,qR 10 6 30,qV 7 34],[qL 30 10 4,qV 31 0,qu 32 31,qF 33 10 32,qR 10 6 30,qK 34 1 33,qV 7 34]]) .ret))⟩
theorem zkX:zae Tryz.prog loud 54=some zgk:=by kernel_rfl
abbrev zpt:Nat:=55
def zkN:AFunc:=⟨40,[(4,none),(5,none)],qS [qr 2 30 0,qb 4 0,qb 5 0] (.seq (qS [qL 10 6 2,qf 11 12 10,wB 12 11,qV 13 12,qz 13 14 1,wV 13 15 73 14,vD 13 16 15,we 17 13 16] (.cond (.s 17) (qS [qb 4 0,qb 5 1] .ret) .skip)) (qS [qF 19 2 2,qK 20 1 19,qV 21 1,qe 22 74 20 21,qV 18 22,qE 23 18 0,qE 24 18 1,qV 6 23,qV 7 24] (.seq (qS [qV 25 7,wB 26 25] (.cond (.s 26) (qS [qb 4 0,qb 5 4] .ret) .skip)) (qS [qF 28 1 2,qK 29 1 28,qF 30 2 2,qK 31 1 30,qV 32 6,qw 33 2 31 32,qF 34 1 33,qK 35 1 34,qO 36 (.qcall 109 [.s 29,.s 35,.c (.fn (.func 110) [] [])]),qV 27 36,qE 37 27 0,qE 38 27 1,qV 8 37,qV 9 38] (qS [qV 39 8,qV 4 39,qb 5 0] .ret)))))⟩
theorem zqg:zae Tryz.prog loud 55=some zkN:=by kernel_rfl
abbrev zhQ:Nat:=56
def zhF:AFunc:=⟨8,[(2,none)],qS [qj 2] (.seq (qS [qV 3 0,vz 4 3] (vU 4 2)) (qS [qO 5 (.mkrow 5 1 [.int .u8 0] 0 []),qV 6 0,vp 7 5 1 1 5 6,qV 2 7] .ret))⟩
theorem zmr:zae Tryz.prog loud 56=some zhF:=by kernel_rfl
abbrev zug:Nat:=64
def zny:AFunc:=⟨40,[(4,some (true,10))],qS [qr 2 33 0,qr 3 57 1,qk 4 33] (qS [qL 8 10 2,qF 9 1 3,qK 10 1 9,qe 11 37 8 10,qV 7 11,qE 12 7 0,qE 13 7 1,qV 5 12,qV 6 13] (qS [qF 14 6 2,qK 15 1 14,qf 16 128 15,qF 17 6 2,qR 1 17 16] (.seq (qS [qV 18 6,wB 19 18] (.cond (.s 19) (qS [qF 20 6 2,qK 21 1 20,qV 22 5,qL 23 11 3,qO 24 (.mkrow 57 11 [qI 0,.str [],.nils,qI 0,qI 0,qI 0,qI 0,.nils,qI 0,qI 0,qI 0] 1 [(0,.s 23)]),wo 25 129 21 22 24,qF 26 6 2,qR 1 26 25] (.ops [qF 27 7 2,qK 28 1 27,qF 29 0 3,qK 30 1 29,wg 31 30 1,qO 32 (.mm true (.s 28) (.s 31)),qF 33 7 2,qR 1 33 32])) .skip)) (qS [qF 34 6 2,qK 35 1 34,qV 36 5,qL 37 11 3,qw 38 11 35 36,qR 11 38 37] (vY 39 10 2 10 4 39)))))⟩
theorem zuW:zae Tryz.prog loud 64=some zny:=by kernel_rfl
abbrev zlP:Nat:=65
def zlO:AFunc:=⟨12,[(2,none)],qS [qq 2] (qS [qV 6 0,qf 7 130 6,qV 5 7,qE 8 5 0,qE 9 5 1,qV 3 8,qV 4 9] (qS [qV 10 4,wQ 11 10 0,qV 2 11] .ret))⟩
theorem zto:zae Tryz.prog loud 65=some zlO:=by kernel_rfl
abbrev ztg:Nat:=66
def zlZ:AFunc:=⟨36,[(6,some (true,11)),(7,none)],qS [qr 3 33 0,qr 5 52 2,wc 6 57,qb 7 0] (qS [qL 11 3 5,qf 12 124 11,qV 10 12,qE 13 10 0,qE 14 10 1,wd 8 55,qR 3 8 13,qV 9 14] (.seq (.block 0 (qS [qV 16 9,qo 17 16 0,qV 15 17] (.cond (.s 15) (qS [wX 18,qV 19 9,qR 11 6 18,qV 7 19] .ret) (qS [qF 21 6 3,qK 22 1 21,qy 23 22,wE 24 23 64,qV 20 24] (.cond (.s 20) (qS [wX 25,qR 11 6 25,qb 7 11] .ret) .skip))))) (qS [qF 26 0 5,qK 27 1 26,qf 28 131 27,qF 29 0 5,qR 1 29 28] (qS [qF 30 7 3,qK 31 1 30,qV 32 1,qL 33 3 5,qL 34 3 8,qO 35 (.build [qI 0,.str [],.nils,qI 0,qI 0,qI 0,qI 0,.nils,qI 0,qI 0,qI 0] [(0,1,.s 31),(1,1,.s 32),(2,3,.s 33),(5,3,.s 34)]),qR 11 6 35,qb 7 0] .ret))))⟩
theorem ztb:zae Tryz.prog loud 66=some zlZ:=by kernel_rfl
abbrev zqy:Nat:=67
def zjY:AFunc:=⟨33,[(4,some (true,3)),(5,none)],qS [qr 2 55 0,wd 4 55,qb 5 0] (.seq (qS [qV 9 1,qy 10 9,qb 11 0] (.block 0 (.loop (qS [qB 12 .lss 11 10] (.seq (vM 12 0) (.seq (.block 1 (qS [qw 13 4 9 11,qL 14 4 13,qO 7 (.alloc 91 [qI 0,qI 0,qI 0,qI 0]),qR 4 7 14] (qS [qb 8 0] (qS [qL 16 3 2,qF 17 0 7,qK 18 1 17,qF 19 1 7,qK 20 1 19,wR 21 0 1 18 1 1 20,qF 22 2 7,qK 23 1 22,wo 24 127 16 21 23,qV 15 24,qE 25 15 0,qE 26 15 1,qR 3 2 25,qV 8 26] (qS [qV 27 8,qo 28 27 0] (v7 28 29 3 2 30 8 3 4 29 5 30)))))) (vO 31 11 1 11 31))))))) (vR 32 3 2 3 4 32 5 0))⟩
theorem zre:zae Tryz.prog loud 67=some zjY:=by kernel_rfl
abbrev zqD:Nat:=68
def zjX:AFunc:=⟨34,[(2,none),(3,none)],qS [qj 2,qb 3 0] (qS [qj 4] (.seq (qS [qV 9 0,qy 10 9,qb 11 0] (.block 0 (.loop (qS [qB 12 .lss 11 10] (.seq (vM 12 0) (.seq (.block 1 (qS [qw 13 4 9 11,qL 14 4 13,qO 6 (.alloc 91 [qI 0,qI 0,qI 0,qI 0]),qR 4 6 14] (qS [qF 16 0 6,qK 17 1 16,qF 18 2 6,qK 19 1 18,qF 20 1 6,qK 21 1 20,qO 22 (.build [qI 0,.str [],qI 0,qI 0,.nils,qI 0,qI 0,qI 0,qI 0] [(0,1,qC 2),(6,1,.s 17),(7,1,.s 19),(8,1,.s 21)]),qf 23 69 22,qV 15 23,qE 24 15 0,qE 25 15 1,qV 7 24,qV 8 25] (.seq (qS [qV 26 8,qo 27 26 0] (.cond (.s 27) (qS [qV 28 8,qj 2,qV 3 28] .ret) .skip)) (.ops [qV 29 4,qV 30 7,vp 31 5 1 1 29 30,qV 4 31]))))) (vO 32 11 1 11 32))))))) (qS [qV 33 4,qV 2 33,qb 3 0] .ret)))⟩
theorem zq2:zae Tryz.prog loud 68=some zjX:=by kernel_rfl
abbrev zdS:Nat:=69
def zcX:AFunc:=⟨18,[(2,none),(3,none)],qS [qr 1 74 0,qj 2,qb 3 0] (qS [qL 7 9 1,qf 8 132 7,qV 6 8,qE 9 6 0,qE 10 6 1,qV 4 9,qV 5 10] (.seq (qS [qV 11 5,qo 12 11 0] (.cond (.s 12) (qS [qV 13 5,qj 2,qV 3 13] .ret) .skip)) (qS [qV 14 4,qf 15 133 14,qE 16 15 0,qE 17 15 1,qV 2 16,qV 3 17] .ret)))⟩
theorem zeh:zae Tryz.prog loud 69=some zcX:=by kernel_rfl
abbrev zgM:Nat:=70
def zd0:AFunc:=⟨36,[(2,none)],qS [qj 2] (qS [qb 3 0] (.seq (qS [qV 9 0,qy 10 9,qb 11 0] (.block 0 (.loop (qS [qB 12 .lss 11 10] (.seq (vM 12 0) (.seq (.block 1 (qS [qw 13 1 9 11,qK 14 1 13,qV 5 14] (qS [qV 15 3,qV 16 5,qy 17 16,qB 18 .add 15 17,qV 3 18] (qS [qV 19 3,qx 20 19 0] (.cond (.s 20) (.ops [qO 21 (.mkif 9 (.c (.str [108,101,110,32,111,117,116,32,111,102,32,114,97,110,103,101]))),⟨none,none,.bad⟩]) .skip))))) (vO 22 11 1 11 22))))))) (qS [qV 23 3,qO 24 (.call 134 [.c .nils,.s 23]),qV 6 24] (.seq (qS [qV 25 0,qy 26 25,qb 27 0] (.block 2 (.loop (qS [qB 28 .lss 27 26] (.seq (vM 28 2) (.seq (.block 3 (qS [qw 29 1 25 27,qK 30 1 29,qV 8 30] (.ops [qV 31 6,qV 32 8,vp 33 5 1 1 31 32,qV 6 33]))) (vO 34 27 1 27 34))))))) (vT 35 6 2 35)))))⟩
theorem zgH:zae Tryz.prog loud 70=some zd0:=by kernel_rfl
abbrev zlr:Nat:=71
def zgx:AFunc:=⟨110,[(4,none)],qS [qr 2 30 0,qr 3 30 1,qq 4] (.seq (qS [qF 9 0 2,qK 10 1 9,qF 11 0 3,qK 12 1 11,qB 13 .neq 10 12,qV 14 13,wq 14 15 5 2,wr 14 16 1 15,wq 14 17 5 3,wr 14 18 1 17,vk 14 19 16 18,we 20 14 19,qV 21 20,wq 21 22 1 2,wr 21 23 1 22,vE 21 24 23,wq 21 25 1 3,wr 21 26 1 25,vE 21 27 26,vk 21 28 24 27,we 29 21 28,qV 30 29,wq 30 31 4 2,wr 30 32 1 31,vE 30 33 32,wq 30 34 4 3,wr 30 35 1 34,vE 30 36 35,vk 30 37 33 36,we 38 30 37,qV 39 38,wq 39 40 2 2,wr 39 41 1 40,wq 39 42 2 3,wr 39 43 1 42,qN 39 44 (.call 135 [.s 41,.s 43]),vD 39 45 44,we 46 39 45,qV 47 46,wq 47 48 3 2,wr 47 49 1 48,wq 47 50 3 3,wr 47 51 1 50,qN 47 52 (.call 135 [.s 49,.s 51]),vD 47 53 52,we 54 47 53] (vN 54 4)) (.seq (qS [qb 5 0] (.block 0 (.loop (.seq (qS [qV 55 5,qF 56 1 2,qK 57 1 56,qy 58 57,qB 59 .lss 55 58] (vM 59 0)) (.seq (.block 1 (.seq (.all [[qF 62 1 2,qK 63 1 62,qV 64 5,qw 65 3 63 64,qL 66 3 65,qF 67 1 3,qK 68 1 67,qV 69 5,qw 70 3 68 69,qL 71 3 70,wa 6 97,wa 7 97,qR 3 6 66,qR 3 7 71],[qF 62 1 2,qK 63 1 62,qV 64 5,qw 65 3 63 64,qL 66 3 65,qF 67 1 3,qK 68 1 67,qV 69 5,qw 70 3 68 69,qL 71 3 70,wa 7 97,wa 6 97,qR 3 6 66,qR 3 7 71],[qF 62 1 2,qK 63 1 62,qV 64 5,qw 65 3 63 64,qL 66 3 65,qF 67 1 3,qK 68 1 67,qV 69 5,qw 70 3 68 69,wa 6 97,wa 7 97,qR 3 6 66,qL 71 3 70,qR 3 7 71],[qF 62 1 2,qK 63 1 62,qV 64 5,qw 65 3 63 64,qL 66 3 65,qF 67 1 3,qK 68 1 67,qV 69 5,qw 70 3 68 69,wa 7 97,wa 6 97,qR 3 6 66,qL 71 3 70,qR 3 7 71],[qF 62 1 2,qK 63 1 62,qV 64 5,qw 65 3 63 64,qL 66 3 65,qF 67 1 3,qK 68 1 67,qV 69 5,wa 6 97,wa 7 97,qR 3 6 66,qw 70 3 68 69,qL 71 3 70,qR 3 7 71],[qF 62 1 2,qK 63 1 62,qV 64 5,qw 65 3 63 64,qL 66 3 65,qF 67 1 3,qK 68 1 67,qV 69 5,wa 7 97,wa 6 97,qR 3 6 66,qw 70 3 68 69,qL 71 3 70,qR 3 7 71],[qF 62 1 2,qK 63 1 62,qV 64 5,qw 65 3 63 64,qL 66 3 65,qF 67 1 3,qV 69 5,wa 6 97,wa 7 97,qR 3 6 66,qK 68 1 67,qw 70 3 68 69,qL 71 3 70,qR 3 7 71],[qF 62 1 2,qK 63 1 62,qV 64 5,qw 65 3 63 64,qL 66 3 65,qF 67 1 3,qV 69 5,wa 7 97,wa 6 97,qR 3 6 66,qK 68 1 67,qw 70 3 68 69,qL 71 3 70,qR 3 7 71]]) (qS [qF 72 0 6,qK 73 1 72,qF 74 0 7,qK 75 1 74,qB 76 .neq 73 75,qV 77 76,wq 77 78 2 6,wr 77 79 1 78,wq 77 80 2 7,wr 77 81 1 80,vk 77 82 79 81,we 83 77 82,qV 84 83,wq 84 85 1 6,wr 84 86 1 85,wq 84 87 1 7,wr 84 88 1 87,qN 84 89 (.call 136 [.s 86,.s 88]),vD 84 90 89,we 91 84 90] (vN 91 4)))) (vP 60 5 61 60 1 5 61)))))) (.seq (qS [qb 8 0] (.block 2 (.loop (.seq (qS [qV 92 8,qF 93 4 2,qK 94 1 93,qy 95 94,qB 96 .lss 92 95] (vM 96 2)) (.seq (.block 3 (qS [qF 99 4 2,qK 100 1 99,qV 101 8,qw 102 4 100 101,qL 103 4 102,qF 104 4 3,qK 105 1 104,qV 106 8,qw 107 4 105 106,qL 108 4 107,qO 109 (.eqs true [0,1,1,0] (.s 103) (.s 108))] (vN 109 4))) (vP 97 8 98 97 1 8 98)))))) (vZ 4))))⟩
theorem zmw:zae Tryz.prog loud 71=some zgx:=by kernel_rfl
abbrev zgL:Nat:=72
def zdx:AFunc:=⟨27,[(4,none)],qS [qq 4] (.seq (ue 6 0 7 6 8 1 9 8 10 7 9 10 4) (.seq (qS [qb 5 0] (.block 0 (.loop (.seq (vV 11 5 12 0 13 12 14 11 13 14 0) (.seq (.block 1 (qS [qV 17 0,qV 18 5,qw 19 11 17 18,qL 20 11 19,qV 21 1,qV 22 5,qw 23 11 21 22,qL 24 11 23,wM 25 137 20 24,wB 26 25] (vN 26 4))) (vP 15 5 16 15 1 5 16)))))) (vZ 4)))⟩
theorem zgG:zae Tryz.prog loud 72=some zdx:=by kernel_rfl
abbrev ztW:Nat:=73
def ziJ:AFunc:=⟨10,[(2,none)],qS [qq 2] (qS [qV 3 0,qO 4 (uc 3),qV 5 4,q8 5 6 0,qT 5 7 (.slen (.s 6)),ww 5 8 7 96,wm 9 5 8,qV 2 9] .ret)⟩
theorem zun:zae Tryz.prog loud 73=some ziJ:=by kernel_rfl
abbrev ztX:Nat:=74
def znN:AFunc:=⟨11,[(4,none),(5,none)],qS [qb 4 0,qq 5] (qS [qV 6 0,qV 7 1,qO 8 (.call 138 [.s 6,.s 7,.c (.fn (.func 139) [] [])]),qE 9 8 0,qE 10 8 1,qV 4 9,qV 5 10] .ret)⟩
theorem zuT:zae Tryz.prog loud 74=some znN:=by kernel_rfl
abbrev zv6:Nat:=75
def znC:AFunc:=⟨23,[(6,none)],qS [qj 6] (qS [qV 10 0,qV 11 1,qe 12 74 10 11,qV 9 12,qE 13 9 0,qE 14 9 1,qV 7 13,qV 8 14] (qS [qV 15 0,qf 16 141 15,qV 17 7,qV 18 1,qV 19 2,qO 20 (.build [.str [],qI 0] [(0,1,.s 18),(1,1,.s 19)]),qO 21 (.mkrow 101 2 [.str [],qI 0] 1 [(0,.s 20)]),wo 22 140 16 17 21,qV 6 22] .ret))⟩
theorem zvs:zae Tryz.prog loud 75=some znC:=by kernel_rfl
abbrev zqT:Nat:=76
def zko:AFunc:=⟨22,[(4,none)],qS [qj 4] (qS [qV 8 0,qV 9 1,qe 10 74 8 9,qV 7 10,qE 11 7 0,qE 12 7 1,qV 5 11,qV 6 12] (.seq (qS [qV 13 6,wB 14 13] (vS 14 15 0 4 15)) (qS [qV 16 0,qf 17 141 16,qV 18 5,qV 19 5,wg 20 19 1,wo 21 142 17 18 20,qV 4 21] .ret)))⟩
theorem zrk:zae Tryz.prog loud 76=some zko:=by kernel_rfl
abbrev zb5:Nat:=77
def zaF:AFunc:=⟨49,[(6,none),(7,none)],qS [qb 6 0,qq 7] (qS [qV 12 0,qy 13 12,qV 8 13] (qS [qV 14 8,qb 9 0,qV 10 14] (.seq (.block 0 (.loop (.seq (qS [qV 15 9,qV 16 10,qB 17 .lss 15 16] (vM 17 0)) (.block 1 (qS [qV 18 9,qV 19 10,qB 20 .add 18 19,wL 21 20,vx 22 21,wW 23 22,qV 11 23] (qS [qV 24 2,qV 25 0,qV 26 11,qw 27 11 25 26,qL 28 11 27,qV 29 1,qO 30 (.callv (.s 24) [.s 28,.s 29]),qx 31 30 0] (.cond (.s 31) (vP 32 11 33 32 1 9 33) (.ops [qV 34 11,qV 10 34])))))))) (qS [qV 35 9,qV 36 9,qV 37 8,qB 38 .lss 36 37,qV 39 38,q8 39 40 2,q8 39 41 0,q8 39 42 9,qT 39 43 (qJ 11 41 42),wG 39 44 11 43,q8 39 45 1,qT 39 46 (.callv (.s 40) [.s 44,.s 45]),qT 39 47 (qW 46 0),wm 48 39 47,qV 6 35,qV 7 48] .ret))))⟩
theorem zb8:zae Tryz.prog loud 77=some zaF:=by kernel_rfl
abbrev ziT:Nat:=78
def ziS:AFunc:=⟨9,[(4,none)],qS [qr 2 57 0,qb 4 0] (qS [qF 5 1 2,qK 6 1 5,qV 7 1,qe 8 79 6 7,qV 4 8] .ret)⟩
theorem zqw:zae Tryz.prog loud 78=some ziS:=by kernel_rfl
theorem zqi : zaE Tryz.prog 78 = true := by kernel_rfl
abbrev zh4:Nat:=80
def zdP:AFunc:=⟨26,[(4,none)],qS [qq 4] (.seq (ue 6 0 7 6 8 1 9 8 10 7 9 10 4) (.seq (qS [qb 5 0] (.block 0 (.loop (.seq (vV 11 5 12 0 13 12 14 11 13 14 0) (.seq (.block 1 (qS [qV 17 0,qV 18 5,qw 19 2 17 18,qL 20 2 19,qV 21 1,qV 22 5,qw 23 2 21 22,qL 24 2 23,qO 25 (.eqs true [0,0] (.s 20) (.s 24))] (vN 25 4))) (vP 15 5 16 15 1 5 16)))))) (vZ 4)))⟩
theorem zhL:zae Tryz.prog loud 80=some zdP:=by kernel_rfl
abbrev zm0:Nat:=81
def zhr:AFunc:=⟨19,[(4,none)],qS [qq 4] (qS [qV 5 0,wE 6 5 1,qV 7 6,q8 7 8 0,ww 7 9 8 5,wm 10 7 9,qV 11 10,q8 11 12 1,vg 11 13 12 0,wm 14 11 13,qV 15 14,q8 15 16 1,ww 15 17 16 1000000,wm 18 15 17,qV 4 18] .ret)⟩
theorem znu:zae Tryz.prog loud 81=some zhr:=by kernel_rfl
abbrev zir:Nat:=82
def ze7:AFunc:=⟨72,[(2,none)],qS [qq 2] (.seq (qS [qV 7 0,qy 8 7,qx 9 8 1,qV 10 9,qz 10 11 0,vE 10 12 11,wz 10 13 12 4,we 14 10 13] (vN 14 2)) (.seq (qS [qb 3 0] (.block 0 (.loop (.seq (vV 15 3 16 0 17 16 18 15 17 18 0) (.seq (.block 1 (qS [qV 21 0,qV 22 3,qw 23 2 21 22,qL 24 2 23,qf 25 144 24,wB 26 25] (vN 26 2))) (vP 19 3 20 19 1 3 20)))))) (.seq (qS [qb 4 1] (.block 2 (.loop (.seq (vV 27 4 28 0 29 28 30 27 29 30 2) (.seq (.block 3 (.seq (.all [[qV 33 0,qV 34 4,wD 35 34 1,qw 36 2 33 35,qL 37 2 36,qV 38 0,qV 39 4,qO 40 (.px (.iidx 2 (.s 38) (.s 39))),qO 41 (.px (.iload true 2 (.s 40))),wN 5 119,wN 6 119,qR 2 5 37,qR 2 6 41],[qV 33 0,qV 34 4,wD 35 34 1,qw 36 2 33 35,qL 37 2 36,qV 38 0,qV 39 4,qO 40 (.px (.iidx 2 (.s 38) (.s 39))),qO 41 (.px (.iload true 2 (.s 40))),wN 6 119,wN 5 119,qR 2 5 37,qR 2 6 41]]) (qS [qF 42 0 6,qK 43 1 42,qF 44 0 5,qK 45 1 44,qB 46 .leq 43 45,qV 47 46,wq 47 48 0 6,wr 47 49 1 48,wq 47 50 0 5,wr 47 51 1 50,qN 47 52 (.bin .rem (.s 49) (.s 51)),vi 47 53 52 0,we 54 47 53,qV 55 54,w8 55 56 2 6,qN 55 57 (.qcall 145 [.s 56]),w8 55 58 2 5,qN 55 59 (.qcall 145 [.s 58]),qN 55 60 (.bin .leq (.s 57) (.s 59)),we 61 55 60,qV 62 61,wq 62 63 1 5,wr 62 64 1 63,wq 62 65 0 6,wr 62 66 1 65,wq 62 67 0 5,wr 62 68 1 67,qN 62 69 (.bin .quo (.s 66) (.s 68)),qN 62 70 (.bin .lss (.s 64) (.s 69)),we 71 62 70] (vN 71 2)))) (vP 31 4 32 31 1 4 32)))))) (vZ 2))))⟩
theorem zip:zae Tryz.prog loud 82=some ze7:=by kernel_rfl
abbrev zmE:Nat:=83
def zht:AFunc:=⟨37,[(4,some (true,2)),(5,none)],qS [wH 4 112,qb 5 0] (.seq (qS [qV 8 0,qx 9 8 1,qV 10 9,qz 10 11 0,wz 10 12 11 86400,we 13 10 12,qV 14 13,qz 14 15 1,vt 14 16 15 1,we 17 14 16,qV 18 17,qz 18 19 1,wz 18 20 19 400,we 21 18 20] (.cond (.s 21) (qS [qO 22 (.build [qI 0,.nils] []),qR 2 4 22,qb 5 1] .ret) .skip)) (qS [qV 23 0,qO 24 (.build [qI 0,.nils] [(0,1,.s 23)]),wH 6 112,qR 2 6 24] (.seq (qS [qb 7 0] (.block 0 (.loop (.seq (qS [qV 25 7,qV 26 1,qB 27 .lss 25 26] (vM 27 0)) (.seq (.block 1 (.ops [qF 30 1 6,qK 31 1 30,qO 32 (.build [qI 0,qI 0] [(0,1,qC (-1))]),vB 33 186 2 1 0 32,vp 34 186 2 16 31 33,qF 35 1 6,qR 1 35 34])) (vP 28 7 29 28 1 7 29)))))) (vR 36 2 6 2 4 36 5 0))))⟩
theorem zmD:zae Tryz.prog loud 83=some zht:=by kernel_rfl
abbrev zkB:Nat:=84
def zfS:AFunc:=⟨30,[(2,none)],qS [qr 1 55 0,qq 2] (.seq (qS [qF 4 0 1,qK 5 1 4,qF 6 1 1,qK 7 1 6,qe 8 81 5 7,wB 9 8,qV 10 9,w8 10 11 3 1,wV 10 12 146 11,wV 10 13 82 12,vD 10 14 13,we 15 10 14] (vN 15 2)) (.seq (qS [qb 3 0] (.block 0 (.loop (.seq (qS [qV 16 3,qF 17 2 1,qK 18 1 17,qy 19 18,qB 20 .lss 16 19] (vM 20 0)) (.seq (.block 1 (qS [qF 23 2 1,qK 24 1 23,qV 25 3,qw 26 2 24 25,qL 27 2 26,qf 28 147 27,wB 29 28] (vN 29 2))) (vP 21 3 22 21 1 3 22)))))) (vZ 2)))⟩
theorem zk3:zae Tryz.prog loud 84=some zfS:=by kernel_rfl
abbrev zkE:Nat:=85
def zfW:AFunc:=⟨9,[(2,none)],qS [qq 2] (qS [qV 3 0,wE 4 3 0,qV 5 4,q8 5 6 0,ww 5 7 6 1099511627776,wm 8 5 7,qV 2 8] .ret)⟩
theorem zlc:zae Tryz.prog loud 85=some zfW:=by kernel_rfl
abbrev zjd:Nat:=86
def zfn:AFunc:=⟨18,[(6,none)],qS [qr 3 112 0,qq 6] (qS [qV 7 1,qV 8 1,qF 9 0 3,qK 10 1 9,qB 11 .rem 8 10,qB 12 .sub 7 11,qV 13 2,qL 14 2 3,wk 15 148 14,qB 16 .sub 13 15,qB 17 .gtr 12 16,qV 6 17] .ret)⟩
theorem zi7:zae Tryz.prog loud 86=some zfn:=by kernel_rfl
abbrev zlG:Nat:=87
def zgw:AFunc:=⟨29,[(2,some (true,3))],qS [qr 1 55 0,wd 2 55] (qS [qF 5 0 1,qK 6 1 5,qF 7 1 1,qK 8 1 7,qO 9 (.build [qI 0,qI 0,.nils] [(0,1,.s 6),(1,1,.s 8)]),wd 3 55,qR 3 3 9] (.seq (qS [qb 4 0] (.block 0 (.loop (.seq (qS [qV 10 4,qF 11 2 1,qK 12 1 11,qy 13 12,qB 14 .lss 10 13] (vM 14 0)) (.seq (.block 1 (.all [[qF 17 2 3,qK 18 1 17,qF 19 2 1,qK 20 1 19,qV 21 4,qw 22 2 20 21,qL 23 2 22,qf 24 149 23,qO 25 (.mklst 112 2 [qI 0,.nils] 1 [(0,.s 24)]),vp 26 112 2 32 18 25,qF 27 2 3,qR 1 27 26],[qF 17 2 3,qF 19 2 1,qK 20 1 19,qV 21 4,qw 22 2 20 21,qL 23 2 22,qf 24 149 23,qK 18 1 17,qO 25 (.mklst 112 2 [qI 0,.nils] 1 [(0,.s 24)]),vp 26 112 2 32 18 25,qF 27 2 3,qR 1 27 26]])) (vP 15 4 16 15 1 4 16)))))) (vY 28 3 3 3 2 28)))⟩
theorem zlS:zae Tryz.prog loud 87=some zgw:=by kernel_rfl
abbrev zne:Nat:=88
def zho:AFunc:=⟨41,[(6,some (true,2)),(7,none)],qS [qr 3 112 0,wH 6 112,qb 7 0] (qS [qL 12 2 3,qV 13 1,qe 14 150 12 13,qV 11 14,qE 15 11 0,qE 16 11 1,qV 8 15,qV 9 16] (.seq (qS [qV 17 9,qo 18 17 0,qV 19 18,qz 19 20 2,vm 19 21 20,we 22 19 21] (ua 22 23 2 3 2 6 23 7 1)) (qS [qL 24 2 3,qf 25 149 24,wH 10 112,qR 2 10 25] (qS [qF 26 1 10,qK 27 1 26,qV 28 8,qF 29 0 3,qK 30 1 29,qB 31 .quo 28 30,qF 32 1 3,qK 33 1 32,qy 34 33,qB 35 .rem 31 34,qV 36 8,qV 37 2,wR 38 0 1 36 1 1 37,qw 39 2 27 35,qR 2 39 38] (vR 40 2 10 2 6 40 7 0)))))⟩
theorem znc:zae Tryz.prog loud 88=some zho:=by kernel_rfl
abbrev znj:Nat:=89
def zhs:AFunc:=⟨37,[(4,some (true,2))],qS [qr 2 112 0,qn 4 182] (qS [qL 9 2 2,qV 10 1,qe 11 150 9 10,qV 8 11,qE 12 8 0,qE 13 8 1,qV 5 12,qV 6 13] (.seq (qS [qV 14 6,qo 15 14 0] (vQ 15 16 151 2 4 16)) (qS [qF 17 1 2,qK 18 1 17,qV 19 5,qF 20 0 2,qK 21 1 20,qB 22 .quo 19 21,qF 23 1 2,qK 24 1 23,qy 25 24,qB 26 .rem 22 25,qw 27 2 18 26,qL 28 2 27,wN 7 186,qR 2 7 28] (.seq (qS [qF 29 0 7,qK 30 1 29,qV 31 5,qB 32 .neq 30 31] (vQ 32 33 151 2 4 33)) (qS [qF 34 1 7,qK 35 1 34,wI 36 1 1 35,qR 2 4 36] .ret)))))⟩
theorem znd:zae Tryz.prog loud 89=some zhs:=by kernel_rfl
abbrev zkZ:Nat:=90
def zfY:AFunc:=⟨75,[(4,some (true,2))],qS [qn 4 182] (.seq (qS [qV 10 0,qx 11 10 1,qV 12 11,qz 12 13 0,wz 12 14 13 5,we 15 12 14,qV 16 15,qz 16 17 1,vE 16 18 17,qN 16 19 (qW 18 0),we 20 16 19] (vQ 20 21 151 2 4 21)) (.seq (.all [[qO 22 (.qcall 152 [qC 0]),qV 23 1,wJ 24 1 23 0,qK 25 1 24,wk 26 152 25,qV 27 1,wJ 28 1 27 0,qK 29 1 28,wk 30 152 29,qn 5 182,qn 6 182,qn 7 182,qR 2 5 22,qR 2 6 26,qR 2 7 30],[qO 22 (.qcall 152 [qC 0]),qV 23 1,wJ 24 1 23 0,qK 25 1 24,wk 26 152 25,qV 27 1,wJ 28 1 27 0,qK 29 1 28,wk 30 152 29,qn 6 182,qn 5 182,qn 7 182,qR 2 5 22,qR 2 6 26,qR 2 7 30],[qO 22 (.qcall 152 [qC 0]),qV 23 1,wJ 24 1 23 0,qK 25 1 24,wk 26 152 25,qV 27 1,wJ 28 1 27 0,qK 29 1 28,wk 30 152 29,qn 6 182,qn 7 182,qn 5 182,qR 2 5 22,qR 2 6 26,qR 2 7 30],[qO 22 (.qcall 152 [qC 0]),qV 23 1,wJ 24 1 23 0,qK 25 1 24,wk 26 152 25,qV 27 1,wJ 28 1 27 0,qK 29 1 28,wk 30 152 29,qn 5 182,qn 7 182,qn 6 182,qR 2 5 22,qR 2 6 26,qR 2 7 30],[qO 22 (.qcall 152 [qC 0]),qV 23 1,wJ 24 1 23 0,qK 25 1 24,wk 26 152 25,qV 27 1,wJ 28 1 27 0,qK 29 1 28,wk 30 152 29,qn 7 182,qn 5 182,qn 6 182,qR 2 5 22,qR 2 6 26,qR 2 7 30],[qO 22 (.qcall 152 [qC 0]),qV 23 1,wJ 24 1 23 0,qK 25 1 24,wk 26 152 25,qV 27 1,wJ 28 1 27 0,qK 29 1 28,wk 30 152 29,qn 7 182,qn 6 182,qn 5 182,qR 2 5 22,qR 2 6 26,qR 2 7 30]]) (.seq (qS [qb 8 0] (.block 0 (.loop (.seq (vV 31 8 32 1 33 32 34 31 33 34 0) (.seq (.block 1 (qS [qV 37 1,qV 38 8,qw 39 1 37 38,qK 40 1 39,qf 41 152 40,qn 9 182,qR 2 9 41] (qS [qL 42 2 5,qL 43 2 9,qe 44 153 42 43,qR 2 5 44] (qS [qL 45 2 6,qL 46 2 9,qe 47 154 45 46,qR 2 6 47] (.ops [qL 48 2 7,qL 49 2 9,qe 50 155 48 49,qR 2 7 50]))))) (vP 35 8 36 35 1 8 36)))))) (.seq (qS [qV 51 0] (.block 2 (qS [wQ 53 51 1,qV 52 53] (.cond (.s 52) (qS [qL 54 2 5,qV 55 1,qy 56 55,wk 57 157 56,wM 58 156 54 57,qR 2 4 58] .ret) (qS [wQ 60 51 2,qV 59 60] (.cond (.s 59) (vY 61 2 5 2 4 61) (qS [wQ 63 51 3,qV 62 63] (.cond (.s 62) (vY 64 2 6 2 4 64) (qS [wQ 66 51 4,qV 65 66] (.cond (.s 65) (vY 67 2 7 2 4 67) .skip)))))))))) (qS [qV 68 1,qV 69 1,qy 70 69,wD 71 70 1,qw 72 1 68 71,qK 73 1 72,qf 74 152 73,qR 2 4 74] .ret)))))⟩
theorem zku:zae Tryz.prog loud 90=some zfY:=by kernel_rfl
abbrev zq7:Nat:=91
def zke:AFunc:=⟨36,[(2,none)],qS [qr 1 55 0,qq 2] (.seq (qS [qF 6 2 1,qK 7 1 6,qy 8 7,wK 9 8 4,qV 10 9,wq 10 11 0 1,wr 10 12 1 11,wq 10 13 1 1,wr 10 14 1 13,qN 10 15 (.call 158 [.s 12,.s 14]),vD 10 16 15,we 17 10 16] (vN 17 2)) (qS [qj 3] (.seq (qS [qF 18 2 1,qK 19 1 18,qy 20 19,qb 21 0] (.block 0 (.loop (qS [qB 22 .lss 21 20] (.seq (vM 22 0) (.seq (.block 1 (qS [qw 23 2 19 21,qL 24 2 23,wH 5 112,qR 2 5 24] (.seq (qS [qL 25 2 5,qf 26 159 25,wB 27 26] (vN 27 2)) (.ops [qV 28 3,qL 29 2 5,qf 30 160 29,vB 31 119 2 1 0 30,vp 32 119 2 16 28 31,qV 3 32])))) (vO 33 21 1 21 33))))))) (qS [qV 34 3,qf 35 161 34,qV 2 35] .ret))))⟩
theorem zrj:zae Tryz.prog loud 91=some zke:=by kernel_rfl
abbrev zxl:Nat:=92
def zpc:AFunc:=⟨14,[(2,none)],qS [qr 1 112 0,qj 2] (.seq (qS [qL 4 2 1,qf 5 159 4,wB 6 5] (vU 6 2)) (qS [qF 7 1 1,qK 8 1 7,qf 9 163 8,w7 10 162 9 164,qV 3 10] (qS [qV 11 3,w7 12 165 11 166] (vT 13 3 2 13))))⟩
theorem zx8:zae Tryz.prog loud 92=some zpc:=by kernel_rfl
abbrev zms:Nat:=93
def zgB:AFunc:=⟨54,[],.seq (qS [qV 4 0,qu 5 4,qF 6 10 5,qK 7 1 6,qo 8 7 0] (.cond (.s 8) .ret .skip)) (.seq (qS [qV 9 0,qu 10 9,qF 11 0 10,qF 12 8 11,qK 13 1 12,wQ 14 13 0] (.cond (.s 14) (qS [qV 15 0,qu 16 15,qF 17 0 16,qF 18 9 17,⟨none,none,.store 1 (.s 18) qY⟩] (qS [qV 19 0,qu 20 19,qF 21 10 20,⟨none,none,.store 1 (.s 21) (qC 22)⟩] .ret)) .skip)) (.seq (qS [qV 22 0,qu 23 22,qF 24 0 23,qF 25 8 24,qK 26 1 25,wK 27 26 0] (.cond (.s 27) (.ops [qV 28 0,qu 29 28,qF 30 0 29,qF 31 8 30,qK 32 1 31,wD 33 32 1,qu 34 28,qF 35 0 34,qF 36 8 35,qR 1 36 33]) .skip)) (.ops [qV 38 0,qV 39 0,qV 40 1,qV 41 0,qu 42 41,qF 43 0 42,qF 44 0 43,qL 45 6 44,vl 46 40 45,qV 37 46,qE 47 37 0,qE 48 37 1,qu 49 38,qF 50 0 49,qF 51 0 50,qR 6 51 47,qu 52 39,qF 53 10 52,qR 1 53 48])))⟩
theorem zl7:zae Tryz.prog loud 93=some zgB:=by kernel_rfl
abbrev zeV:Nat:=94
def zfg:AFunc:=⟨10,[(3,some (true,6)),(4,none)],qS [qr 2 30 0,qp 3 30,qb 4 0] (qS [qL 5 6 2,qK 6 1 1,qe 7 95 5 6,qE 8 7 0,qE 9 7 1,qR 6 3 8,qV 4 9] .ret)⟩
theorem zjr:zae Tryz.prog loud 94=some zfg:=by kernel_rfl
theorem ziG : zaE Tryz.prog 94 = true := by kernel_rfl
abbrev zwX:Nat:=95
def zp8:AFunc:=⟨32,[(4,some (true,6)),(5,none)],qS [qr 2 30 0,qp 4 30,qb 5 0] (qS [qL 10 6 2,qV 11 1,qe 12 55 10 11,qV 9 12,qE 13 9 0,qE 14 9 1,qV 6 13,qV 7 14] (.seq (qS [qV 15 7,qo 16 15 0] (v7 16 17 6 2 18 7 6 4 17 5 18)) (qS [qF 19 1 2,qK 20 1 19,qV 21 6,qw 22 3 20 21,qL 23 3 22,wa 8 97,qR 3 8 23] (qS [qF 24 1 8,qK 25 1 24,qy 26 25,qF 27 2 8,qR 1 27 26] (qS [qL 28 6 2,qV 29 6,qL 30 3 8,wo 31 167 28 29 30,qR 6 4 31,qb 5 0] .ret)))))⟩
theorem zwb:zae Tryz.prog loud 95=some zp8:=by kernel_rfl
abbrev zeg:Nat:=97
def zec:AFunc:=⟨10,[(3,some (true,6)),(4,none)],qS [qr 2 30 0,qp 3 30,qb 4 0] (qS [qL 5 6 2,qK 6 1 1,qe 7 98 5 6,qE 8 7 0,qE 9 7 1,qR 6 3 8,qV 4 9] .ret)⟩
theorem zid:zae Tryz.prog loud 97=some zec:=by kernel_rfl
theorem zhT : zaE Tryz.prog 97 = true := by kernel_rfl
abbrev zsO:Nat:=98
def zlR:AFunc:=⟨55,[(4,some (true,6)),(5,none)],qS [qr 2 30 0,qp 4 30,qb 5 0] (.seq (qS [qL 10 6 2,qV 11 1,qe 12 55 10 11,qV 9 12,qE 13 9 0,qE 14 9 1,qV 6 13,qV 7 14] (.block 0 (qS [qV 16 7,wQ 17 16 1,qV 15 17] (.cond (.s 15) (vW 18 6 2 19 7 6 4 18 5 19) (qS [qV 21 7,wQ 22 21 0,qV 20 22] (.cond (.s 20) (vR 23 6 2 6 4 23 5 5) (qS [qF 25 1 2,qK 26 1 25,qy 27 26,wE 28 27 256,qV 29 28,wq 29 30 5 2,wr 29 31 1 30,qN 29 32 (.bin .geq (.s 31) (qC 1099511627776)),we 33 29 32,qV 24 33] (ua 24 34 6 2 6 4 34 5 11)))))))) (qS [qF 35 5 2,qK 36 1 35,qV 8 36] (qS [qL 37 6 2,qV 38 1,qV 39 8,qO 40 (.build [qI 0,.str [],.str [],qI 0] [(0,1,qC 1),(1,1,.s 38),(3,1,.s 39)]),qe 41 169 37 40,qR 6 2 41] (qS [qF 42 1 2,qK 43 1 42,qf 44 170 43,qV 45 8,qO 46 (.build [qI 0,.nils,qI 0] [(0,1,.s 45)]),qO 47 (.mklst 97 3 [qI 0,.nils,qI 0] 1 [(0,.s 46)]),vp 48 97 3 40 44 47,qF 49 1 2,qR 1 49 48] (qS [qF 50 5 2,qK 51 1 50,wg 52 51 1,qF 53 5 2,qR 1 53 52] (vR 54 6 2 6 4 54 5 0))))))⟩
theorem zt3:zae Tryz.prog loud 98=some zlR:=by kernel_rfl
abbrev zfx:Nat:=99
def zfs:AFunc:=⟨12,[(4,some (true,6)),(5,none)],qS [qr 3 30 0,qp 4 30,qb 5 0] (qS [qL 6 6 3,qK 7 1 1,qK 8 1 2,wo 9 100 6 7 8,qE 10 9 0,qE 11 9 1,qR 6 4 10,qV 5 11] .ret)⟩
theorem zjI:zae Tryz.prog loud 99=some zfs:=by kernel_rfl
theorem zjK : zaE Tryz.prog 99 = true := by kernel_rfl
abbrev ztr:Nat:=100
def zl4:AFunc:=⟨47,[(6,some (true,6)),(7,none)],qS [qr 3 30 0,qp 6 30,qb 7 0] (qS [qL 12 6 3,qV 13 1,qe 14 55 12 13,qV 11 14,qE 15 11 0,qE 16 11 1,qV 8 15,qV 9 16] (.seq (.block 0 (qS [qV 18 9,qo 19 18 0,qV 17 19] (.cond (.s 17) (vW 20 6 3 21 9 6 6 20 7 21) (qS [qV 23 2,qy 24 23,qF 25 0 3,qK 26 1 25,qL 27 6 3,wk 28 11 27,qB 29 .sub 26 28,qB 30 .gtr 24 29,qV 22 30] (ua 22 31 6 3 6 6 31 7 6))))) (qS [qF 32 1 3,qK 33 1 32,qV 34 8,qw 35 3 33 34,qL 36 3 35,wa 10 97,qR 3 10 36] (qS [qF 37 1 10,qK 38 1 37,qV 39 2,qO 40 (.mklst 70 1 [.nils] 2 [(0,.s 38),(1,.s 39)]),qf 41 70 40,qF 42 1 10,qR 1 42 41] (qS [qL 43 6 3,qV 44 8,qL 45 3 10,wo 46 167 43 44 45,qR 6 6 46,qb 7 0] .ret)))))⟩
theorem zsw:zae Tryz.prog loud 100=some zl4:=by kernel_rfl
abbrev zei:Nat:=101
def zee:AFunc:=⟨12,[(4,some (true,6)),(5,none)],qS [qr 3 30 0,qp 4 30,qb 5 0] (qS [qL 6 6 3,qK 7 1 1,qK 8 1 2,wo 9 102 6 7 8,qE 10 9 0,qE 11 9 1,qR 6 4 10,qV 5 11] .ret)⟩
theorem zhM:zae Tryz.prog loud 101=some zee:=by kernel_rfl
theorem zh7 : zaE Tryz.prog 101 = true := by kernel_rfl
abbrev ztt:Nat:=102
def zll:AFunc:=⟨36,[(6,some (true,6)),(7,none)],qS [qr 3 30 0,qp 6 30,qb 7 0] (qS [qL 11 6 3,qV 12 1,qe 13 55 11 12,qV 10 13,qE 14 10 0,qE 15 10 1,qV 8 14,qV 9 15] (.seq (.block 0 (qS [qV 17 2,qf 18 73 17,wB 19 18,qV 16 19] (.cond (.s 16) (vR 20 6 3 6 6 20 7 1) (qS [qV 22 9,qo 23 22 0,qV 24 23,qz 24 25 1,qz 24 26 2,qN 24 27 (.bin .eql (.s 25) (.s 26)),we 28 24 27,qV 21 28] (v7 21 29 6 3 30 9 6 6 29 7 30))))) (qS [qL 31 6 3,qV 32 1,qV 33 2,qO 34 (.build [qI 0,.str [],.str [],qI 0] [(0,1,qC 3),(1,1,.s 32),(2,1,.s 33)]),qe 35 169 31 34,qR 6 6 35,qb 7 0] .ret)))⟩
theorem zs6:zae Tryz.prog loud 102=some zll:=by kernel_rfl
abbrev zkc:Nat:=103
def zkb:AFunc:=⟨12,[(2,some (true,6)),(3,none)],qS [qr 1 30 0,qp 2 30,qb 3 0] (.seq (qS [qL 4 6 1,qf 5 12 4,wB 6 5] (ua 6 7 6 1 6 2 7 3 1)) (qS [qL 8 6 1,qF 9 2 1,qK 10 1 9,qe 11 115 8 10,qR 6 2 11,qb 3 0] .ret))⟩
theorem zqL:zae Tryz.prog loud 103=some zkb:=by kernel_rfl
theorem zqM : zaE Tryz.prog 103 = true := by kernel_rfl
abbrev zdV:Nat:=104
def zbV:AFunc:=⟨42,[(4,none)],qS [qj 4] (qS [qV 8 0,qV 9 1,qe 10 171 8 9,qV 5 10] (.seq (qS [qV 11 5,vF 12 11] (vS 12 13 0 4 13)) (.seq (qS [qV 14 5,wg 15 14 1,qV 6 15] (.block 0 (.loop (.seq (vV 16 6 17 0 18 17 19 16 18 19 0) (.seq (.block 1 (qS [qV 22 0,qV 23 6,qw 24 1 22 23,qK 25 1 24,qV 7 25] (qS [qV 26 1,qV 27 7,vl 28 26 27,wB 29 28] (.cond (.s 29) (qS [qV 30 0,qV 31 5,qV 32 7,qw 33 1 30 31,qR 1 33 32] (vP 34 5 35 34 1 5 35)) .skip)))) (vP 20 6 21 20 1 6 21)))))) (qS [qV 36 0,qV 37 5,qt 38 1 36 37,⟨none,none,.ex (.clr 1 [.str []] (.s 38))⟩] (qS [qV 39 0,qV 40 5,wu 41 1 39 40,qV 4 41] .ret)))))⟩
theorem zem:zae Tryz.prog loud 104=some zbV:=by kernel_rfl
abbrev zjp:Nat:=105
def zgh:AFunc:=⟨14,[(4,none)],qS [qq 4] (qS [qV 5 0,qK 6 1 1,qB 7 .eql 5 6,qV 8 7,qz 8 9 0,wr 8 10 1 2,qN 8 11 (.call 106 [.s 9,.s 10]),vD 8 12 11,we 13 8 12,qV 4 13] .ret)⟩
theorem zqh:zae Tryz.prog loud 105=some zgh:=by kernel_rfl
theorem zoW : zaE Tryz.prog 105 = true := by kernel_rfl
abbrev zdX:Nat:=107
def zef:AFunc:=⟨10,[(3,some (true,6)),(4,none)],qS [qr 2 30 0,qp 3 30,qb 4 0] (qS [qL 5 6 2,qK 6 1 1,qe 7 108 5 6,qE 8 7 0,qE 9 7 1,qR 6 3 8,qV 4 9] .ret)⟩
theorem zh5:zae Tryz.prog loud 107=some zef:=by kernel_rfl
theorem zhU : zaE Tryz.prog 107 = true := by kernel_rfl
abbrev zs7:Nat:=108
def zlf:AFunc:=⟨22,[(4,some (true,6)),(5,none)],qS [qr 2 30 0,qp 4 30,qb 5 0] (.seq (qS [qL 9 6 2,qV 10 1,qe 11 55 9 10,qV 8 11,qE 12 8 0,qE 13 8 1,qV 6 12,qV 7 13] (qS [qV 14 7,qo 15 14 0] (v7 15 16 6 2 17 7 6 4 16 5 17))) (qS [qL 18 6 2,qV 19 1,qO 20 (.build [qI 0,.str [],.str [],qI 0] [(0,1,qC 2),(1,1,.s 19)]),qe 21 169 18 20,qR 6 4 21,qb 5 0] .ret))⟩
theorem zsJ:zae Tryz.prog loud 108=some zlf:=by kernel_rfl
abbrev zcm:Nat:=109
def zaT:AFunc:=⟨49,[(6,none),(7,none)],qS [qb 6 0,qq 7] (qS [qV 12 0,qy 13 12,qV 8 13] (qS [qV 14 8,qb 9 0,qV 10 14] (.seq (.block 0 (.loop (.seq (qS [qV 15 9,qV 16 10,qB 17 .lss 15 16] (vM 17 0)) (.block 1 (qS [qV 18 9,qV 19 10,qB 20 .add 18 19,wL 21 20,vx 22 21,wW 23 22,qV 11 23] (qS [qV 24 2,qV 25 0,qV 26 11,qw 27 3 25 26,qL 28 3 27,qV 29 1,qO 30 (.callv (.s 24) [.s 28,.s 29]),qx 31 30 0] (.cond (.s 31) (vP 32 11 33 32 1 9 33) (.ops [qV 34 11,qV 10 34])))))))) (qS [qV 35 9,qV 36 9,qV 37 8,qB 38 .lss 36 37,qV 39 38,q8 39 40 2,q8 39 41 0,q8 39 42 9,qT 39 43 (qJ 3 41 42),wG 39 44 3 43,q8 39 45 1,qT 39 46 (.callv (.s 40) [.s 44,.s 45]),qT 39 47 (qW 46 0),wm 48 39 47,qV 6 35,qV 7 48] .ret))))⟩
theorem zcl:zae Tryz.prog loud 109=some zaT:=by kernel_rfl
abbrev zlM:Nat:=110
def zlx:AFunc:=⟨9,[(4,none)],qS [qr 2 97 0,qb 4 0] (qS [qF 5 0 2,qK 6 1 5,qV 7 1,qe 8 111 6 7,qV 4 8] .ret)⟩
theorem ztc:zae Tryz.prog loud 110=some zlx:=by kernel_rfl
theorem zsB : zaE Tryz.prog 110 = true := by kernel_rfl
abbrev zmF:Nat:=111
abbrev zkm:Nat:=115
def zgE:AFunc:=⟨33,[(4,some (true,6))],qS [qr 2 30 0,qp 4 30] (qS [qO 8 (.ex .mkmap),qO 5 (.alloc 99 [.nilm]),qR 1 5 8] (.seq (qS [qV 9 1,qy 10 9,qb 11 0] (.block 0 (.loop (qS [qB 12 .lss 11 10] (.seq (vM 12 0) (.seq (.block 1 (qS [qw 13 2 9 11,qL 14 2 13,qO 7 (.alloc 101 [.str [],qI 0]),qR 2 7 14] (.ops [qK 15 1 5,qF 16 1 7,qK 17 1 16,⟨none,none,.ex (.mset 0 (.s 15) (.s 17) qY)⟩]))) (vO 18 11 1 11 18))))))) (qS [qV 19 1,qf 20 141 19,qV 21 1,qf 22 141 21,qF 23 2 2,qR 1 23 20,qF 24 3 2,qR 1 24 22,qF 25 4 2,⟨none,none,.store 1 (.s 25) (.c .nils)⟩] (qS [qF 26 1 2,qK 27 1 26,qf 28 170 27,vC 29 179 5,qe 30 178 28 29,qF 31 1 2,qR 1 31 30] (vY 32 6 2 6 4 32)))))⟩
theorem zjT:zae Tryz.prog loud 115=some zgE:=by kernel_rfl
abbrev znQ:Nat:=124
def zi2:AFunc:=⟨54,[(2,some (true,3)),(3,none)],qS [qr 1 52 0,wd 2 55,qb 3 0] (.seq (qS [qF 9 1 1,qK 10 1 9,qF 11 2 1,qK 12 1 11,qe 13 158 10 12,wB 14 13,qV 15 14,wq 15 16 0 1,wr 15 17 1 16,wV 15 18 161 17,vD 15 19 18,we 20 15 19] (.cond (.s 20) (qS [vh 21,qR 3 2 21,qb 3 1] .ret) .skip)) (qS [qF 22 1 1,qK 23 1 22,qF 24 2 1,qK 25 1 24,qO 26 (.build [qI 0,qI 0,.nils] [(0,1,.s 23),(1,1,.s 25)]),wd 4 55,qR 3 4 26] (.seq (qS [qF 27 0 1,qK 28 1 27,qy 29 28,qb 30 0] (.block 0 (.loop (qS [qB 31 .lss 30 29] (.seq (vM 31 0) (.seq (.block 1 (qS [qw 32 2 28 30,qL 33 2 32,wN 6 119,qR 2 6 33] (qS [qF 35 0 6,qK 36 1 35,qF 37 1 6,qK 38 1 37,qe 39 187 36 38,qV 34 39,qE 40 34 0,qE 41 34 1,wH 7 112,qR 2 7 40,qV 8 41] (.seq (qS [qV 42 8,qo 43 42 0] (.cond (.s 43) (qS [vh 44,qV 45 8,qR 3 2 44,qV 3 45] .ret) .skip)) (.ops [qF 46 2 4,qK 47 1 46,qL 48 2 7,qO 49 (.mklst 112 2 [qI 0,.nils] 1 [(0,.s 48)]),vp 50 112 2 32 47 49,qF 51 2 4,qR 1 51 50]))))) (vO 52 30 1 30 52))))))) (vR 53 3 4 3 2 53 3 0))))⟩
theorem zok:zae Tryz.prog loud 124=some zi2:=by kernel_rfl
abbrev ziU:Nat:=127
def zfX:AFunc:=⟨119,[(6,some (true,3)),(7,none)],qS [qr 3 55 0,qr 4 117 1,qr 5 3 2,wd 6 55,qb 7 0] (.seq (.block 0 (qS [qF 18 0 4,qK 19 1 18,qf 20 192 19,wB 21 20,qV 22 21,wr 22 23 1 5,wV 22 24 192 23,vD 22 25 24,we 26 22 25,qV 27 26,wq 27 28 1 4,wr 27 29 1 28,vm 27 30 29,we 31 27 30,qV 32 31,w8 32 33 3 3,wV 32 34 91 33,vD 32 35 34,we 36 32 35,qV 17 36] (.cond (.s 17) (vR 37 3 3 3 6 37 7 1) (qS [qF 39 0 4,qK 40 1 39,qK 41 1 5,qB 42 .gtr 40 41,qV 38 42] (ua 38 43 3 3 3 6 43 7 3))))) (qS [qF 44 2 3,qK 45 1 44,qO 46 (.mkfn (.func 194) [] [.s 4,.s 5]),qe 47 193 45 46,qV 8 47] (.seq (qS [qV 48 8,qx 49 48 0] (ua 49 50 3 3 3 6 50 7 14)) (qS [qF 51 2 3,qK 52 1 51,qf 53 196 52,qV 9 53] (qS [qF 54 0 4,qK 55 1 54,qF 56 1 4,qK 57 1 56,qV 10 55,qV 11 57] (.seq (qS [qV 58 8,qV 12 58] (.block 1 (.loop (.seq (vV 59 12 60 9 61 60 62 59 61 62 1) (.seq (.block 2 (.seq (qS [qV 65 9,qV 66 12,qw 67 2 65 66,qL 68 2 67,qV 69 10,qK 70 1 5,vr 71 195 68 69 70,wB 72 71] (v6 72 2)) (.seq (qS [qV 73 12,qV 74 8,qB 75 .gtr 73 74] (.cond (.s 75) (qS [qV 76 9,qV 77 12,qw 78 2 76 77,qF 79 0 78,qK 80 1 79,qV 13 80] (qS [qL 81 3 3,qV 82 9,qV 83 12,wD 84 83 1,qw 85 2 82 84,qL 86 2 85,qV 87 10,qV 88 10,qV 89 13,qB 90 .rem 88 89,qB 91 .sub 87 90,qV 92 13,qO 93 (.qcall 197 [.s 81,.s 86,.s 91,.s 92]),qn 14 182,qR 2 14 93] (.seq (qS [qF 94 0 14,qK 95 1 94] (v6 95 2)) (.ops [qF 96 1 14,qK 97 1 96,qV 11 97])))) .skip)) (qS [qV 99 9,qV 100 12,qw 101 2 99 100,qL 102 2 101,qV 103 10,qV 104 11,wo 105 191 102 103 104,qV 98 105,qE 106 98 0,qE 107 98 1,wH 15 112,qR 2 15 106,qV 16 107] (.seq (qS [qV 108 16,qo 109 108 0] (v7 109 110 3 3 111 16 3 6 110 7 111)) (.ops [qV 112 9,qV 113 12,qL 114 2 15,qw 115 2 112 113,qR 2 115 114])))))) (vP 63 12 64 63 1 12 64)))))) (qS [qV 116 9,qF 117 2 3,qR 1 117 116] (vR 118 3 3 3 6 118 7 0))))))))⟩
theorem zjq:zae Tryz.prog loud 127=some zfX:=by kernel_rfl
abbrev zbF:Nat:=128
def zbH:AFunc:=⟨8,[(2,none)],qS [qj 2] (.seq (qS [qV 3 0,vz 4 3] (vU 4 2)) (qS [qO 5 (.mkrow 57 11 [qI 0,.str [],.nils,qI 0,qI 0,qI 0,qI 0,.nils,qI 0,qI 0,qI 0] 0 []),qV 6 0,vp 7 57 11 128 5 6,qV 2 7] .ret))⟩
theorem zdv:zae Tryz.prog loud 128=some zbH:=by kernel_rfl
abbrev zb6:Nat:=129
def zaB:AFunc:=⟨95,[(6,none)],qS [qj 6] (qS [qV 10 0,qV 11 1,qt 12 11 10 11] (qS [qV 13 2,qy 14 13,qV 7 14] (.seq (qS [qV 15 7,wQ 16 15 0] (vS 16 17 0 6 17)) (qS [qV 18 0,qy 19 18,qV 8 19] (.seq (qS [qV 20 1,qV 21 8,qB 22 .eql 20 21] (.cond (.s 22) (qS [qV 23 0,qV 24 2,vp 25 57 11 128 23 24,qV 6 25] .ret) .skip)) (.seq (qS [qV 26 8,qV 27 7,qB 28 .add 26 27,qV 29 0,⟨none,none,.bad⟩,qB 31 .gtr 28 30] (.cond (.s 31) (qS [qV 32 0,qV 33 1,wu 34 11 32 33,qV 35 8,qV 36 7,qB 37 .add 35 36,qV 38 1,qB 39 .sub 37 38,⟨none,none,.bad⟩,qV 9 40] (qS [qV 41 9,qV 42 1,qt 43 11 41 42,qV 44 2,wU 45 11 43 44] (qS [qV 46 9,qV 47 1,qV 48 7,qB 49 .add 47 48,qt 50 11 46 49,qV 51 0,qV 52 1,qt 53 11 51 52,wU 54 11 50 53] (vT 55 9 6 55)))) .skip)) (qS [qV 56 0,qV 57 8,qV 58 7,qB 59 .add 57 58,wu 60 11 56 59,qV 0 60] (.seq (qS [qV 61 2,qV 62 0,qV 63 1,qV 64 7,qB 65 .add 63 64,qt 66 11 62 65,⟨none,none,.bad⟩,wB 68 67] (.cond (.s 68) (qS [qV 69 0,qV 70 1,qV 71 7,qB 72 .add 70 71,qt 73 11 69 72,qV 74 0,qV 75 1,qt 76 11 74 75,wU 77 11 73 76] (qS [qV 78 0,qV 79 1,qt 80 11 78 79,qV 81 2,wU 82 11 80 81] (vT 83 0 6 83))) .skip)) (qS [qV 84 0,qV 85 8,qt 86 11 84 85,qV 87 2,wU 88 11 86 87] (qS [qV 89 0,qV 90 1,qt 91 11 89 90,qV 92 7,qe 93 199 91 92] (vT 94 0 6 94)))))))))))⟩
theorem zb4:zae Tryz.prog loud 129=some zaB:=by kernel_rfl
abbrev ztl:Nat:=130
def zlj:AFunc:=⟨26,[(2,none),(3,none)],qS [qj 2,qb 3 0] (qS [qV 9 0,qf 10 200 9,qV 8 10,qE 11 8 0,qE 12 8 1,qV 4 11,qV 5 12] (.seq (qS [qV 13 5,wB 14 13] (vX 14 2 3 13)) (.seq (qS [qV 15 4,qy 16 15,qb 17 0] (.block 0 (.loop (qS [qB 18 .lss 17 16] (.seq (vM 18 0) (.seq (.block 1 (qS [qw 19 1 15 17,qK 20 1 19,qV 7 20] (qS [qV 21 7,qf 22 201 21,wB 23 22] (vX 23 2 3 13)))) (vO 24 17 1 17 24))))))) (qS [qV 25 4,qV 2 25,qb 3 0] .ret))))⟩
theorem ztq:zae Tryz.prog loud 130=some zlj:=by kernel_rfl
abbrev ze6:Nat:=131
def zcp:AFunc:=⟨8,[(2,none)],qS [qj 2] (.seq (qS [qV 3 0,vz 4 3] (vU 4 2)) (qS [qO 5 (.mkrow 119 2 [qI 0,qI 0] 0 []),qV 6 0,vp 7 119 2 16 5 6,qV 2 7] .ret))⟩
theorem ze0:zae Tryz.prog loud 131=some zcp:=by kernel_rfl
abbrev zhG:Nat:=132
def zf2:AFunc:=⟨96,[(2,none),(3,none)],qS [qr 1 74 0,qj 2,qb 3 0] (.seq (qS [qL 7 9 1,qf 8 202 7,wB 9 8] (vX 9 2 3 1)) (qS [qF 10 0 1,qK 11 1 10,qO 12 (.conv .u8 (.s 11)),qO 13 (.mkrow 5 1 [.int .u8 0] 1 [(0,.s 12)]),qO 14 (.build [.nils] [(0,1,.s 13)]),qr 15 268 14,qV 4 15] (.seq (qS [qF 16 0 1,qK 17 1 16] (.block 0 (qS [wQ 19 17 1,qV 18 19] (.cond (.s 18) (qS [qV 20 4,qF 21 1 1,qK 22 1 21,qO 23 (.slen (.s 22)),vf 24 203 20 23 2] (qS [qV 25 4,qV 26 4,qu 27 26,qF 28 0 27,qK 29 1 28,qF 30 1 1,qK 31 1 30,qO 32 (.apps 5 (.s 29) (.s 31)),qu 33 25,qF 34 0 33,qR 1 34 32] (qS [qV 35 4,qF 36 2 1,qK 37 1 36,vf 38 203 35 37 1] (qS [qV 39 4,qF 40 3 1,qK 41 1 40,vf 42 203 39 41 4] (qS [qV 43 4,qF 44 4 1,qK 45 1 44,qy 46 45,vf 47 203 43 46 1] (qS [qF 48 4 1,qK 49 1 48,qy 50 49,qb 51 0] (.block 1 (.loop (qS [qB 52 .lss 51 50] (.seq (vM 52 1) (.seq (.block 2 (qS [qw 53 2 49 51,qL 54 2 53,wN 6 119,qR 2 6 54] (qS [qV 55 4,qF 56 0 6,qK 57 1 56,vf 58 203 55 57 4] (.ops [qV 59 4,qF 60 1 6,qK 61 1 60,vf 62 203 59 61 2])))) (vO 63 51 1 51 63)))))))))))) (qS [wQ 65 17 2,qV 64 65] (.cond (.s 64) (qS [qV 66 4,qF 67 6 1,qK 68 1 67,vf 69 203 66 68 8] (qS [qV 70 4,qF 71 7 1,qK 72 1 71,vf 73 203 70 72 8] (.ops [qV 74 4,qF 75 8 1,qK 76 1 75,vf 77 203 74 76 8]))) (qS [wQ 79 17 3,qV 78 79] (.cond (.s 78) (qS [qV 80 4,qF 81 5 1,qK 82 1 81,vf 83 203 80 82 1] (qS [qV 84 4,qF 85 6 1,qK 86 1 85,vf 87 203 84 86 8] (.ops [qV 88 4,qF 89 8 1,qK 90 1 89,vf 91 203 88 90 8]))) .skip)))))))) (qS [qV 92 4,qu 93 92,qF 94 0 93,qK 95 1 94,qV 2 95,qb 3 0] .ret))))⟩
theorem zif:zae Tryz.prog loud 132=some zf2:=by kernel_rfl
abbrev zwk:Nat:=133
def zp1:AFunc:=⟨23,[(2,none),(3,none)],qS [qj 2,qb 3 0] (qS [qV 5 0,qy 6 5,qV 4 6] (.seq (.block 0 (qS [qV 8 4,wQ 9 8 0,qV 7 9] (.cond (.s 7) (qS [qj 2,qb 3 1] .ret) (qS [qV 11 4,wK 12 11 512,qV 10 12] (vX 10 2 3 12))))) (qS [qV 13 4,qO 14 (.conv .u8 (.s 13)),qV 15 4,qO 16 (.px (.bit .shr (.s 15) (.c (.int .u64 8)))),qO 17 (.conv .u8 (.s 16)),qO 18 (.mklst 5 1 [.int .u8 0] 2 [(0,.s 14),(1,.s 17)]),qV 19 0,qO 20 (.mklst 70 1 [.nils] 2 [(0,.s 18),(1,.s 19)]),qf 21 70 20,qf 22 204 21,qV 2 22,qb 3 0] .ret)))⟩
theorem zvZ:zae Tryz.prog loud 133=some zp1:=by kernel_rfl
abbrev zhJ:Nat:=134
abbrev zhW:Nat:=135
def zek:AFunc:=⟨26,[(4,none)],qS [qq 4] (.seq (ue 6 0 7 6 8 1 9 8 10 7 9 10 4) (.seq (qS [qb 5 0] (.block 0 (.loop (.seq (vV 11 5 12 0 13 12 14 11 13 14 0) (.seq (.block 1 (qS [qV 17 0,qV 18 5,qw 19 2 17 18,qL 20 2 19,qV 21 1,qV 22 5,qw 23 2 21 22,qL 24 2 23,qO 25 (.eqs true [1,0] (.s 20) (.s 24))] (vN 25 4))) (vP 15 5 16 15 1 5 16)))))) (vZ 4)))⟩
theorem zhA:zae Tryz.prog loud 135=some zek:=by kernel_rfl
abbrev zlF:Nat:=136
def zg8:AFunc:=⟨26,[(4,none)],qS [qq 4] (.seq (ue 6 0 7 6 8 1 9 8 10 7 9 10 4) (.seq (qS [qb 5 0] (.block 0 (.loop (.seq (vV 11 5 12 0 13 12 14 11 13 14 0) (.seq (.block 1 (qS [qV 17 0,qV 18 5,qw 19 1 17 18,qK 20 1 19,qV 21 1,qV 22 5,qw 23 1 21 22,qK 24 1 23,qB 25 .neq 20 24] (vN 25 4))) (vP 15 5 16 15 1 5 16)))))) (vZ 4)))⟩
theorem zmk:zae Tryz.prog loud 136=some zg8:=by kernel_rfl
abbrev zhc:Nat:=137
def zdH:AFunc:=⟨52,[(4,none)],qS [qr 2 57 0,qr 3 57 1,qq 4] (qS [qF 5 0 2,qK 6 1 5,qF 7 0 3,qK 8 1 7,qB 9 .eql 6 8,qV 10 9,wv 10 11 1 2,wC 10 12 1 11,wv 10 13 1 3,wC 10 14 1 13,wS 10 15 12 14,wm 16 10 15,qV 17 16,wv 17 18 2 2,wG 17 19 3 18,wv 17 20 2 3,wG 17 21 3 20,qT 17 22 (.call 18 [.s 19,.s 21]),wm 23 17 22,qV 24 23,wv 24 25 5 2,wG 24 26 3 25,wv 24 27 5 3,wG 24 28 3 27,qT 24 29 (.call 15 [.s 26,.s 28]),wm 30 24 29,qV 31 30,wv 31 32 8 2,wC 31 33 1 32,wv 31 34 8 3,wC 31 35 1 34,wS 31 36 33 35,wm 37 31 36,qV 38 37,wv 38 39 9 2,wC 38 40 1 39,wv 38 41 9 3,wC 38 42 1 41,wS 38 43 40 42,wm 44 38 43,qV 45 44,wv 45 46 10 2,wC 45 47 1 46,wv 45 48 10 3,wC 45 49 1 48,wS 45 50 47 49,wm 51 45 50,qV 4 51] .ret)⟩
theorem zhd:zae Tryz.prog loud 137=some zdH:=by kernel_rfl
abbrev zbO:Nat:=138
def zaL:AFunc:=⟨49,[(6,none),(7,none)],qS [qb 6 0,qq 7] (qS [qV 12 0,qy 13 12,qV 8 13] (qS [qV 14 8,qb 9 0,qV 10 14] (.seq (.block 0 (.loop (.seq (qS [qV 15 9,qV 16 10,qB 17 .lss 15 16] (vM 17 0)) (.block 1 (qS [qV 18 9,qV 19 10,qB 20 .add 18 19,wL 21 20,vx 22 21,wW 23 22,qV 11 23] (qS [qV 24 2,qV 25 0,qV 26 11,qw 27 2 25 26,qL 28 2 27,qV 29 1,qO 30 (.callv (.s 24) [.s 28,.s 29]),qx 31 30 0] (.cond (.s 31) (vP 32 11 33 32 1 9 33) (.ops [qV 34 11,qV 10 34])))))))) (qS [qV 35 9,qV 36 9,qV 37 8,qB 38 .lss 36 37,qV 39 38,q8 39 40 2,q8 39 41 0,q8 39 42 9,qT 39 43 (qJ 2 41 42),wG 39 44 2 43,q8 39 45 1,qT 39 46 (.callv (.s 40) [.s 44,.s 45]),qT 39 47 (qW 46 0),wm 48 39 47,qV 6 35,qV 7 48] .ret))))⟩
theorem zbN:zae Tryz.prog loud 138=some zaL:=by kernel_rfl
abbrev zkt:Nat:=139
def zkj:AFunc:=⟨9,[(4,none)],qS [qr 2 101 0,qb 4 0] (qS [qF 5 0 2,qK 6 1 5,qV 7 1,qe 8 79 6 7,qV 4 8] .ret)⟩
theorem zqB:zae Tryz.prog loud 139=some zkj:=by kernel_rfl
theorem zq5 : zaE Tryz.prog 139 = true := by kernel_rfl
abbrev zca:Nat:=140
def zaH:AFunc:=⟨95,[(6,none)],qS [qj 6] (qS [qV 10 0,qV 11 1,qt 12 2 10 11] (qS [qV 13 2,qy 14 13,qV 7 14] (.seq (qS [qV 15 7,wQ 16 15 0] (vS 16 17 0 6 17)) (qS [qV 18 0,qy 19 18,qV 8 19] (.seq (qS [qV 20 1,qV 21 8,qB 22 .eql 20 21] (.cond (.s 22) (qS [qV 23 0,qV 24 2,vp 25 101 2 24 23 24,qV 6 25] .ret) .skip)) (.seq (qS [qV 26 8,qV 27 7,qB 28 .add 26 27,qV 29 0,⟨none,none,.bad⟩,qB 31 .gtr 28 30] (.cond (.s 31) (qS [qV 32 0,qV 33 1,wu 34 2 32 33,qV 35 8,qV 36 7,qB 37 .add 35 36,qV 38 1,qB 39 .sub 37 38,⟨none,none,.bad⟩,qV 9 40] (qS [qV 41 9,qV 42 1,qt 43 2 41 42,qV 44 2,wU 45 2 43 44] (qS [qV 46 9,qV 47 1,qV 48 7,qB 49 .add 47 48,qt 50 2 46 49,qV 51 0,qV 52 1,qt 53 2 51 52,wU 54 2 50 53] (vT 55 9 6 55)))) .skip)) (qS [qV 56 0,qV 57 8,qV 58 7,qB 59 .add 57 58,wu 60 2 56 59,qV 0 60] (.seq (qS [qV 61 2,qV 62 0,qV 63 1,qV 64 7,qB 65 .add 63 64,qt 66 2 62 65,⟨none,none,.bad⟩,wB 68 67] (.cond (.s 68) (qS [qV 69 0,qV 70 1,qV 71 7,qB 72 .add 70 71,qt 73 2 69 72,qV 74 0,qV 75 1,qt 76 2 74 75,wU 77 2 73 76] (qS [qV 78 0,qV 79 1,qt 80 2 78 79,qV 81 2,wU 82 2 80 81] (vT 83 0 6 83))) .skip)) (qS [qV 84 0,qV 85 8,qt 86 2 84 85,qV 87 2,wU 88 2 86 87] (qS [qV 89 0,qV 90 1,qt 91 2 89 90,qV 92 7,qe 93 206 91 92] (vT 94 0 6 94)))))))))))⟩
theorem zcf:zae Tryz.prog loud 140=some zaH:=by kernel_rfl
abbrev zbk:Nat:=141
def zbj:AFunc:=⟨8,[(2,none)],qS [qj 2] (.seq (qS [qV 3 0,vz 4 3] (vU 4 2)) (qS [qO 5 (.mkrow 101 2 [.str [],qI 0] 0 []),qV 6 0,vp 7 101 2 24 5 6,qV 2 7] .ret))⟩
theorem zct:zae Tryz.prog loud 141=some zbj:=by kernel_rfl
abbrev zjL:Nat:=144
def zft:AFunc:=⟨21,[(2,none)],qS [qr 1 119 0,qq 2] (qS [qF 3 0 1,qK 4 1 3,wE 5 4 1,qV 6 5,wv 6 7 0 1,wC 6 8 1 7,ww 6 9 8 86400,wm 10 6 9,qV 11 10,wv 11 12 1 1,wC 11 13 1 12,vg 11 14 13 1,wm 15 11 14,qV 16 15,wv 16 17 1 1,wC 16 18 1 17,ww 16 19 18 400,wm 20 16 19,qV 2 20] .ret)⟩
theorem zjF:zae Tryz.prog loud 144=some zft:=by kernel_rfl
abbrev zkx:Nat:=145
def zgj:AFunc:=⟨11,[(2,none)],qS [qr 1 119 0,qb 2 0] (.seq (qS [qL 3 2 1,qf 4 144 3,wB 5 4] (.cond (.s 5) (qS [qb 2 0] .ret) .skip)) (qS [qF 6 0 1,qK 7 1 6,qF 8 1 1,qK 9 1 8,qB 10 .mul 7 9,qV 2 10] .ret))⟩
theorem zkv:zae Tryz.prog loud 145=some zgj:=by kernel_rfl
abbrev zkw:Nat:=146
def zfU:AFunc:=⟨34,[(2,none)],qS [qr 1 55 0,qj 2] (qS [qj 3] (.seq (qS [qb 4 0] (.block 0 (.loop (.seq (qS [qV 5 4,qF 6 2 1,qK 7 1 6,qy 8 7,qB 9 .lss 5 8,qV 10 9,q8 10 11 4,qT 10 12 (.bin .lss (.s 11) (qC 10)),wm 13 10 12] (vM 13 0)) (.seq (.block 1 (.ops [qV 16 3,qF 17 2 1,qK 18 1 17,qV 19 4,qw 20 2 18 19,qF 21 0 20,qK 22 1 21,qF 23 2 1,qK 24 1 23,qV 25 4,qw 26 2 24 25,qF 27 1 26,qK 28 1 27,qy 29 28,wR 30 0 1 22 1 1 29,vB 31 119 2 1 0 30,vp 32 119 2 16 16 31,qV 3 32])) (vP 14 4 15 14 1 4 15)))))) (vT 33 3 2 33)))⟩
theorem zle:zae Tryz.prog loud 146=some zfU:=by kernel_rfl
abbrev zkW:Nat:=147
def zfH:AFunc:=⟨73,[(2,none)],qS [qr 1 112 0,qq 2] (.seq (qS [qF 5 0 1,qK 6 1 5,qx 7 6 1,qV 8 7,wq 8 9 0 1,wr 8 10 1 9,wz 8 11 10 86400,we 12 8 11,qV 13 12,wq 13 14 1 1,wr 13 15 1 14,vE 13 16 15,vt 13 17 16 1,we 18 13 17,qV 19 18,wq 19 20 1 1,wr 19 21 1 20,vE 19 22 21,wz 19 23 22 400,we 24 19 23] (vN 24 2)) (.seq (qS [qb 3 0] (.block 0 (.loop (.seq (qS [qV 25 3,qF 26 1 1,qK 27 1 26,qy 28 27,qB 29 .lss 25 28] (vM 29 0)) (.seq (.block 1 (qS [qF 32 1 1,qK 33 1 32,qV 34 3,qw 35 2 33 34,qL 36 2 35,wN 4 186,qR 2 4 36] (.seq (qS [qF 37 0 4,qK 38 1 37,vF 39 38] (.cond (.s 39) (.seq (qS [qF 40 1 4,qK 41 1 40,qo 42 41 0] (vN 42 2)) (.exit 1)) .skip)) (qS [qF 43 0 4,qK 44 1 43,wk 45 85 44,wB 46 45,qV 47 46,wq 47 48 0 4,wr 47 49 1 48,wq 47 50 0 1,wr 47 51 1 50,qN 47 52 (.bin .rem (.s 49) (.s 51)),vi 47 53 52 0,we 54 47 53,qV 55 54,wq 55 56 0 4,wr 55 57 1 56,wq 55 58 0 1,wr 55 59 1 58,qN 55 60 (.bin .quo (.s 57) (.s 59)),wq 55 61 1 1,wr 55 62 1 61,vE 55 63 62,qN 55 64 (.bin .rem (.s 60) (.s 63)),qz 55 65 3,vk 55 66 64 65,we 67 55 66,qV 68 67,wq 68 69 1 4,wr 68 70 1 69,vm 68 71 70,we 72 68 71] (vN 72 2))))) (vP 30 3 31 30 1 3 31)))))) (vZ 2)))⟩
theorem zkG:zae Tryz.prog loud 147=some zfH:=by kernel_rfl
abbrev zk0:Nat:=148
def zfQ:AFunc:=⟨9,[(2,none)],qS [qr 1 112 0,qb 2 0] (qS [qF 3 0 1,qK 4 1 3,qF 5 1 1,qK 6 1 5,qy 7 6,qB 8 .mul 4 7,qV 2 8] .ret)⟩
theorem zkQ:zae Tryz.prog loud 148=some zfQ:=by kernel_rfl
abbrev zgy:Nat:=149
def zej:AFunc:=⟨10,[(2,some (true,2))],qS [qr 1 112 0,wH 2 112] (.seq (.all [[qF 3 0 1,qK 4 1 3,qF 6 1 1,qK 7 1 6,qO 5 (.mkrow 186 2 [qI 0,qI 0] 0 []),vp 8 186 2 16 5 7,qO 9 (.build [qI 0,.nils] [(0,1,.s 4),(1,1,.s 8)]),qR 2 2 9],[qF 3 0 1,qF 6 1 1,qK 7 1 6,qO 5 (.mkrow 186 2 [qI 0,qI 0] 0 []),vp 8 186 2 16 5 7,qK 4 1 3,qO 9 (.build [qI 0,.nils] [(0,1,.s 4),(1,1,.s 8)]),qR 2 2 9]]) .ret)⟩
theorem zg6:zae Tryz.prog loud 149=some zej:=by kernel_rfl
abbrev zk1:Nat:=150
def zfJ:AFunc:=⟨20,[(4,none),(5,none)],qS [qr 2 112 0,qb 4 0,qb 5 0] (.seq (qS [qL 6 2 2,qf 7 147 6,wB 8 7,qV 9 8,qz 9 10 1,wV 9 11 85 10,vD 9 12 11,we 13 9 12] (.cond (.s 13) (qS [qb 4 0,qb 5 1] .ret) .skip)) (qS [qV 14 1,qV 15 1,qF 16 0 2,qK 17 1 16,qB 18 .rem 15 17,qB 19 .sub 14 18,qV 4 19,qb 5 0] .ret))⟩
theorem zk2:zae Tryz.prog loud 150=some zfJ:=by kernel_rfl
abbrev ziH:Nat:=151
def zfl:AFunc:=⟨2,[(0,some (true,2))],qS [qn 0 182] (qS [wP 1 0 1,qR 2 0 1] .ret)⟩
theorem ziI:zae Tryz.prog loud 151=some zfl:=by kernel_rfl
abbrev zaU:Nat:=152
def zik:AFunc:=⟨11,[(2,some (true,2))],qS [qn 2 182] (qS [qV 4 0,wI 5 1 1 4,qn 3 182,qR 2 3 5] (.seq (qS [qL 6 2 3,qf 7 208 6,wB 8 7] (vQ 8 9 151 2 2 9)) (vY 10 2 3 2 2 10)))⟩
theorem zou:zae Tryz.prog loud 152=some zik:=by kernel_rfl
abbrev zbr:Nat:=153
def zhz:AFunc:=⟨38,[(4,some (true,2))],qS [qr 2 182 0,qr 3 182 1,qn 4 182] (.seq (qS [qL 5 2 2,qf 6 209 5,wB 7 6,qV 8 7,w8 8 9 2 3,wV 8 10 209 9,vD 8 11 10,we 12 8 11] (vQ 12 13 151 2 4 13)) (.seq (qS [qF 14 1 2,qK 15 1 14,qx 16 15 0,qF 17 1 3,qK 18 1 17,qx 19 18 0,qO 20 (.beq false (.s 16) (.s 19))] (.cond (.s 20) (qS [qF 21 1 2,qK 22 1 21,wk 23 211 22,qF 24 1 3,qK 25 1 24,wk 26 211 25,qB 27 .add 23 26,qF 28 1 2,qK 29 1 28,qx 30 29 0,wM 31 210 27 30,qR 2 4 31] .ret) .skip)) (qS [qF 32 1 2,qK 33 1 32,qF 34 1 3,qK 35 1 34,qB 36 .add 33 35,wI 37 1 1 36,qR 2 4 37] .ret)))⟩
theorem znl:zae Tryz.prog loud 153=some zhz:=by kernel_rfl
abbrev zbh:Nat:=154
def zg0:AFunc:=⟨33,[(4,some (true,2))],qS [qr 2 182 0,qr 3 182 1,qn 4 182] (.seq (.block 0 (qS [qL 6 2 2,qf 7 209 6,wB 8 7,qV 9 8,wG 9 10 2 3,qT 9 11 (.call 209 [.s 10]),qT 9 12 (qg 11),wm 13 9 12,qV 5 13] (.cond (.s 5) (qS [w9 14 151,qR 2 4 14] .ret) (qS [qL 16 2 2,qf 17 209 16,wB 18 17,qV 15 18] (.cond (.s 15) (vY 19 2 3 2 4 19) (qS [qL 21 2 3,qf 22 209 21,wB 23 22,qV 24 23,wq 24 25 1 2,wr 24 26 1 25,wq 24 27 1 3,wr 24 28 1 27,qN 24 29 (.bin .leq (.s 26) (.s 28)),we 30 24 29,qV 20 30] (.cond (.s 20) (vY 31 2 2 2 4 31) .skip))))))) (vY 32 2 3 2 4 32))⟩
theorem zmb:zae Tryz.prog loud 154=some zg0:=by kernel_rfl
abbrev zbe:Nat:=155
def zg2:AFunc:=⟨33,[(4,some (true,2))],qS [qr 2 182 0,qr 3 182 1,qn 4 182] (.seq (.block 0 (qS [qL 6 2 2,qf 7 209 6,wB 8 7,qV 9 8,wG 9 10 2 3,qT 9 11 (.call 209 [.s 10]),qT 9 12 (qg 11),wm 13 9 12,qV 5 13] (.cond (.s 5) (qS [w9 14 151,qR 2 4 14] .ret) (qS [qL 16 2 2,qf 17 209 16,wB 18 17,qV 15 18] (.cond (.s 15) (vY 19 2 3 2 4 19) (qS [qL 21 2 3,qf 22 209 21,wB 23 22,qV 24 23,wq 24 25 1 2,wr 24 26 1 25,wq 24 27 1 3,wr 24 28 1 27,qN 24 29 (.bin .geq (.s 26) (.s 28)),we 30 24 29,qV 20 30] (.cond (.s 20) (vY 31 2 2 2 4 31) .skip))))))) (vY 32 2 3 2 4 32))⟩
theorem zmx:zae Tryz.prog loud 155=some zg2:=by kernel_rfl
abbrev zbq:Nat:=156
def zhe:AFunc:=⟨44,[(4,some (true,2))],qS [qr 2 182 0,qr 3 182 1,qn 4 182] (.seq (qS [qL 7 2 2,qf 8 209 7,wB 9 8,qV 10 9,w8 10 11 2 3,wV 10 12 209 11,vD 10 13 12,we 14 10 13,qV 15 14,wq 15 16 1 3,wr 15 17 1 16,qN 15 18 (qW 17 0),we 19 15 18] (vQ 19 20 151 2 4 20)) (qS [qF 22 1 2,qK 23 1 22,wk 24 211 23,qO 25 (.qcall 213 [.s 24,.c (.int .u64 1000000)]),qF 26 1 3,qK 27 1 26,wk 28 211 27,wM 29 212 25 28,qV 21 29,qE 30 21 0,qE 31 21 1,qV 5 30,qV 6 31] (.seq (qS [qV 32 6,qo 33 32 0] (vQ 33 34 151 2 4 34)) (qS [qV 35 5,qF 36 1 2,qK 37 1 36,qx 38 37 0,qF 39 1 3,qK 40 1 39,qx 41 40 0,qO 42 (.beq true (.s 38) (.s 41)),qe 43 210 35 42,qR 2 4 43] .ret))))⟩
theorem zm8:zae Tryz.prog loud 156=some zhe:=by kernel_rfl
abbrev zbs:Nat:=157
def zhg:AFunc:=⟨16,[(2,some (true,2))],qS [qn 2 182] (qS [qV 4 0,qf 5 211 4,qO 6 (.call 213 [.s 5,.c (.int .u64 1000000)]),wh 3 277,qR 2 3 6] (.seq (qS [qF 7 0 3,qK 8 1 7,qO 9 (.bin .neq (.s 8) (.c (.int .u64 0)))] (vQ 9 10 151 2 2 10)) (qS [qF 11 1 3,qK 12 1 11,qV 13 0,qx 14 13 0,qe 15 210 12 14,qR 2 2 15] .ret)))⟩
theorem zm3:zae Tryz.prog loud 157=some zhg:=by kernel_rfl
abbrev zus:Nat:=158
def zof:AFunc:=⟨19,[(4,none)],qS [qq 4] (qS [qV 5 0,wE 6 5 1,qV 7 6,q8 7 8 0,ww 7 9 8 5,wm 10 7 9,qV 11 10,q8 11 12 1,vg 11 13 12 0,wm 14 11 13,qV 15 14,q8 15 16 1,ww 15 17 16 1000000,wm 18 15 17,qV 4 18] .ret)⟩
theorem zvM:zae Tryz.prog loud 158=some zof:=by kernel_rfl
abbrev zuU:Nat:=159
def zn5:AFunc:=⟨46,[(2,none)],qS [qr 1 112 0,qq 2] (.seq (qS [qF 5 0 1,qK 6 1 5,qF 7 1 1,qK 8 1 7,qy 9 8,qe 10 214 6 9,wB 11 10] (vN 11 2)) (.seq (qS [qF 12 1 1,qK 13 1 12,qy 14 13,qb 15 0] (.block 0 (.loop (qS [qB 16 .lss 15 14] (.seq (vM 16 0) (.seq (.block 1 (qS [qV 17 15,qw 18 2 13 15,qL 19 2 18,wN 4 186,qV 3 17,qR 2 4 19] (.block 2 (qS [qL 21 2 4,qO 22 (.build [qI 0,qI 0] [(0,1,qC (-1))]),qO 23 (.eqs false [0,0] (.s 21) (.s 22)),qV 20 23] (.cond (.s 20) .skip (.seq (qS [qF 25 0 4,qK 26 1 25,qf 27 215 26,wB 28 27,qV 24 28] (.cond (.s 24) .skip (.ops [qF 29 1 4,qK 30 1 29,qO 31 (.bin .eql (.s 30) (qC (-9223372036854775808))),qV 24 31]))) (.cond (.s 24) (qZ 2) (.seq (qS [qF 33 0 4,qK 34 1 33,qF 35 0 1,qK 36 1 35,qB 37 .rem 34 36,wK 38 37 0,qV 32 38] (.cond (.s 32) .skip (.ops [qL 39 2 1,qF 40 0 4,qK 41 1 40,qe 42 216 39 41,qV 43 3,qB 44 .neq 42 43,qV 32 44]))) (vN 32 2))))))))) (vO 45 15 1 15 45))))))) (vZ 2)))⟩
theorem ztH:zae Tryz.prog loud 159=some zn5:=by kernel_rfl
abbrev ztd:Nat:=160
def zlA:AFunc:=⟨9,[(2,some (true,2))],qS [qr 1 112 0,wN 2 119] (qS [qF 3 0 1,qK 4 1 3,qF 5 1 1,qK 6 1 5,qy 7 6,wR 8 0 1 4 1 1 7,qR 2 2 8] .ret)⟩
theorem ztj:zae Tryz.prog loud 160=some zlA:=by kernel_rfl
abbrev zjH:Nat:=161
def zfy:AFunc:=⟨38,[(2,none)],qS [qq 2] (.seq (qS [qV 5 0,qy 6 5,wQ 7 6 0,qV 8 7,qz 8 9 0,vE 8 10 9,wz 8 11 10 4,we 12 8 11] (vN 12 2)) (.seq (qS [qV 13 0,qy 14 13,qb 15 0] (.block 0 (.loop (qS [qB 16 .lss 15 14] (.seq (vM 16 0) (.seq (.block 1 (qS [qV 17 15,qw 18 2 13 15,qL 19 2 18,wN 4 119,qV 3 17,qR 2 4 19] (qS [qL 20 2 4,wk 21 217 20,wB 22 21,qV 23 22,qz 23 24 3,wz 23 25 24 0,qz 23 26 25,q8 26 27 0,q8 26 28 3,qT 26 29 (.bin .sub (.s 28) (qC 1)),qT 26 30 (qJ 2 27 29),wG 26 31 2 30,wG 26 32 2 4,vJ 26 33 218 31 32,qT 26 34 (qg 33),qN 23 35 (qA 26 34),we 36 23 35] (vN 36 2)))) (vO 37 15 1 15 37))))))) (vZ 2)))⟩
theorem zjQ:zae Tryz.prog loud 161=some zfy:=by kernel_rfl
abbrev zdr:Nat:=162
def zb7:AFunc:=⟨42,[(4,none)],qS [qj 4] (qS [qV 8 0,qV 9 1,qe 10 219 8 9,qV 5 10] (.seq (qS [qV 11 5,vF 12 11] (vS 12 13 0 4 13)) (.seq (qS [qV 14 5,wg 15 14 1,qV 6 15] (.block 0 (.loop (.seq (vV 16 6 17 0 18 17 19 16 18 19 0) (.seq (.block 1 (qS [qV 22 0,qV 23 6,qw 24 2 22 23,qL 25 2 24,wN 7 186,qR 2 7 25] (qS [qV 26 1,qL 27 2 7,vl 28 26 27,wB 29 28] (.cond (.s 29) (qS [qV 30 0,qV 31 5,qL 32 2 7,qw 33 2 30 31,qR 2 33 32] (vP 34 5 35 34 1 5 35)) .skip)))) (vP 20 6 21 20 1 6 21)))))) (qS [qV 36 0,qV 37 5,qt 38 2 36 37,⟨none,none,.ex (.clr 2 [qI 0,qI 0] (.s 38))⟩] (qS [qV 39 0,qV 40 5,wu 41 2 39 40,qV 4 41] .ret)))))⟩
theorem zdq:zae Tryz.prog loud 162=some zb7:=by kernel_rfl
abbrev zcu:Nat:=163
def zcv:AFunc:=⟨8,[(2,none)],qS [qj 2] (.seq (qS [qV 3 0,vz 4 3] (vU 4 2)) (qS [qO 5 (.mkrow 186 2 [qI 0,qI 0] 0 []),qV 6 0,vp 7 186 2 16 5 6,qV 2 7] .ret))⟩
theorem zew:zae Tryz.prog loud 163=some zcv:=by kernel_rfl
abbrev zhO:Nat:=164
def zlN:AFunc:=⟨6,[(2,none)],qS [qr 1 186 0,qq 2] (qS [qF 3 0 1,qK 4 1 3,vF 5 4,qV 2 5] .ret)⟩
theorem zti:zae Tryz.prog loud 164=some zlN:=by kernel_rfl
theorem zsZ : zaE Tryz.prog 164 = true := by kernel_rfl
abbrev zyO:Nat:=167
def zr9:AFunc:=⟨17,[(6,some (true,6))],qS [qr 3 30 0,qr 5 97 2,qp 6 30] (qS [qF 7 1 3,qK 8 1 7,qf 9 170 8,qF 10 1 3,qR 1 10 9] (qS [qF 11 1 3,qK 12 1 11,qV 13 1,qL 14 3 5,qw 15 3 12 13,qR 3 15 14] (vY 16 6 3 6 6 16)))⟩
theorem zyX:zae Tryz.prog loud 167=some zr9:=by kernel_rfl
abbrev ztP:Nat:=169
def znK:AFunc:=⟨21,[(4,some (true,6))],qS [qr 2 30 0,qr 3 103 1,qp 4 30] (qS [qF 6 2 2,qK 7 1 6,qL 8 4 3,qe 9 35 7 8,qV 5 9,qE 10 5 0,qE 11 5 1,qF 12 2 2,qR 1 12 10] (.seq (.all [[qF 13 4 2,qK 14 1 13,qf 15 222 14,qL 16 4 3,qO 17 (.mklst 103 4 [qI 0,.str [],.str [],qI 0] 1 [(0,.s 16)]),vp 18 103 4 48 15 17,qF 19 4 2,qR 1 19 18],[qF 13 4 2,qK 14 1 13,qL 16 4 3,qf 15 222 14,qO 17 (.mklst 103 4 [qI 0,.str [],.str [],qI 0] 1 [(0,.s 16)]),vp 18 103 4 48 15 17,qF 19 4 2,qR 1 19 18],[qF 13 4 2,qK 14 1 13,qL 16 4 3,qO 17 (.mklst 103 4 [qI 0,.str [],.str [],qI 0] 1 [(0,.s 16)]),qf 15 222 14,vp 18 103 4 48 15 17,qF 19 4 2,qR 1 19 18]]) (vY 20 6 2 6 4 20)))⟩
theorem zvL:zae Tryz.prog loud 169=some znK:=by kernel_rfl
abbrev zcs:Nat:=170
def zcz:AFunc:=⟨8,[(2,none)],qS [qj 2] (.seq (qS [qV 3 0,vz 4 3] (vU 4 2)) (qS [qO 5 (.mkrow 97 3 [qI 0,.nils,qI 0] 0 []),qV 6 0,vp 7 97 3 40 5 6,qV 2 7] .ret))⟩
theorem zev:zae Tryz.prog loud 170=some zcz:=by kernel_rfl
abbrev ze3:Nat:=171
def zco:AFunc:=⟨19,[(4,none)],qS [qb 4 0] (.seq (qS [qV 6 0,qy 7 6,qb 8 0] (.block 0 (.loop (qS [qB 9 .lss 8 7] (.seq (vM 9 0) (.seq (.block 1 (qS [qV 10 8,qV 5 10] (qS [qV 11 1,qV 12 0,qV 13 5,qw 14 1 12 13,qK 15 1 14,vl 16 11 15] (vS 16 17 5 4 17)))) (vO 18 8 1 8 18))))))) (qS [vA 4] .ret))⟩
theorem zex:zae Tryz.prog loud 171=some zco:=by kernel_rfl
abbrev zaM:Nat:=178
def zaA:AFunc:=⟨42,[(4,none)],qS [qj 4] (qS [qV 8 0,qV 9 1,qe 10 227 8 9,qV 5 10] (.seq (qS [qV 11 5,vF 12 11] (vS 12 13 0 4 13)) (.seq (qS [qV 14 5,wg 15 14 1,qV 6 15] (.block 0 (.loop (.seq (vV 16 6 17 0 18 17 19 16 18 19 0) (.seq (.block 1 (qS [qV 22 0,qV 23 6,qw 24 3 22 23,qL 25 3 24,wa 7 97,qR 3 7 25] (qS [qV 26 1,qL 27 3 7,vl 28 26 27,wB 29 28] (.cond (.s 29) (qS [qV 30 0,qV 31 5,qL 32 3 7,qw 33 3 30 31,qR 3 33 32] (vP 34 5 35 34 1 5 35)) .skip)))) (vP 20 6 21 20 1 6 21)))))) (qS [qV 36 0,qV 37 5,qt 38 3 36 37,⟨none,none,.ex (.clr 3 [qI 0,.nils,qI 0] (.s 38))⟩] (qS [qV 39 0,qV 40 5,wu 41 3 39 40,qV 4 41] .ret)))))⟩
theorem zaN:zae Tryz.prog loud 178=some zaA:=by kernel_rfl
abbrev zbU:Nat:=179
def zfp:AFunc:=⟨9,[(3,none)],qS [qr 2 97 0,qq 3] (qS [qK 4 1 1,qF 5 0 2,qK 6 1 5,qO 7 (v8 0 4 6),wB 8 7,qV 3 8] .ret)⟩
theorem zo0:zae Tryz.prog loud 179=some zfp:=by kernel_rfl
theorem zin : zaE Tryz.prog 179 = true := by kernel_rfl
abbrev zzw:Nat:=187
def zrm:AFunc:=⟨17,[(4,some (true,2)),(5,none)],qS [wH 4 112,qb 5 0] (.seq (qS [qV 6 0,qV 7 1,qe 8 214 6 7,wB 9 8] (.cond (.s 9) (qS [qO 10 (.build [qI 0,.nils] []),qR 2 4 10,qb 5 1] .ret) .skip)) (qS [qV 11 0,qO 12 (.build [qI 0,qI 0] [(0,1,qC (-1))]),vB 13 186 2 1 0 12,qV 14 1,qe 15 242 13 14,qO 16 (.build [qI 0,.nils] [(0,1,.s 11),(1,1,.s 15)]),qR 2 4 16,qb 5 0] .ret))⟩
theorem zyM:zae Tryz.prog loud 187=some zrm:=by kernel_rfl
abbrev zuc:Nat:=190
def zn8:AFunc:=⟨20,[(4,none),(5,none)],qS [qr 2 112 0,qb 4 0,qb 5 0] (.seq (qS [qV 6 1,qf 7 215 6,wB 8 7,qV 9 8,w8 9 10 2 2,wV 9 11 159 10,vD 9 12 11,we 13 9 12] (.cond (.s 13) (qS [qb 4 0,qb 5 1] .ret) .skip)) (qS [qV 14 1,qV 15 1,qF 16 0 2,qK 17 1 16,qB 18 .rem 15 17,qB 19 .sub 14 18,qV 4 19,qb 5 0] .ret))⟩
theorem zuG:zae Tryz.prog loud 190=some zn8:=by kernel_rfl
abbrev zz1:Nat:=191
def zrz:AFunc:=⟨37,[(6,some (true,2)),(7,none)],qS [qr 3 112 0,wH 6 112,qb 7 0] (qS [qL 11 2 3,qV 12 1,qe 13 190 11 12,qV 10 13,qE 14 10 0,qE 15 10 1,qV 8 14,qV 9 15] (.seq (qS [qV 16 9,qo 17 16 0,qV 18 17,qz 18 19 2,vm 18 20 19,we 21 18 20] (ua 21 22 2 3 2 6 22 7 1)) (qS [qF 23 1 3,qK 24 1 23,qf 25 163 24,qF 26 1 3,qR 1 26 25] (qS [qF 27 1 3,qK 28 1 27,qL 29 2 3,qV 30 8,wM 31 216 29 30,qV 32 8,qV 33 2,wR 34 0 1 32 1 1 33,qw 35 2 28 31,qR 2 35 34] (vR 36 2 3 2 6 36 7 0)))))⟩
theorem zzz:zae Tryz.prog loud 191=some zrz:=by kernel_rfl
abbrev zqG:Nat:=192
def zkg:AFunc:=⟨9,[(2,none)],qS [qq 2] (qS [qV 3 0,wE 4 3 0,qV 5 4,q8 5 6 0,ww 5 7 6 1099511627776,wm 8 5 7,qV 2 8] .ret)⟩
theorem zq4:zae Tryz.prog loud 192=some zkg:=by kernel_rfl
abbrev zd2:Nat:=193
def zbI:AFunc:=⟨19,[(4,none)],qS [qb 4 0] (.seq (qS [qV 6 0,qy 7 6,qb 8 0] (.block 0 (.loop (qS [qB 9 .lss 8 7] (.seq (vM 9 0) (.seq (.block 1 (qS [qV 10 8,qV 5 10] (qS [qV 11 1,qV 12 0,qV 13 5,qw 14 2 12 13,qL 15 2 14,vl 16 11 15] (vS 16 17 5 4 17)))) (vO 18 8 1 8 18))))))) (qS [vA 4] .ret))⟩
theorem zdu:zae Tryz.prog loud 193=some zbI:=by kernel_rfl
abbrev zgZ:Nat:=194
def zhu:AFunc:=⟨10,[(4,none)],qS [qr 3 112 0,qq 4] (qS [qL 5 2 3,qF 6 0 1,qK 7 1 6,qK 8 1 2,wo 9 195 5 7 8,qV 4 9] .ret)⟩
theorem zmz:zae Tryz.prog loud 194=some zhu:=by kernel_rfl
theorem zmK : zaE Tryz.prog 194 = true := by kernel_rfl
abbrev zow:Nat:=195
def zil:AFunc:=⟨18,[(6,none)],qS [qr 3 112 0,qq 6] (qS [qV 7 1,qV 8 1,qF 9 0 3,qK 10 1 9,qB 11 .rem 8 10,qB 12 .sub 7 11,qV 13 2,qL 14 2 3,wk 15 243 14,qB 16 .sub 13 15,qB 17 .gtr 12 16,qV 6 17] .ret)⟩
theorem zoq:zae Tryz.prog loud 195=some zil:=by kernel_rfl
abbrev zcn:Nat:=196
def zcq:AFunc:=⟨8,[(2,none)],qS [qj 2] (.seq (qS [qV 3 0,vz 4 3] (vU 4 2)) (qS [qO 5 (.mkrow 112 2 [qI 0,.nils] 0 []),qV 6 0,vp 7 112 2 32 5 6,qV 2 7] .ret))⟩
theorem ze4:zae Tryz.prog loud 196=some zcq:=by kernel_rfl
abbrev zoy:Nat:=197
def zii:AFunc:=⟨51,[(8,some (true,2))],qS [qr 4 55 0,qr 5 112 1,qn 8 182] (qS [qj 9] (qS [qV 13 3,qF 14 0 5,qK 15 1 14,qB 16 .quo 13 15,qV 10 16] (.seq (qS [qV 17 10,qb 18 0] (.block 0 (.loop (qS [qB 19 .lss 18 17] (.seq (vM 19 0) (.seq (.block 1 (qS [qV 20 18,qV 11 20] (qS [qL 21 2 5,qV 22 2,qV 23 11,qF 24 0 5,qK 25 1 24,qB 26 .mul 23 25,qB 27 .add 22 26,qe 28 244 21 27,qn 12 182,qR 2 12 28] (qS [qF 29 0 12,qK 30 1 29,wB 31 30] (.cond (.s 31) (.ops [qV 32 9,qF 33 1 12,qK 34 1 33,qO 35 (.mklst 2 1 [qI 0] 1 [(0,.s 34)]),vp 36 2 1 8 32 35,qV 9 36]) .skip))))) (vO 37 18 1 18 37))))))) (.seq (qS [qV 38 9,qy 39 38,qO 40 (.bin .mul (.s 39) (qC 1000000)),qF 41 1 4,qK 42 1 41,qV 43 10,qB 44 .mul 42 43,qB 45 .lss 40 44] (.cond (.s 45) (qS [wP 46 0 1,qR 2 8 46] .ret) .skip)) (qS [qF 47 0 4,qK 48 1 47,qV 49 9,qe 50 245 48 49,qR 2 8 50] .ret)))))⟩
theorem zo2:zae Tryz.prog loud 197=some zii:=by kernel_rfl
abbrev zvP:Nat:=200
def zpG:AFunc:=⟨11,[(2,none),(3,none)],qS [qj 2,qq 3] (qS [qV 5 0,qO 6 (.call 247 [.s 5,.c (.str [46]),qC 9]),qV 4 6] (qS [qV 7 4,qV 8 4,qy 9 8,qO 10 (.bin .leq (.s 9) (qC 8)),qV 2 7,qV 3 10] .ret))⟩
theorem zxd:zae Tryz.prog loud 200=some zpG:=by kernel_rfl
abbrev zxs:Nat:=201
def zqn:AFunc:=⟨10,[(2,none)],qS [qq 2] (qS [qV 3 0,qO 4 (.slen (.s 3)),qO 5 (.bin .leq (.s 4) (qC 32)),qV 6 5,q8 6 7 0,qT 6 8 (.call 248 [.s 7]),wm 9 6 8,qV 2 9] .ret)⟩
theorem zx3:zae Tryz.prog loud 201=some zqn:=by kernel_rfl
abbrev zfZ:Nat:=202
def zen:AFunc:=⟨114,[(2,none)],qS [qr 1 74 0,qq 2] (.seq (qS [qF 4 0 1,qK 5 1 4] (.block 0 (qS [wQ 7 5 1,qV 6 7] (.cond (.s 6) (.seq (qS [qF 8 5 1,qK 9 1 8,qo 10 9 0,qV 11 10,wq 11 12 6 1,wr 11 13 1 12,vi 11 14 13 0,we 15 11 14,qV 16 15,wq 16 17 7 1,wr 16 18 1 17,vi 16 19 18 0,we 20 16 19,qV 21 20,wq 21 22 8 1,wr 21 23 1 22,vi 21 24 23 0,we 25 21 24] (vN 25 2)) (qS [qF 26 1 1,qK 27 1 26,qO 28 (uc 27),qV 29 28,wv 29 30 1 1,wC 29 31 1 30,qT 29 32 (.slen (.s 31)),ww 29 33 32 263,wm 34 29 33,qV 3 34] (qS [qV 35 3,qV 36 35,wv 36 37 2 1,wC 36 38 1 37,vg 36 39 38 1,wm 40 36 39,qV 41 40,wv 41 42 2 1,wC 41 43 1 42,ww 41 44 43 5,wm 45 41 44,qV 46 45,wv 46 47 3 1,wC 46 48 1 47,vg 46 49 48 0,wm 50 46 49,qV 51 50,wv 51 52 3 1,wC 51 53 1 52,ww 51 54 53 1000000,wm 55 51 54,qV 56 55,wv 56 57 4 1,wC 56 58 1 57,qT 56 59 (.call 249 [.s 58]),wm 60 56 59,qV 2 60] .ret))) (qS [wQ 62 5 2,qV 61 62] (.cond (.s 61) (qS [qL 63 9 1,qf 64 250 63,qV 65 64,wv 65 66 5 1,wC 65 67 1 66,qT 65 68 (qW 67 0),wm 69 65 68,qV 70 69,wv 70 71 6 1,wC 70 72 1 71,qT 70 73 (.call 251 [.s 72]),wm 74 70 73,qV 75 74,wv 75 76 7 1,wC 75 77 1 76,qT 75 78 (.call 251 [.s 77]),wm 79 75 78,qV 80 79,wv 80 81 8 1,wC 80 82 1 81,qT 80 83 (.bin .neq (.s 82) (qC (-9223372036854775808))),wm 84 80 83,qV 2 84] .ret) (qS [wQ 86 5 3,qV 85 86] (.cond (.s 85) (qS [qL 87 9 1,qf 88 250 87,qV 89 88,wv 89 90 7 1,wC 89 91 1 90,qT 89 92 (qW 91 0),wm 93 89 92,qV 94 93,wv 94 95 5 1,wC 94 96 1 95,vg 94 97 96 0,wm 98 94 97,qV 99 98,wv 99 100 5 1,wC 99 101 1 100,qT 99 102 (.bin .lss (.s 101) (qC 4)),wm 103 99 102,qV 104 103,wv 104 105 6 1,wC 104 106 1 105,qT 104 107 (.call 251 [.s 106]),wm 108 104 107,qV 109 108,wv 109 110 8 1,wC 109 111 1 110,qT 109 112 (.bin .neq (.s 111) (qC (-9223372036854775808))),wm 113 109 112,qV 2 113] .ret) .skip)))))))) (qZ 2))⟩
theorem zgi:zae Tryz.prog loud 202=some zen:=by kernel_rfl
abbrev zhR:Nat:=203
def zdO:AFunc:=⟨23,[],qS [qV 6 2,qb 7 0] (.block 0 (.loop (qS [qB 8 .lss 7 6] (.seq (vM 8 0) (.seq (.block 1 (qS [qV 9 0,qV 10 0,qu 11 10,qF 12 0 11,qK 13 1 12,qV 14 1,qO 15 (.conv .u8 (.s 14)),qO 16 (.mklst 5 1 [.int .u8 0] 1 [(0,.s 15)]),vp 17 5 1 1 13 16,qu 18 9,qF 19 0 18,qR 1 19 17] (.ops [qV 20 1,qO 21 (.px (.bit .shr (.s 20) (.c (.int .u64 8)))),qV 1 21]))) (vO 22 7 1 7 22))))))⟩
theorem zig:zae Tryz.prog loud 203=some zdO:=by kernel_rfl
abbrev z3q:Nat:=204
def zuD:AFunc:=⟨20,[(2,none)],qS [qj 2] (qS [qV 5 0,qf 6 56 5,qV 3 6] (qS [qV 7 0,qf 8 252 7,qV 4 8] (.seq (qS [qb 9 0] (.block 0 (.loop (qS [qx 10 9 4] (.seq (vM 10 0) (.seq (.block 1 (qS [qV 11 3,qV 12 4,qO 13 (.conv .u8 (.s 12)),qO 14 (.mklst 5 1 [.int .u8 0] 1 [(0,.s 13)]),vp 15 5 1 1 11 14,qV 3 15] (.ops [qV 16 4,qO 17 (.px (.bit .shr (.s 16) (.c (.int .u64 8)))),qV 4 17]))) (vO 18 9 1 9 18))))))) (vT 19 3 2 19))))⟩
theorem z1p:zae Tryz.prog loud 204=some zuD:=by kernel_rfl
abbrev zkU:Nat:=208
def zdF:AFunc:=⟨11,[(2,none)],qS [qr 1 182 0,qq 2] (.seq (qS [qF 3 0 1,qK 4 1 3] (.cond (.s 4) (qS [qF 5 1 1,qK 6 1 5,wQ 7 6 0,qV 2 7] .ret) .skip)) (qS [qF 8 1 1,qK 9 1 8,qO 10 (.bin .neq (.s 9) (qC (-9223372036854775808))),qV 2 10] .ret))⟩
theorem zkI:zae Tryz.prog loud 208=some zdF:=by kernel_rfl
abbrev zox:Nat:=209
def zim:AFunc:=⟨10,[(2,none)],qS [qr 1 182 0,qq 2] (qS [qL 3 2 1,qf 4 208 3,qV 5 4,wv 5 6 0 1,wC 5 7 1 6,qT 5 8 (qg 7),wm 9 5 8,qV 2 9] .ret)⟩
theorem zot:zae Tryz.prog loud 209=some zim:=by kernel_rfl
abbrev zjP:Nat:=210
def zfz:AFunc:=⟨16,[(4,some (true,2))],qS [qn 4 182] (.seq (qS [qV 5 0,qO 6 (ud 5)] (vQ 6 7 151 2 4 7)) (.seq (qS [qV 8 1] (.cond (.s 8) (qS [qV 9 0,wW 10 9,qO 11 (.neg (.s 10)),wI 12 1 1 11,qR 2 4 12] .ret) .skip)) (qS [qV 13 0,wW 14 13,wI 15 1 1 14,qR 2 4 15] .ret)))⟩
theorem zjJ:zae Tryz.prog loud 210=some zfz:=by kernel_rfl
abbrev zlB:Nat:=211
def zgz:AFunc:=⟨12,[(2,none)],qS [wi 2] (.seq (qS [qV 3 0,qx 4 3 0] (.cond (.s 4) (qS [qV 5 0,wg 6 5 1,qO 7 (.neg (.s 6)),wL 8 7,qO 9 (.bin .add (.s 8) (.c (.int .u64 1))),qV 2 9] .ret) .skip)) (qS [qV 10 0,wL 11 10,qV 2 11] .ret))⟩
theorem zlY:zae Tryz.prog loud 211=some zgz:=by kernel_rfl
abbrev zkL:Nat:=212
def zd9:AFunc:=⟨35,[(4,none),(5,none)],qS [qr 2 277 0,wi 4,qb 5 0] (qS [qL 10 2 2,qV 11 1,qe 12 254 10 11,qV 9 12,qE 13 9 0,qE 14 9 1,qE 15 9 2,wh 6 277,qR 2 6 13,qV 7 14,qV 8 15] (.seq (qS [qV 16 8,qo 17 16 0] (.cond (.s 17) (qS [qV 18 8,wi 4,qV 5 18] .ret) .skip)) (.seq (qS [qV 19 7,qV 20 1,qV 21 7,qB 22 .sub 20 21,qB 23 .geq 19 22] (.cond (.s 23) (.ops [qL 25 2 6,qO 26 (.build [.int .u64 0,.int .u64 0] [(1,1,.c (.int .u64 1))]),qe 27 255 25 26,qV 24 27,qE 28 24 0,qE 29 24 1,qR 2 6 28]) .skip)) (.seq (qS [qF 30 0 6,qK 31 1 30,qO 32 (.bin .neq (.s 31) (.c (.int .u64 0)))] (.cond (.s 32) (qS [wi 4,qb 5 3] .ret) .skip)) (qS [qF 33 1 6,qK 34 1 33,qV 4 34,qb 5 0] .ret)))))⟩
theorem zlb:zae Tryz.prog loud 212=some zd9:=by kernel_rfl
abbrev zmM:Nat:=213
def zhn:AFunc:=⟨32,[(4,some (true,2))],qS [wh 4 277] (qS [wh 5 277] (qS [qV 8 0,qO 9 (.build [.int .u64 0,.int .u64 0] [(1,1,.s 8)]),wh 6 277,qR 2 6 9] (.seq (qS [qb 7 0] (.block 0 (.loop (.seq (qS [qV 10 7,qx 11 10 64] (vM 11 0)) (.seq (.block 1 (.seq (qS [qV 14 1,qV 15 7,wL 16 15,vH 17 14 16,vy 18 17,wZ 19 18] (.cond (.s 19) (.ops [qL 21 2 5,qL 22 2 6,qe 23 255 21 22,qV 20 23,qE 24 20 0,qE 25 20 1,qR 2 5 24]) .skip)) (.ops [qL 27 2 6,qf 28 256 27,qV 26 28,qE 29 26 0,qE 30 26 1,qR 2 6 29]))) (vP 12 7 13 12 1 7 13)))))) (vY 31 2 5 2 4 31))))⟩
theorem znk:zae Tryz.prog loud 213=some zhn:=by kernel_rfl
abbrev zul:Nat:=214
def zog:AFunc:=⟨19,[(4,none)],qS [qq 4] (qS [qV 5 0,wE 6 5 1,qV 7 6,q8 7 8 0,ww 7 9 8 86400,wm 10 7 9,qV 11 10,q8 11 12 1,vg 11 13 12 1,wm 14 11 13,qV 15 14,q8 15 16 1,ww 15 17 16 400,wm 18 15 17,qV 4 18] .ret)⟩
theorem zvE:zae Tryz.prog loud 214=some zog:=by kernel_rfl
abbrev zue:Nat:=215
def znV:AFunc:=⟨9,[(2,none)],qS [qq 2] (qS [qV 3 0,wE 4 3 0,qV 5 4,q8 5 6 0,ww 5 7 6 1099511627776,wm 8 5 7,qV 2 8] .ret)⟩
theorem zu1:zae Tryz.prog loud 215=some znV:=by kernel_rfl
abbrev zvo:Nat:=216
def zoj:AFunc:=⟨13,[(4,none)],qS [qr 2 112 0,qb 4 0] (qS [qV 5 1,qF 6 0 2,qK 7 1 6,qB 8 .quo 5 7,qF 9 1 2,qK 10 1 9,qy 11 10,qB 12 .rem 8 11,qV 4 12] .ret)⟩
theorem zu9:zae Tryz.prog loud 216=some zoj:=by kernel_rfl
abbrev zmt:Nat:=217
def zg4:AFunc:=⟨21,[(2,none)],qS [qr 1 119 0,qq 2] (qS [qF 3 0 1,qK 4 1 3,wE 5 4 1,qV 6 5,wv 6 7 0 1,wC 6 8 1 7,ww 6 9 8 86400,wm 10 6 9,qV 11 10,wv 11 12 1 1,wC 11 13 1 12,vg 11 14 13 1,wm 15 11 14,qV 16 15,wv 16 17 1 1,wC 16 18 1 17,ww 16 19 18 400,wm 20 16 19,qV 2 20] .ret)⟩
theorem zl8:zae Tryz.prog loud 217=some zg4:=by kernel_rfl
abbrev zld:Nat:=218
def zfT:AFunc:=⟨31,[(4,none)],qS [qr 2 119 0,qr 3 119 1,qq 4] (.seq (.block 0 (.seq (qS [qF 6 0 3,qK 7 1 6,qF 8 0 2,qK 9 1 8,qB 10 .leq 7 9,qV 5 10] (.cond (.s 5) .skip (.ops [qF 11 0 3,qK 12 1 11,qF 13 0 2,qK 14 1 13,qB 15 .rem 12 14,wK 16 15 0,qV 5 16]))) (.cond (.s 5) (qZ 4) (qS [qL 18 2 3,wk 19 257 18,qL 20 2 2,wk 21 257 20,qB 22 .leq 19 21,qV 17 22] (vN 17 4))))) (qS [qF 23 1 2,qK 24 1 23,qF 25 0 3,qK 26 1 25,qF 27 0 2,qK 28 1 27,qB 29 .quo 26 28,qB 30 .geq 24 29,qV 4 30] .ret))⟩
theorem zla:zae Tryz.prog loud 218=some zfT:=by kernel_rfl
abbrev zdy:Nat:=219
def zbD:AFunc:=⟨19,[(4,none)],qS [qb 4 0] (.seq (qS [qV 6 0,qy 7 6,qb 8 0] (.block 0 (.loop (qS [qB 9 .lss 8 7] (.seq (vM 9 0) (.seq (.block 1 (qS [qV 10 8,qV 5 10] (qS [qV 11 1,qV 12 0,qV 13 5,qw 14 2 12 13,qL 15 2 14,vl 16 11 15] (vS 16 17 5 4 17)))) (vO 18 8 1 8 18))))))) (qS [vA 4] .ret))⟩
theorem zd1:zae Tryz.prog loud 219=some zbD:=by kernel_rfl
abbrev zcy:Nat:=222
def zcr:AFunc:=⟨8,[(2,none)],qS [qj 2] (.seq (qS [qV 3 0,vz 4 3] (vU 4 2)) (qS [qO 5 (.mkrow 103 4 [qI 0,.str [],.str [],qI 0] 0 []),qV 6 0,vp 7 103 4 48 5 6,qV 2 7] .ret))⟩
theorem zez:zae Tryz.prog loud 222=some zcr:=by kernel_rfl
abbrev zbC:Nat:=227
def zaS:AFunc:=⟨19,[(4,none)],qS [qb 4 0] (.seq (qS [qV 6 0,qy 7 6,qb 8 0] (.block 0 (.loop (qS [qB 9 .lss 8 7] (.seq (vM 9 0) (.seq (.block 1 (qS [qV 10 8,qV 5 10] (qS [qV 11 1,qV 12 0,qV 13 5,qw 14 3 12 13,qL 15 3 14,vl 16 11 15] (vS 16 17 5 4 17)))) (vO 18 8 1 8 18))))))) (qS [vA 4] .ret))⟩
theorem zbE:zae Tryz.prog loud 227=some zaS:=by kernel_rfl
abbrev zes:Nat:=242
def zce:AFunc:=⟨48,[(4,none)],qS [qj 4] (.seq (qS [qV 9 1,qx 10 9 0] (.cond (.s 10) (.ops [qO 11 (.mkif 9 (.c (.str [99,97,110,110,111,116,32,98,101,32,110,101,103,97,116,105,118,101]))),⟨none,none,.bad⟩]) .skip)) (qS [qV 13 0,qy 14 13,wL 15 14,qV 16 1,wL 17 16,qe 18 280 15 17,qV 12 18,qE 19 12 0,qE 20 12 1,qV 5 19,qV 6 20] (.seq (qS [qV 21 5,qO 22 (.bin .gtr (.s 21) (.c (.int .u64 0))),qV 23 22,qz 23 24 6,qN 23 25 (ud 24),we 26 23 25] (.cond (.s 26) (.ops [qO 27 (.mkif 9 (.c (.str [116,104,101,32,114,101,115,117,108,116,32,111,102,32,40,108,101,110,40,120,41,32,42,32,99,111,117,110,116,41,32,111,118,101,114,102,108,111,119,115]))),⟨none,none,.bad⟩]) .skip)) (qS [qV 28 6,wW 29 28,qO 30 (.mkslice 186 2 16 [qI 0,qI 0] (.s 29) (.s 29)),qV 7 30] (qS [qV 31 7,qV 32 0,wU 33 2 31 32,qV 8 33] (.seq (.block 0 (.loop (.seq (vV 34 8 35 7 36 35 37 34 36 37 0) (.block 1 (.ops [qV 38 8,qV 39 7,qV 40 8,qt 41 2 39 40,qV 42 7,qV 43 8,wu 44 2 42 43,wU 45 2 41 44,qB 46 .add 38 45,qV 8 46]))))) (vT 47 7 4 47)))))))⟩
theorem zea:zae Tryz.prog loud 242=some zce:=by kernel_rfl
abbrev zq1:Nat:=243
def zkh:AFunc:=⟨6,[(2,none)],qS [qr 1 112 0,qb 2 0] (qS [qL 3 2 1,qf 4 160 3,qf 5 257 4,qV 2 5] .ret)⟩
theorem zqJ:zae Tryz.prog loud 243=some zkh:=by kernel_rfl
abbrev zz6:Nat:=244
def zrD:AFunc:=⟨19,[(4,some (true,2))],qS [qr 2 112 0,qn 4 182] (qS [qL 8 2 2,qV 9 1,qe 10 190 8 9,qV 7 10,qE 11 7 0,qE 12 7 1,qV 5 11,qV 6 12] (.seq (qS [qV 13 6,qo 14 13 0] (.cond (.s 14) (qS [wP 15 0 1,qR 2 4 15] .ret) .skip)) (qS [qL 16 2 2,qV 17 5,qe 18 281 16 17,qR 2 4 18] .ret)))⟩
theorem zzJ:zae Tryz.prog loud 244=some zrD:=by kernel_rfl
abbrev zrf:Nat:=245
def zjW:AFunc:=⟨40,[(4,some (true,2))],qS [qn 4 182] (qS [qV 6 1,qy 7 6,qV 5 7] (.seq (qS [qV 8 5,wQ 9 8 0] (.cond (.s 9) (qS [wP 10 0 1,qR 2 4 10] .ret) .skip)) (.seq (qS [qV 11 0] (.block 0 (qS [wQ 13 11 1,qV 12 13] (.cond (.s 12) (qS [qV 14 1,qf 15 283 14,qV 16 5,qf 17 284 16,qe 18 282 15 17,qR 2 4 18] .ret) (qS [wQ 20 11 2,qV 19 20] (.cond (.s 19) (qS [qV 21 1,qf 22 283 21,qR 2 4 22] .ret) (qS [wQ 24 11 3,qV 23 24] (.cond (.s 23) (qS [qV 25 1,w7 26 285 25 286,qR 2 4 26] .ret) (qS [wQ 28 11 4,qV 27 28] (.cond (.s 27) (qS [qV 29 1,w7 30 285 29 287,qR 2 4 30] .ret) (qS [wQ 32 11 5,qV 31 32] (.cond (.s 31) (qS [qV 33 1,qV 34 5,wD 35 34 1,qw 36 1 33 35,qK 37 1 36,qf 38 288 37,qR 2 4 38] .ret) .skip)))))))))))) (qS [wP 39 0 1,qR 2 4 39] .ret))))⟩
theorem zqX:zae Tryz.prog loud 245=some zjW:=by kernel_rfl
abbrev ztD:Nat:=248
def znO:AFunc:=⟨17,[(2,none)],qS [qq 2] (.seq (qS [qV 4 0,qO 5 (.slen (.s 4)),qb 6 0] (.block 0 (.loop (qS [qB 7 .lss 6 5] (.seq (vM 7 0) (.seq (.block 1 (qS [qV 8 6,qV 3 8] (qS [qV 9 0,qV 10 3,qO 11 (.sidx (.s 9) (.s 10)),qf 12 290 11,wB 13 12] (vN 13 2)))) (vO 14 6 1 6 14))))))) (qS [qV 15 0,qO 16 (uc 15),qV 2 16] .ret))⟩
theorem zuj:zae Tryz.prog loud 248=some znO:=by kernel_rfl
abbrev zqe:Nat:=249
def zjo:AFunc:=⟨38,[(2,none)],qS [qq 2] (.seq (qS [qV 5 0,qy 6 5,wQ 7 6 0,qV 8 7,qz 8 9 0,vE 8 10 9,wz 8 11 10 4,we 12 8 11] (vN 12 2)) (.seq (qS [qV 13 0,qy 14 13,qb 15 0] (.block 0 (.loop (qS [qB 16 .lss 15 14] (.seq (vM 16 0) (.seq (.block 1 (qS [qw 17 2 13 15,qL 18 2 17,wN 4 119,qR 2 4 18] (qS [qF 19 0 4,qK 20 1 19,qx 21 20 1,qV 22 21,wq 22 23 0 4,wr 22 24 1 23,wz 22 25 24 86400,we 26 22 25,qV 27 26,wq 27 28 1 4,wr 27 29 1 28,vt 27 30 29 1,we 31 27 30,qV 32 31,wq 32 33 1 4,wr 32 34 1 33,wz 32 35 34 400,we 36 32 35] (vN 36 2)))) (vO 37 15 1 15 37))))))) (vZ 2)))⟩
theorem zpK:zae Tryz.prog loud 249=some zjo:=by kernel_rfl
abbrev zfG:Nat:=250
def zdD:AFunc:=⟨22,[(2,none)],qS [qr 1 74 0,qq 2] (qS [qF 3 1 1,qK 4 1 3,qO 5 (.bin .eql (.s 4) (.c (.str []))),qV 6 5,wv 6 7 2 1,wC 6 8 1 7,qT 6 9 (qW 8 0),wm 10 6 9,qV 11 10,wv 11 12 3 1,wC 11 13 1 12,qT 11 14 (qW 13 0),wm 15 11 14,qV 16 15,wv 16 17 4 1,wC 16 18 1 17,qT 16 19 (qP 18),qT 16 20 (qW 19 0),wm 21 16 20,qV 2 21] .ret)⟩
theorem zfO:zae Tryz.prog loud 250=some zdD:=by kernel_rfl
abbrev zpo:Nat:=251
def ziF:AFunc:=⟨9,[(2,none)],qS [qq 2] (qS [qV 3 0,wE 4 3 0,qV 5 4,q8 5 6 0,ww 5 7 6 1099511627776,wm 8 5 7,qV 2 8] .ret)⟩
theorem zpM:zae Tryz.prog loud 251=some ziF:=by kernel_rfl
abbrev z3T:Nat:=252
def zu5:AFunc:=⟨5,[(2,none)],qS [qO 2 (.mv (.c (.int .u32 0)))] (qS [qV 3 0,qO 4 (.call 291 [.c (.int .u32 0),.s 3]),qV 2 4] .ret)⟩
theorem z2t:zae Tryz.prog loud 252=some zu5:=by kernel_rfl
abbrev zmT:Nat:=254
def zeB:AFunc:=⟨41,[(4,some (true,2)),(5,none),(6,none)],qS [qr 2 277 0,wh 4 277,wi 5,qb 6 0] (.seq (qS [qV 11 1,vG 12 11] (.cond (.s 12) (qS [qO 13 (.build [.int .u64 0,.int .u64 0] []),qR 2 4 13,wi 5,qb 6 1] .ret) .skip)) (qS [wh 7 277] (qS [wi 8] (.seq (qS [qb 9 127] (.block 0 (.loop (.seq (qS [qV 14 9,wE 15 14 0] (vM 15 0)) (.seq (.block 1 (qS [qV 18 8,vn 19 18,qV 10 19] (qS [qV 20 8,vo 21 20,qL 22 2 2,qV 23 9,qe 24 293 22 23,w6 25 21 24,qV 8 25] (qS [qV 26 10,wZ 27 26,qV 28 27,qz 28 29 8,qz 28 30 1,qN 28 31 (.bin .geq (.s 29) (.s 30)),we 32 28 31] (.cond (.s 32) (qS [qV 33 8,qV 34 1,qB 35 .sub 33 34,qV 8 35] (.ops [qL 36 2 7,qV 37 9,qe 38 294 36 37,qR 2 7 38])) .skip))))) (.ops [qV 16 9,wD 17 16 1,qV 9 17])))))) (qS [qL 39 2 7,qV 40 8,qR 2 4 39,qV 5 40,qb 6 0] .ret)))))⟩
theorem zmX:zae Tryz.prog loud 254=some zeB:=by kernel_rfl
abbrev zmP:Nat:=255
def zgT:AFunc:=⟨34,[(4,some (true,2)),(5,none)],qS [qr 2 277 0,qr 3 277 1,wh 4 277,qq 5] (qS [wh 6 277] (qS [wi 7] (.seq (qS [qb 8 0] (.block 0 (.loop (.seq (qS [qV 10 8,qx 11 10 128] (vM 11 0)) (.seq (.block 1 (qS [qL 14 2 2,qV 15 8,wM 16 293 14 15,qL 17 2 3,qV 18 8,wM 19 293 17 18,qB 20 .add 16 19,qV 21 7,qB 22 .add 20 21,qV 9 22] (qS [qV 23 9,vx 24 23,qV 7 24] (qS [qV 25 9,vy 26 25,wZ 27 26] (.cond (.s 27) (.ops [qL 28 2 6,qV 29 8,qe 30 294 28 29,qR 2 6 30]) .skip))))) (vP 12 8 13 12 1 8 13)))))) (qS [qL 31 2 6,qV 32 7,wZ 33 32,qR 2 4 31,qV 5 33] .ret))))⟩
theorem zm7:zae Tryz.prog loud 255=some zgT:=by kernel_rfl
abbrev zjN:Nat:=256
def zfw:AFunc:=⟨19,[(2,some (true,2)),(3,none)],qS [qr 1 277 0,wh 2 277,qq 3] (.seq (.all [[qF 4 0 1,qK 5 1 4,vo 6 5,qF 7 1 1,qK 8 1 7,vn 9 8,w6 10 6 9,qF 11 1 1,qK 12 1 11,vo 13 12,vq 14 0 1 10 1 1 13,qF 15 0 1,qK 16 1 15,vn 17 16,wZ 18 17,qR 2 2 14,qV 3 18],[qF 4 0 1,qK 5 1 4,vo 6 5,qF 7 1 1,qK 8 1 7,vn 9 8,w6 10 6 9,qF 11 1 1,qK 12 1 11,vo 13 12,vq 14 0 1 10 1 1 13,qF 15 0 1,qR 2 2 14,qK 16 1 15,vn 17 16,wZ 18 17,qV 3 18]]) .ret)⟩
theorem zjM:zae Tryz.prog loud 256=some zfw:=by kernel_rfl
abbrev zmN:Nat:=257
def zh1:AFunc:=⟨11,[(2,none)],qS [qr 1 119 0,qb 2 0] (.seq (qS [qL 3 2 1,qf 4 217 3,wB 5 4] (.cond (.s 5) (qS [qb 2 0] .ret) .skip)) (qS [qF 6 0 1,qK 7 1 6,qF 8 1 1,qK 9 1 8,qB 10 .mul 7 9,qV 2 10] .ret))⟩
theorem zm1:zae Tryz.prog loud 257=some zh1:=by kernel_rfl
abbrev zuf:Nat:=281
def znG:AFunc:=⟨21,[(4,some (true,2))],qS [qr 2 112 0,qn 4 182] (.seq (qS [qF 6 1 2,qK 7 1 6,qL 8 2 2,qV 9 1,wM 10 216 8 9,qw 11 2 7 10,qL 12 2 11,wN 5 186,qR 2 5 12] (qS [qF 13 0 5,qK 14 1 13,qV 15 1,qB 16 .eql 14 15] (.cond (.s 16) (qS [qF 17 1 5,qK 18 1 17,wI 19 1 1 18,qR 2 4 19] .ret) .skip))) (qS [wP 20 0 1,qR 2 4 20] .ret))⟩
theorem zv1:zae Tryz.prog loud 281=some znG:=by kernel_rfl
abbrev zxr:Nat:=282
def zpu:AFunc:=⟨34,[(4,some (true,2))],qS [qr 2 182 0,qr 3 182 1,qn 4 182] (.seq (qS [qL 9 2 2,qf 10 313 9,wB 11 10,qV 12 11,w8 12 13 2 3,wV 12 14 313 13,vD 12 15 14,we 16 12 15] (vQ 16 17 314 2 4 17)) (qS [qL 19 2 2,qf 20 315 19,qV 18 20,qE 21 18 0,qE 22 18 1,qV 5 21,qV 6 22] (qS [qL 24 2 3,qf 25 315 24,qV 23 25,qE 26 23 0,qE 27 23 1,qV 7 26,qV 8 27] (qS [qV 28 5,qV 29 7,qV 30 6,qV 31 8,qO 32 (.beq true (.s 30) (.s 31)),qO 33 (.call 316 [.s 28,.c (.int .u64 1000000),.s 29,.s 32]),qR 2 4 33] .ret))))⟩
theorem zxq:zae Tryz.prog loud 282=some zpu:=by kernel_rfl
abbrev zvO:Nat:=283
def znR:AFunc:=⟨19,[(2,some (true,2))],qS [qn 2 182] (qS [qO 6 (.call 284 [qC 0]),qn 3 182,qR 2 3 6] (.seq (qS [qV 7 0,qy 8 7,qb 9 0] (.block 0 (.loop (qS [qB 10 .lss 9 8] (.seq (vM 10 0) (.seq (.block 1 (qS [qw 11 1 7 9,qK 12 1 11,qV 5 12] (.ops [qL 13 2 3,qV 14 5,wk 15 288 14,wM 16 317 13 15,qR 2 3 16]))) (vO 17 9 1 9 17))))))) (vY 18 2 3 2 2 18)))⟩
theorem zuH:zae Tryz.prog loud 283=some znR:=by kernel_rfl
abbrev zpm:Nat:=284
def zia:AFunc:=⟨13,[(2,some (true,2))],qS [qn 2 182] (.seq (qS [qV 3 0,wK 4 3 9223372036854,qV 5 4,qz 5 6 0,qN 5 7 (.bin .lss (.s 6) (qC (-9223372036854))),we 8 5 7] (vQ 8 9 314 2 2 9)) (qS [qV 10 0,qO 11 (.bin .mul (.s 10) (qC 1000000)),wI 12 1 1 11,qR 2 2 12] .ret))⟩
theorem zx4:zae Tryz.prog loud 284=some zia:=by kernel_rfl
abbrev zrN:Nat:=288
def zro:AFunc:=⟨8,[(2,some (true,2))],qS [qn 2 182] (.seq (qS [qV 3 0,qO 4 (.bin .lss (.s 3) (qC (-9223372036854775807)))] (vQ 4 5 314 2 2 5)) (qS [qV 6 0,wI 7 1 1 6,qR 2 2 7] .ret))⟩
theorem zzV:zae Tryz.prog loud 288=some zro:=by kernel_rfl
abbrev zwm:Nat:=290
def zpB:AFunc:=⟨25,[(2,none)],qS [qq 2] (.seq (.block 0 (.seq (qS [qV 4 0,qO 5 (.bin .geq (.s 4) (.c (.int .u8 97))),qV 6 5,q8 6 7 0,qT 6 8 (.bin .leq (.s 7) (.c (.int .u8 122))),wm 9 6 8,qV 3 9] (.cond (.s 3) .skip (qS [qV 10 0,qO 11 (.bin .geq (.s 10) (.c (.int .u8 65))),qV 12 11,q8 12 13 0,qT 12 14 (.bin .leq (.s 13) (.c (.int .u8 90))),wm 15 12 14,qV 3 15] (.cond (.s 3) .skip (.ops [qV 16 0,qO 17 (.bin .geq (.s 16) (.c (.int .u8 48))),qV 18 17,q8 18 19 0,qT 18 20 (.bin .leq (.s 19) (.c (.int .u8 57))),wm 21 18 20,qV 3 21]))))) (.cond (.s 3) (vZ 2) .skip))) (qS [qV 22 0,qO 23 (.call 319 [.c (.str [95,45,58,37,35,64,43,61]),.s 22]),wE 24 23 0,qV 2 24] .ret))⟩
theorem zwg:zae Tryz.prog loud 290=some zpB:=by kernel_rfl
abbrev zua:Nat:=291
def znz:AFunc:=⟨33,[(4,none)],qS [qO 4 (.mv (.c (.int .u32 0)))] (qS [qV 8 0,qO 9 (.px (.inv (.s 8))),qV 5 9] (.seq (qS [qV 10 1,qy 11 10,qb 12 0] (.block 0 (.loop (qS [qB 13 .lss 12 11] (.seq (vM 13 0) (.seq (.block 1 (qS [qw 14 1 10 12,qK 15 1 14,qV 7 15] (qS [qV 16 5,qV 17 7,qO 18 (.conv .u32 (.s 17)),qO 19 (.px (.bit .xor (.s 16) (.s 18))),qV 5 19] (qS [qb 20 0] (.block 2 (.loop (qS [qx 21 20 2] (.seq (vM 21 2) (.seq (.block 3 (.ops [qV 22 5,qO 23 (.px (.bit .shr (.s 22) (.c (.int .u64 4)))),qV 24 5,qO 25 (.px (.bit .and (.s 24) (.c (.int .u32 15)))),qO 26 (.aaddr 16 1 (.c (.gp 2 0)) (.s 25)),qK 27 1 26,qO 28 (.px (.bit .xor (.s 23) (.s 27))),qV 5 28])) (vO 29 20 1 20 29)))))))))) (vO 30 12 1 12 30))))))) (qS [qV 31 5,qO 32 (.px (.inv (.s 31))),qV 4 32] .ret)))⟩
theorem ztG:zae Tryz.prog loud 291=some znz:=by kernel_rfl
abbrev zmJ:Nat:=293
def zeF:AFunc:=⟨20,[(4,none)],qS [qr 2 277 0,wi 4] (.seq (qS [qV 5 1,wE 6 5 64] (.cond (.s 6) (qS [qF 7 0 2,qK 8 1 7,qV 9 1,wD 10 9 64,wL 11 10,vH 12 8 11,vy 13 12,qV 4 13] .ret) .skip)) (qS [qF 14 1 2,qK 15 1 14,qV 16 1,wL 17 16,vH 18 15 17,vy 19 18,qV 4 19] .ret))⟩
theorem zni:zae Tryz.prog loud 293=some zeF:=by kernel_rfl
abbrev zlp:Nat:=294
def zdY:AFunc:=⟨23,[(4,some (true,2))],qS [qr 2 277 0,wh 4 277] (.seq (qS [qV 5 1,wE 6 5 64] (.cond (.s 6) (.ops [qF 7 0 2,qK 8 1 7,qV 9 1,wD 10 9 64,wL 11 10,qO 12 (.px (.bit .shl (.c (.int .u64 1)) (.s 11))),w6 13 8 12,qF 14 0 2,qR 1 14 13]) (.ops [qF 15 1 2,qK 16 1 15,qV 17 1,wL 18 17,qO 19 (.px (.bit .shl (.c (.int .u64 1)) (.s 18))),w6 20 16 19,qF 21 1 2,qR 1 21 20]))) (vY 22 2 2 2 4 22))⟩
theorem zmp:zae Tryz.prog loud 294=some zdY:=by kernel_rfl
abbrev ztv:Nat:=313
def zmd:AFunc:=⟨11,[(2,none)],qS [qr 1 182 0,qq 2] (qS [qF 3 0 1,qK 4 1 3,wB 5 4,qV 6 5,wv 6 7 1 1,wC 6 8 1 7,qT 6 9 (.bin .geq (.s 8) (qC (-9223372036854775807))),wm 10 6 9,qV 2 10] .ret)⟩
theorem zsG:zae Tryz.prog loud 313=some zmd:=by kernel_rfl
abbrev zpC:Nat:=314
def ziP:AFunc:=⟨2,[(0,some (true,2))],qS [qn 0 182] (qS [wP 1 0 1,qR 2 0 1] .ret)⟩
theorem zpJ:zae Tryz.prog loud 314=some ziP:=by kernel_rfl
abbrev zvN:Nat:=315
def znE:AFunc:=⟨14,[(2,none),(3,none)],qS [qr 1 182 0,wi 2,qq 3] (.seq (qS [qF 4 1 1,qK 5 1 4,qx 6 5 0] (.cond (.s 6) (qS [qF 7 1 1,qK 8 1 7,qO 9 (.neg (.s 8)),wL 10 9,qV 2 10,wY 3] .ret) .skip)) (qS [qF 11 1 1,qK 12 1 11,wL 13 12,qV 2 13,qq 3] .ret))⟩
theorem zvc:zae Tryz.prog loud 315=some znE:=by kernel_rfl
abbrev zo1:Nat:=316
def zij:AFunc:=⟨25,[(8,some (true,2))],qS [qn 8 182] (qS [qV 12 0,qV 13 1,qe 14 334 12 13,qV 15 2,qe 16 333 14 15,qV 11 16,qE 17 11 0,qE 18 11 1,qV 9 17,qV 10 18] (.seq (qS [qV 19 10,qo 20 19 0] (vQ 20 21 314 2 8 21)) (qS [qV 22 9,qV 23 3,qe 24 335 22 23,qR 2 8 24] .ret)))⟩
theorem zop:zae Tryz.prog loud 316=some zij:=by kernel_rfl
abbrev zpy:Nat:=317
def zpY:AFunc:=⟨45,[(4,some (true,2))],qS [qr 2 182 0,qr 3 182 1,qn 4 182] (.seq (qS [qL 5 2 2,qf 6 313 5,wB 7 6,qV 8 7,w8 8 9 2 3,wV 8 10 313 9,vD 8 11 10,we 12 8 11] (vQ 12 13 314 2 4 13)) (.seq (qS [qF 14 1 3,qK 15 1 14,wK 16 15 0,qV 17 16,wv 17 18 1 2,wC 17 19 1 18,wv 17 20 1 3,wC 17 21 1 20,qT 17 22 (.bin .sub (qC 9223372036854775807) (.s 21)),qT 17 23 (.bin .gtr (.s 19) (.s 22)),wm 24 17 23,qV 25 24,wq 25 26 1 3,wr 25 27 1 26,vt 25 28 27 0,qz 25 29 28,wv 29 30 1 2,wC 29 31 1 30,wv 29 32 1 3,wC 29 33 1 32,qT 29 34 (.bin .sub (qC (-9223372036854775807)) (.s 33)),qT 29 35 (.bin .lss (.s 31) (.s 34)),qN 25 36 (qA 29 35),we 37 25 36] (vQ 37 38 314 2 4 38)) (qS [qF 39 1 2,qK 40 1 39,qF 41 1 3,qK 42 1 41,qB 43 .add 40 42,wI 44 1 1 43,qR 2 4 44] .ret)))⟩
theorem zwt:zae Tryz.prog loud 317=some zpY:=by kernel_rfl
abbrev zuJ:Nat:=333
def zjc:AFunc:=⟨35,[(4,none),(5,none)],qS [qr 2 277 0,wi 4,qb 5 0] (qS [qL 10 2 2,qV 11 1,qe 12 345 10 11,qV 9 12,qE 13 9 0,qE 14 9 1,qE 15 9 2,wh 6 277,qR 2 6 13,qV 7 14,qV 8 15] (.seq (qS [qV 16 8,qo 17 16 0] (.cond (.s 17) (qS [qV 18 8,wi 4,qV 5 18] .ret) .skip)) (.seq (qS [qV 19 7,qV 20 1,qV 21 7,qB 22 .sub 20 21,qB 23 .geq 19 22] (.cond (.s 23) (.ops [qL 25 2 6,qO 26 (.build [.int .u64 0,.int .u64 0] [(1,1,.c (.int .u64 1))]),qe 27 346 25 26,qV 24 27,qE 28 24 0,qE 29 24 1,qR 2 6 28]) .skip)) (.seq (qS [qF 30 0 6,qK 31 1 30,qO 32 (.bin .gtr (.s 31) (.c (.int .u64 0)))] (.cond (.s 32) (qS [wi 4,qb 5 3] .ret) .skip)) (qS [qF 33 1 6,qK 34 1 33,qV 4 34,qb 5 0] .ret)))))⟩
theorem zu4:zae Tryz.prog loud 333=some zjc:=by kernel_rfl
abbrev z00:Nat:=334
def zrv:AFunc:=⟨16,[(4,some (true,2))],qS [wh 4 277] (qS [qV 8 0,qV 9 1,qe 10 312 8 9,qV 7 10,qE 11 7 0,qE 12 7 1,qV 5 11,qV 6 12] (qS [qV 13 5,qV 14 6,vq 15 0 1 13 1 1 14,qR 2 4 15] .ret))⟩
theorem zzm:zae Tryz.prog loud 334=some zrv:=by kernel_rfl
abbrev zub:Nat:=335
def znM:AFunc:=⟨18,[(4,some (true,2))],qS [qn 4 182] (.seq (.block 0 (qS [qV 6 0,qO 7 (ud 6),qV 5 7] (.cond (.s 5) (qS [w9 8 314,qR 2 4 8] .ret) (qS [qV 10 1,qV 9 10] (.cond (.s 9) (qS [qV 11 0,wW 12 11,qO 13 (.neg (.s 12)),wI 14 1 1 13,qR 2 4 14] .ret) .skip))))) (qS [qV 15 0,wW 16 15,wI 17 1 1 16,qR 2 4 17] .ret))⟩
theorem zvw:zae Tryz.prog loud 335=some znM:=by kernel_rfl
abbrev zzj:Nat:=345
def znp:AFunc:=⟨33,[(4,some (true,2)),(5,none),(6,none)],qS [qr 2 277 0,wh 4 277,wi 5,qb 6 0] (.seq (qS [qV 10 1,vG 11 10] (.cond (.s 11) (qS [qO 12 (.build [.int .u64 0,.int .u64 0] []),qR 2 4 12,wi 5,qb 6 1] .ret) .skip)) (qS [qF 13 0 2,qK 14 1 13,qV 15 1,qB 16 .quo 14 15,qF 17 0 2,qK 18 1 17,qV 19 1,qB 20 .rem 18 19,qV 7 16,qV 8 20] (qS [qV 22 8,qF 23 1 2,qK 24 1 23,qV 25 1,wo 26 349 22 24 25,qV 21 26,qE 27 21 0,qE 28 21 1,qV 9 27,qV 5 28] (qS [qV 29 7,qV 30 9,vq 31 0 1 29 1 1 30,qV 32 5,qR 2 4 31,qV 5 32,qb 6 0] .ret))))⟩
theorem zzl:zae Tryz.prog loud 345=some znp:=by kernel_rfl
abbrev z0n:Nat:=346
def zry:AFunc:=⟨31,[(4,some (true,2)),(5,none)],qS [qr 2 277 0,qr 3 277 1,wh 4 277,qq 5] (qS [qF 10 1 2,qK 11 1 10,qF 12 1 3,qK 13 1 12,qO 14 (.px (.cry (.s 11) (.s 13) (.c (.int .u64 0)))),qV 9 14,qE 15 9 0,qE 16 9 1,qV 6 15,qV 7 16] (qS [qF 18 0 2,qK 19 1 18,qF 20 0 3,qK 21 1 20,qV 22 7,qO 23 (.px (.cry (.s 19) (.s 21) (.s 22))),qV 17 23,qE 24 17 0,qE 25 17 1,qV 8 24,qV 7 25] (qS [qV 26 8,qV 27 6,vq 28 0 1 26 1 1 27,qV 29 7,wZ 30 29,qR 2 4 28,qV 5 30] .ret)))⟩
theorem z0g:zae Tryz.prog loud 346=some zry:=by kernel_rfl
abbrev znf:Nat:=79
abbrev zkY:Nat:=106
abbrev zq3:Nat:=96
abbrev zmL:Nat:=349
def ze9:AFunc:=⟨135,[(6,none),(7,none)],qS [wi 6,wi 7] (.seq (qS [qV 19 2,vG 20 19] (.cond (.s 20) (.ops [qO 21 (.load false 1 (.c (.gp 9 0))),⟨none,none,.bad⟩]) .skip)) (.seq (qS [qV 22 2,qV 23 0,qB 24 .leq 22 23] (.cond (.s 24) (.ops [qO 25 (.load false 1 (.c (.gp 10 0))),⟨none,none,.bad⟩]) .skip)) (.seq (qS [qV 26 0,vG 27 26] (.cond (.s 27) (qS [qV 28 1,qV 29 2,qB 30 .quo 28 29,qV 31 1,qV 32 2,qB 33 .rem 31 32,qV 6 30,qV 7 33] .ret) .skip)) (qS [qV 34 2,qf 35 351 34,wL 36 35,qV 8 36] (qS [qV 37 2,qV 38 8,vI 39 37 38,qV 2 39] (qS [qV 40 2,qO 41 (.px (.bit .shr (.s 40) (.c (.int .u64 32)))),qV 9 41] (qS [qV 42 2,qO 43 (.px (.bit .and (.s 42) (.c (.int .u64 4294967295)))),qV 10 43] (qS [qV 44 0,qV 45 8,vI 46 44 45,qV 47 1,qV 48 8,qO 49 (.bin .sub (.c (.int .u64 64)) (.s 48)),vH 50 47 49,w6 51 46 50,qV 11 51] (qS [qV 52 1,qV 53 8,vI 54 52 53,qV 12 54] (qS [qV 55 12,qO 56 (.px (.bit .shr (.s 55) (.c (.int .u64 32)))),qV 13 56] (qS [qV 57 12,qO 58 (.px (.bit .and (.s 57) (.c (.int .u64 4294967295)))),qV 14 58] (qS [qV 59 11,qV 60 9,qB 61 .quo 59 60,qV 15 61] (qS [qV 62 11,qV 63 15,qV 64 9,qB 65 .mul 63 64,qB 66 .sub 62 65,qV 16 66] (.seq (.block 0 (.loop (.seq (qS [qV 67 15,vu 68 67,qV 69 68,qz 69 70 15,qz 69 71 10,qN 69 72 (.bin .mul (.s 70) (.s 71)),qz 69 73 16,qN 69 74 (.bin .mul (.c (.int .u64 4294967296)) (.s 73)),qz 69 75 13,qN 69 76 (.bin .add (.s 74) (.s 75)),qN 69 77 (.bin .gtr (.s 72) (.s 76)),we 78 69 77] (vM 78 0)) (.block 1 (qS [qV 79 15,qO 80 (.bin .sub (.s 79) (.c (.int .u64 1))),qV 15 80] (qS [qV 81 16,qV 82 9,qB 83 .add 81 82,qV 16 83] (qS [qV 84 16,vu 85 84] (v6 85 0)))))))) (qS [qV 86 11,vL 87 86,qV 88 13,qB 89 .add 87 88,qV 90 15,qV 91 2,qB 92 .mul 90 91,qB 93 .sub 89 92,qV 17 93] (qS [qV 94 17,qV 95 9,qB 96 .quo 94 95,qV 18 96] (qS [qV 97 17,qV 98 18,qV 99 9,qB 100 .mul 98 99,qB 101 .sub 97 100,qV 16 101] (.seq (.block 2 (.loop (.seq (qS [qV 102 18,vu 103 102,qV 104 103,qz 104 105 18,qz 104 106 10,qN 104 107 (.bin .mul (.s 105) (.s 106)),qz 104 108 16,qN 104 109 (.bin .mul (.c (.int .u64 4294967296)) (.s 108)),qz 104 110 14,qN 104 111 (.bin .add (.s 109) (.s 110)),qN 104 112 (.bin .gtr (.s 107) (.s 111)),we 113 104 112] (vM 113 2)) (.block 3 (qS [qV 114 18,qO 115 (.bin .sub (.s 114) (.c (.int .u64 1))),qV 18 115] (qS [qV 116 16,qV 117 9,qB 118 .add 116 117,qV 16 118] (qS [qV 119 16,vu 120 119] (v6 120 2)))))))) (qS [qV 121 15,vL 122 121,qV 123 18,qB 124 .add 122 123,qV 125 17,vL 126 125,qV 127 14,qB 128 .add 126 127,qV 129 18,qV 130 2,qB 131 .mul 129 130,qB 132 .sub 128 131,qV 133 8,vH 134 132 133,qV 6 124,qV 7 134] .ret)))))))))))))))))))⟩
theorem znh:zae Tryz.prog loud 349=some ze9:=by kernel_rfl
abbrev zhI:Nat:=41
def zdQ:AFunc:=⟨26,[(4,none)],qS [qq 4] (.seq (ue 6 0 7 6 8 1 9 8 10 7 9 10 4) (.seq (qS [qb 5 0] (.block 0 (.loop (.seq (vV 11 5 12 0 13 12 14 11 13 14 0) (.seq (.block 1 (qS [qV 17 0,qV 18 5,qw 19 2 17 18,qL 20 2 19,qV 21 1,qV 22 5,qw 23 2 21 22,qL 24 2 23,qO 25 (.eqs true [0,0] (.s 20) (.s 24))] (vN 25 4))) (vP 15 5 16 15 1 5 16)))))) (vZ 4)))⟩
theorem zh9:zae Tryz.prog loud 41=some zdQ:=by kernel_rfl
abbrev zqp:Nat:=280
def ziB:AFunc:=⟨30,[(4,none),(5,none)],qS [wi 4,wi 5] (.seq (.cond qX (qS [qV 11 0,qO 12 (.conv .u32 (.s 11)),qV 13 1,qO 14 (.conv .u32 (.s 13)),qe 15 311 12 14,qV 10 15,qE 16 10 0,qE 17 10 1,qV 6 16,qV 7 17] (qS [qV 18 6,wL 19 18,qV 20 7,wL 21 20,qV 4 19,qV 5 21] .ret)) .skip) (qS [qV 23 0,qV 24 1,qe 25 312 23 24,qV 22 25,qE 26 22 0,qE 27 22 1,qV 8 26,qV 9 27] (qS [qV 28 8,qV 29 9,qV 4 28,qV 5 29] .ret)))⟩
theorem zqf:zae Tryz.prog loud 280=some ziB:=by kernel_rfl
abbrev zom:Nat:=247
def zio:AFunc:=⟨11,[(6,none)],qS [qj 6] (qS [qV 7 0,qV 8 1,qV 9 2,qO 10 (.call 270 [.s 7,.s 8,qC 0,.s 9]),qV 6 10] .ret)⟩
theorem zov:zae Tryz.prog loud 247=some zio:=by kernel_rfl
abbrev zlC:Nat:=270
def zg7:AFunc:=⟨66,[(8,none)],qS [qj 8] (.seq (qS [qV 12 3,wQ 13 12 0] (vU 13 8)) (.seq (qS [qV 14 1,qO 15 (.bin .eql (.s 14) (.c (.str [])))] (.cond (.s 15) (qS [qV 16 0,qV 17 3,qe 18 302 16 17,qV 8 18] .ret) .skip)) (.seq (qS [qV 19 3,qx 20 19 0] (.cond (.s 20) (.ops [qV 21 0,qV 22 1,qe 23 303 21 22,wg 24 23 1,qV 3 24]) .skip)) (qS [qV 25 3,qV 26 0,qO 27 (.slen (.s 26)),wg 28 27 1,qO 29 (.mm false (.s 25) (.s 28)),qV 3 29] (qS [qV 30 3,qO 31 (.mkslice 9 1 16 [.str []] (.s 30) (.s 30)),qV 9 31] (qS [qV 32 3,wD 33 32 1,qV 3 33] (qS [qb 10 0] (.seq (.block 0 (.loop (.seq (qS [qV 34 10,qV 35 3,qB 36 .lss 34 35] (vM 36 0)) (.block 1 (qS [qV 37 0,qV 38 1,qe 39 304 37 38,qV 11 39] (.seq (qS [qV 40 11,qx 41 40 0] (v6 41 0)) (.seq .gh (qS [qV 42 9,qV 43 10,qV 44 0,qV 45 11,qV 46 2,qB 47 .add 45 46,qO 48 (.sslc (.s 44) none (some (.s 47))),qw 49 1 42 43,qR 1 49 48] (.seq .gh (qS [qV 50 0,qV 51 11,qV 52 1,qO 53 (.slen (.s 52)),qB 54 .add 51 53,qO 55 (.sslc (.s 50) (some (.s 54)) none),qV 0 55] (vP 56 10 57 56 1 10 57))))))))))) (qS [qV 58 9,qV 59 10,qV 60 0,qw 61 1 58 59,qR 1 61 60] (.seq .gh (qS [qV 62 9,qV 63 10,wg 64 63 1,wu 65 1 62 64,qV 8 65] .ret)))))))))))⟩
theorem zmv:zae Tryz.prog loud 270=some zg7:=by kernel_rfl
abbrev zhZ:Nat:=6
def zer:AFunc:=⟨132,[(2,none)],qS [qq 2] (.seq (qS [w9 18 7,wB 19 18] (vN 19 2)) (.seq (qS [qV 20 0,qf 21 8 20] (.cond (.s 21) (vZ 2) .skip)) (qS [qO 23 (.call 9 [qC 60000]),qV 22 23,qE 24 22 0,qE 25 22 1,qk 3 33,qR 10 3 24,qV 4 25] (qS [qO 26 (.build [.nils,.nils,.nils,.nils,qI 0,qI 0,qI 0,qI 0,qI 0] [(8,1,qC 1000)]),qr 27 42 26,qV 5 27] (.seq (qS [qb 6 0] (.block 0 (.loop (.seq (vV 28 6 29 0 30 29 31 28 30 31 0) (.seq (.block 1 (.seq (.all [[qV 35 5,qL 36 10 3,qV 37 0,qV 38 6,qw 39 3 37 38,qL 40 3 39,wo 41 10 35 36 40,qV 34 41,qE 42 34 0,qE 43 34 1,qE 44 34 2,qk 7 33,qR 10 7 42,qV 8 43,qV 9 44],[qV 35 5,qL 36 10 3,qV 37 0,qV 38 6,qw 39 3 37 38,qL 40 3 39,qk 7 33,wo 41 10 35 36 40,qV 34 41,qE 42 34 0,qE 43 34 1,qE 44 34 2,qR 10 7 42,qV 8 43,qV 9 44]]) (.seq (qS [qV 45 9,wB 46 45] (vN 46 2)) (.ops [qL 47 10 7,qR 10 3 47])))) (vP 32 6 33 32 1 6 33)))))) (.seq (qS [qb 10 0] (.block 2 (.loop (.seq (qS [qV 48 10,qx 49 48 4] (vM 49 2)) (.seq (.block 3 (qS [qL 53 10 3,qV 54 10,qO 55 (.conv .u8 (.s 54)),wk 56 14 55,wM 57 27 53 56,qV 52 57,qE 58 52 0,qE 59 52 1,qk 11 33,qR 10 11 58,qV 12 59] (.seq (qS [qV 60 12,qo 61 60 0,qV 62 61,q8 62 63 12,qT 62 64 (.bin .neq (.s 63) (qC 15)),wm 65 62 64] (vN 65 2)) (.ops [qL 66 10 11,qR 10 3 66])))) (vP 50 10 51 50 1 10 51)))))) (qS [qL 68 10 3,qO 69 (.call 24 [.s 68,qC 0,.c .nils]),qV 67 69,qE 70 67 0,qE 71 67 1,qp 13 30,qR 6 13 70,qV 14 71] (qS [qL 73 6 13,qO 74 (.call 25 [.s 73,qC (-1)]),qV 72 74,qE 75 72 0,qE 76 72 1,qk 15 33,qR 10 15 75,qV 16 76] (.seq (qS [qV 77 4,qo 78 77 0,qV 79 78,qz 79 80 14,vi 79 81 80 0,we 82 79 81,qV 83 82,qz 83 84 16,vi 83 85 84 0,we 86 83 85,qV 87 86,wq 87 88 6 15,wr 87 89 1 88,vE 87 90 89,wq 87 91 6 3,wr 87 92 1 91,vE 87 93 92,vk 87 94 90 93,we 95 87 94] (vN 95 2)) (.seq (qS [qb 17 0] (.block 4 (.loop (.seq (qS [qV 96 17,qF 97 6 15,qK 98 1 97,qy 99 98,qB 100 .lss 96 99] (vM 100 4)) (.seq (.block 5 (qS [qF 103 6 15,qK 104 1 103,qV 105 17,qw 106 11 104 105,qF 107 1 106,qK 108 1 107,qF 109 6 3,qK 110 1 109,qV 111 17,qw 112 11 110 111,qF 113 1 112,qK 114 1 113,qB 115 .neq 108 114,qV 116 115,wq 116 117 6 15,wr 116 118 1 117,qz 116 119 17,qN 116 120 (qJ 11 118 119),wq 116 121 5 120,w8 116 122 3 121,wq 116 123 6 3,wr 116 124 1 123,qz 116 125 17,qN 116 126 (qJ 11 124 125),wq 116 127 5 126,w8 116 128 3 127,qN 116 129 (.qcall 15 [.s 122,.s 128]),vD 116 130 129,we 131 116 130] (vN 131 2))) (vP 101 17 102 101 1 17 102)))))) (vZ 2)))))))))))⟩
theorem zhP:zae Tryz.prog loud 6=some zer:=by kernel_rfl
abbrev zwe:Nat:=21
def zp6:AFunc:=⟨24,[(4,none),(5,none)],qS [qr 2 30 0,qj 4,qb 5 0] (qS [qL 9 6 2,qV 10 1,qe 11 55 9 10,qV 8 11,qE 12 8 0,qE 13 8 1,qV 6 12,qV 7 13] (.seq (qS [qV 14 7,qo 15 14 0] (.cond (.s 15) (qS [qV 16 7,qj 4,qV 5 16] .ret) .skip)) (qS [qF 17 1 2,qK 18 1 17,qV 19 6,qw 20 3 18 19,qF 21 1 20,qK 22 1 21,qf 23 56 22,qV 4 23,qb 5 0] .ret)))⟩
theorem zx1:zae Tryz.prog loud 21=some zp6:=by kernel_rfl
abbrev zvY:Nat:=23
def zoZ:AFunc:=⟨9,[(4,some (true,10))],qS [qr 2 33 0,qk 4 33] (qS [qV 5 1,qO 6 (.mm true (.s 5) (qC (-1))),qF 7 8 2,qR 1 7 6] (vY 8 10 2 10 4 8))⟩
theorem zw4:zae Tryz.prog loud 23=some zoZ:=by kernel_rfl
abbrev zuN:Nat:=24
def znT:AFunc:=⟨15,[(6,some (true,6)),(7,none)],qS [qr 3 33 0,qp 6 30,qb 7 0] (qS [qF 8 0 3,qL 9 6 8,qV 10 1,qV 11 2,wo 12 59 9 10 11,qE 13 12 0,qE 14 12 1,qR 6 6 13,qV 7 14] .ret)⟩
theorem zu8:zae Tryz.prog loud 24=some znT:=by kernel_rfl
abbrev zux:Nat:=25
def znS:AFunc:=⟨112,[(4,some (true,10)),(5,none)],qS [qr 2 30 0,qk 4 33,qb 5 0] (qS [qL 22 6 2,qf 23 20 22,qV 21 23,qE 24 21 0,qE 25 21 1,qV 6 24,qV 7 25] (.seq (qS [qV 26 7,qo 27 26 0] (.cond (.s 27) (qS [qO 28 (.build [qI 0,.nils,.nils,.nils,.nils,qI 0,.nils,qI 0,qI 0,.bool false] []),qV 29 7,qR 10 4 28,qV 5 29] .ret) .skip)) (qS [qL 30 6 2,qO 31 (.build [qI 0,.nils,.nils,.nils,.nils,qI 0,.nils,qI 0,qI 0,.bool false] [(0,6,.s 30),(7,1,qC 1)]),qV 32 1,qe 33 23 31 32,qk 8 33,qR 10 8 33] (qS [qO 34 (.ex .mkmap),qV 9 34] (.seq (qS [qL 35 6 2,qV 36 6,qe 37 60 35 36,qO 10 (.alloc 143 [.nils]),qR 1 10 37] (.block 0 (.loop (.seq (qS [qK 38 1 10,qy 39 38,wK 40 39 0] (vM 40 0)) (.seq (.block 1 (qS [qK 41 1 10,vC 42 62 10,qe 43 61 41 42,qV 11 43] (.seq (qS [qV 44 11,qx 45 44 0] (.cond (.s 45) (.ops [qK 46 1 10,qy 47 46,qV 11 47]) .skip)) (qS [qK 49 1 10,qV 50 11,wu 51 14 49 50,qf 52 63 51,qV 48 52,qE 53 48 0,qE 54 48 1,wc 12 57,qR 11 12 53,qV 13 54] (qS [qK 55 1 10,qV 56 11,qt 57 14 55 56,qR 1 10 57] (.seq (qS [qL 59 10 8,qF 60 1 12,qK 61 1 60,qe 62 37 59 61,qV 58 62,qE 63 58 0,qE 64 58 1,qV 14 63,qV 15 64] (qS [qV 65 15,qV 66 65,wq 66 67 6 8,wr 66 68 1 67,vE 66 69 68,qN 66 70 (.bin .geq (.s 69) (qC 64)),we 71 66 70] (v6 71 1))) (qS [qL 72 10 8,qL 73 11 12,qe 74 64 72 73,qR 10 8 74] (qS [qV 75 13,qy 76 75,qb 77 0] (.block 2 (.loop (qS [qB 78 .lss 77 76] (.seq (vM 78 2) (.seq (.block 3 (qS [qw 79 1 75 77,qK 80 1 79,qV 17 80] (.ops [qV 81 9,qV 82 17,⟨none,none,.ex (.mset 1 (.s 81) (.s 82) qY)⟩]))) (vO 83 77 1 77 83)))))))))))))) (qS [qK 84 1 10] (.ops [qO 10 (.alloc 143 [.nils]),qR 1 10 84]))))))) (qS [qL 85 10 8,wT 86 0 10 85,qr 87 127 86,qV 18 87] (.seq (qS [qV 88 6,qy 89 88,qb 90 0] (.block 4 (.loop (qS [qB 91 .lss 90 89] (.seq (vM 91 4) (.seq (.block 5 (qS [qw 92 1 88 90,qK 93 1 92,qV 20 93] (qS [qV 94 9,qV 95 20,qO 96 (v8 1 94 95),wB 97 96] (.cond (.s 97) (.ops [qV 98 18,qV 99 20,qe 100 53 98 99]) .skip)))) (vO 101 90 1 90 101))))))) (qS [qV 102 18,qf 103 51 102] (.seq (.all [[qV 104 18,qu 105 104,qF 106 0 105,qL 107 10 106,qV 108 18,qu 109 108,qF 110 10 109,qK 111 1 110,qR 10 4 107,qV 5 111],[qV 104 18,qu 105 104,qF 106 0 105,qL 107 10 106,qV 108 18,qu 109 108,qF 110 10 109,qR 10 4 107,qK 111 1 110,qV 5 111]]) .ret)))))))))⟩
theorem zvq:zae Tryz.prog loud 25=some znS:=by kernel_rfl
abbrev zv4:Nat:=59
def zn3:AFunc:=⟨91,[(6,some (true,6)),(7,none)],qS [qr 3 30 0,qp 6 30,qb 7 0] (.seq (qS [qL 15 6 3,qf 16 12 15,wB 17 16] (ua 17 18 6 3 6 6 18 7 1)) (qS [qF 19 3 3,qK 20 1 19,qV 8 20] (.seq (qS [qF 21 4 3,qK 22 1 21,qV 23 1,qF 24 4 3,qK 25 1 24,qy 26 25,qO 27 (.mm false (.s 23) (.s 26)),qO 28 (.mm true (qC 0) (.s 27)),wu 29 4 22 28,qy 30 29,qb 31 0] (.block 0 (.loop (qS [qB 32 .lss 31 30] (.seq (vM 32 0) (.seq (.block 1 (qS [qw 33 4 29 31,qL 34 4 33,qO 10 (.alloc 103 [qI 0,.str [],.str [],qI 0]),qR 4 10 34] (.ops [qV 36 8,qL 37 4 10,qe 38 35 36 37,qV 35 38,qE 39 35 0,qE 40 35 1,qV 8 39]))) (vO 41 31 1 31 41))))))) (qS [qL 42 6 3,qV 43 8,qe 44 115 42 43,qR 6 3 44] (.seq (qS [qF 45 1 3,qK 46 1 45,qy 47 46,qb 48 0] (.block 2 (.loop (qS [qB 49 .lss 48 47] (.seq (vM 49 2) (.seq (.block 3 (qS [qV 50 48,qw 51 3 46 48,qL 52 3 51,wa 12 97,qV 11 50,qR 3 12 52] (qS [qb 13 0] (.seq (qS [qV 53 2,vC 54 117 12,qe 55 116 53 54,qV 14 55] (qS [qV 56 14,wE 57 56 0] (.cond (.s 57) (.ops [qV 58 2,qV 59 14,qw 60 2 58 59,qF 61 1 60,qK 62 1 61,qF 63 1 12,qK 64 1 63,qy 65 64,qF 66 2 12,qK 67 1 66,qB 68 .sub 65 67,qO 69 (.mm false (.s 62) (.s 68)),qO 70 (.mm true (qC 0) (.s 69)),qV 13 70]) .skip))) (qS [qF 71 1 12,qK 72 1 71,qF 73 2 12,qK 74 1 73,qV 75 13,qB 76 .add 74 75,wu 77 1 72 76,qf 78 56 77,qF 79 1 12,qR 1 79 78] (qS [qF 80 1 12,qK 81 1 80,qy 82 81,qF 83 2 12,qR 1 83 82] (.ops [qF 84 1 3,qK 85 1 84,qV 86 11,qL 87 3 12,qw 88 3 85 86,qR 3 88 87]))))))) (vO 89 48 1 48 89))))))) (vR 90 6 3 6 6 90 7 0))))))⟩
theorem zum:zae Tryz.prog loud 59=some zn3:=by kernel_rfl
abbrev zsv:Nat:=60
def zmi:AFunc:=⟨31,[(4,none)],qS [qr 2 30 0,qj 4] (qS [qj 5] (.seq (qS [qV 10 1,qy 11 10,qb 12 0] (.block 0 (.loop (qS [qB 13 .lss 12 11] (.seq (vM 13 0) (.seq (.block 1 (qS [qw 14 1 10 12,qK 15 1 14,qV 7 15] (qS [qL 17 6 2,qV 18 7,qe 19 118 17 18,qV 16 19,qE 20 16 0,qE 21 16 1,wF 8 149,qR 14 8 20,qV 9 21] (qS [qV 22 9] (.cond (.s 22) (.ops [qV 23 5,qL 24 14 8,qO 25 (.mklst 149 14 [.str [],qI 0,qI 0,.str [],qI 0,.str [],qI 0,qI 0,.nils,qI 0,qI 0,qI 0,qI 0,.nils] 1 [(0,.s 24)]),vp 26 149 14 168 23 25,qV 5 26]) .skip))))) (vO 27 12 1 12 27))))))) (qS [qV 28 5,w7 29 119 28 120] (vT 30 5 4 30))))⟩
theorem ztn:zae Tryz.prog loud 60=some zmi:=by kernel_rfl
abbrev zcR:Nat:=61
def zbt:AFunc:=⟨19,[(4,none)],qS [qb 4 0] (.seq (qS [qV 6 0,qy 7 6,qb 8 0] (.block 0 (.loop (qS [qB 9 .lss 8 7] (.seq (vM 9 0) (.seq (.block 1 (qS [qV 10 8,qV 5 10] (qS [qV 11 1,qV 12 0,qV 13 5,qw 14 14 12 13,qL 15 14 14,vl 16 11 15] (vS 16 17 5 4 17)))) (vO 18 8 1 8 18))))))) (qS [vA 4] .ret))⟩
theorem zcQ:zae Tryz.prog loud 61=some zbt:=by kernel_rfl
abbrev zgI:Nat:=62
def zjZ:AFunc:=⟨13,[(3,none)],qS [qr 2 149 0,qq 3] (qS [qF 4 0 2,qF 5 1 4,qK 6 1 5,qK 7 1 1,wJ 8 14 7 0,qF 9 0 8,qF 10 1 9,qK 11 1 10,qB 12 .neq 6 11,qV 3 12] .ret)⟩
theorem zqz:zae Tryz.prog loud 62=some zjZ:=by kernel_rfl
theorem zqN : zaE Tryz.prog 62 = true := by kernel_rfl
abbrev zki:Nat:=63
def zjS:AFunc:=⟨141,[(2,some (true,11)),(3,none)],qS [wc 2 57,qj 3] (qS [qb 4 0] (.seq (qS [qV 16 0,qy 17 16,qb 18 0] (.block 0 (.loop (qS [qB 19 .lss 18 17] (.seq (vM 19 0) (.seq (.block 1 (qS [qV 20 18,qw 21 14 16 18,qL 22 14 21,wF 6 149,qV 5 20,qR 14 6 22] (qS [qF 23 0 6,qF 24 3 23,qK 25 1 24,qO 26 (ub 25)] (.cond (.s 26) (.ops [qV 27 5,qV 4 27]) .skip)))) (vO 28 18 1 18 28))))))) (qS [qV 29 0,qV 30 4,qt 31 14 29 30,qV 0 31] (qS [qV 32 0,wJ 33 14 32 0,qL 34 14 33,wF 7 149,qR 14 7 34] (qS [qF 35 0 7,qF 36 1 35,qK 37 1 36,qF 38 4 7,qF 39 1 38,qK 40 1 39,qF 41 4 7,qL 42 9 41,wk 43 123 42,qO 44 (.build [qI 0,.str [],.nils,qI 0,qI 0,qI 0,qI 0,.nils,qI 0,qI 0,qI 0] [(0,1,.s 37),(1,1,.s 40),(2,3,.s 43),(10,1,qC 16)]),wc 8 57,qR 11 8 44] (qS [qF 46 2 8,qL 47 3 46,qf 48 124 47,qV 45 48,qE 49 45 0,qE 50 45 1,qF 51 5 8,qR 3 51 49] (qS [qj 9] (.seq (qS [qV 52 0,qy 53 52,qb 54 0] (.block 2 (.loop (qS [qB 55 .lss 54 53] (.seq (vM 55 2) (.seq (.block 3 (qS [qV 56 54,qw 57 14 52 54,qL 58 14 57,wF 11 149,qV 10 56,qR 14 11 58] (.seq (qS [qV 59 10,wK 60 59 0,qV 61 60,wv 61 62 0 7,wv 61 63 3 62,wC 61 64 1 63,qT 61 65 (ub 64),wm 66 61 65,qV 67 66,wv 67 68 0 11,wv 67 69 2 68,wC 67 70 1 69,wv 67 71 0 7,wv 67 72 2 71,wC 67 73 1 72,wS 67 74 70 73,wm 75 67 74] (v6 75 3)) (.seq (qS [qF 76 4 11,qL 77 9 76,qF 78 4 7,qL 79 9 78,qe 80 125 77 79,wB 81 80] (v6 81 2)) (qS [qV 82 9,qF 83 0 11,qF 84 0 83,qK 85 1 84,qO 86 (.mklst 9 1 [.str []] 1 [(0,.s 85)]),vp 87 9 1 16 82 86,qV 9 87] (.seq (qS [qV 88 10,wQ 89 88 0,qV 90 89,wv 90 91 0 11,wv 90 92 3 91,wC 90 93 1 92,qT 90 94 (ub 93),wm 95 90 94] (.cond (.s 95) (qS [qF 96 0 11,qF 97 2 96,qK 98 1 97,qF 99 8 8,qR 1 99 98] (qS [qF 101 2 8,qL 102 3 101,qF 103 13 11,qK 104 1 103,qe 105 126 102 104,qV 100 105,qE 106 100 0,qE 107 100 1,qF 108 5 8,qR 3 108 106] (.exit 3))) .skip)) (qS [qF 109 0 11,qF 110 2 109,qK 111 1 110,qF 112 9 8,qR 1 112 111] (qS [qF 113 13 11,qK 114 1 113,qy 115 114,qb 116 0] (.block 4 (.loop (qS [qB 117 .lss 116 115] (.seq (vM 117 4) (.seq (.block 5 (qS [qw 118 9 114 116,qL 119 9 118,q9 13 74,qR 9 13 119] (qS [qF 121 5 8,qL 122 3 121,qF 123 6 13,qK 124 1 123,qF 125 8 13,qK 126 1 125,wR 127 0 1 124 1 1 126,qF 128 7 13,qK 129 1 128,wo 130 127 122 127 129,qV 120 130,qE 131 120 0,qE 132 120 1,wd 14 55,qR 3 14 131,qV 15 132] (qS [qV 133 15,wQ 134 133 0] (.cond (.s 134) (.ops [qL 135 3 14,qF 136 5 8,qR 3 136 135]) .skip))))) (vO 137 116 1 116 137)))))))))))))) (vO 138 54 1 54 138))))))) (vW 139 11 8 140 9 11 2 139 3 140)))))))))⟩
theorem zqO:zae Tryz.prog loud 63=some zjS:=by kernel_rfl
abbrev zds:Nat:=116
def zbG:AFunc:=⟨19,[(4,none)],qS [qb 4 0] (.seq (qS [qV 6 0,qy 7 6,qb 8 0] (.block 0 (.loop (qS [qB 9 .lss 8 7] (.seq (vM 9 0) (.seq (.block 1 (qS [qV 10 8,qV 5 10] (qS [qV 11 1,qV 12 0,qV 13 5,qw 14 2 12 13,qL 15 2 14,vl 16 11 15] (vS 16 17 5 4 17)))) (vO 18 8 1 8 18))))))) (qS [vA 4] .ret))⟩
theorem zd5:zae Tryz.prog loud 116=some zbG:=by kernel_rfl
abbrev zv9:Nat:=118
def znA:AFunc:=⟨90,[(4,some (true,14)),(5,none)],qS [qr 2 30 0,wF 4 149,qq 5] (qS [qV 19 1,qf 20 180 19,qV 18 20,qE 21 18 0,qE 22 18 1,qO 6 (.alloc 147 [.str [],qI 0,qI 0,.str []]),qR 4 6 21,qV 7 22] (.seq (qS [qV 23 7,wB 24 23] (.cond (.s 24) (qS [wO 25,qR 14 4 25,qq 5] .ret) .skip)) (qS [qL 27 6 2,qV 28 1,qe 29 21 27 28,qV 26 29,qE 30 26 0,qE 31 26 1,qV 8 30,qV 9 31] (.seq (qS [qV 32 9,qo 33 32 0] (.cond (.s 33) (qS [wO 34,qR 14 4 34,qq 5] .ret) .skip)) (qS [qV 36 8,qf 37 181 36,qV 35 37,qE 38 35 0,qE 39 35 1,qE 40 35 2,qE 41 35 3,q9 10 74,qR 9 10 38,qV 11 39,qV 12 40,qV 9 41] (.seq (qS [qV 42 9,qo 43 42 0,qV 44 43,wq 44 45 1 10,wr 44 46 1 45,wV 44 47 65 46,vD 44 48 47,we 49 44 48] (.cond (.s 49) (qS [wO 50,qR 14 4 50,qq 5] .ret) .skip)) (.seq (qS [qL 52 9 10,qf 53 123 52,qf 54 124 53,qV 51 54,qE 55 51 0,qE 56 51 1,wd 13 55,qR 3 13 55,qV 14 56] (qS [qV 57 14,qo 58 57 0] (.cond (.s 58) (qS [wO 59,qR 14 4 59,qq 5] .ret) .skip))) (.seq (qS [qF 60 3 6,qK 61 1 60,qO 62 (ub 61)] (.cond (.s 62) (qS [qL 64 9 10,qf 65 123 64,qV 66 11,qe 67 126 65 66,qV 63 67,qE 68 63 0,qE 69 63 1,wd 15 55,qR 3 15 68,qV 16 69] (qS [qL 70 4 6,qL 71 9 10,qV 72 11,qO 73 (.build [.str [],qI 0,qI 0,.str [],qI 0,.str [],qI 0,qI 0,.nils,qI 0,qI 0,qI 0,qI 0,.nils] [(0,4,.s 70),(4,9,.s 71),(13,1,.s 72)]),qV 74 16,wQ 75 74 0,qV 76 75,q8 76 77 12,q8 76 78 8,qT 76 79 (qP 78),wS 76 80 77 79,wm 81 76 80,qR 14 4 73,qV 5 81] .ret)) .skip)) (qS [qV 82 11,w7 83 182 82 183,qV 17 83] (qS [qL 84 4 6,qL 85 9 10,qV 86 11,qO 87 (.build [.str [],qI 0,qI 0,.str [],qI 0,.str [],qI 0,qI 0,.nils,qI 0,qI 0,qI 0,qI 0,.nils] [(0,4,.s 84),(4,9,.s 85),(13,1,.s 86)]),qV 88 17,wB 89 88,qR 14 4 87,qV 5 89] .ret))))))))))⟩
theorem zvi:zae Tryz.prog loud 118=some znA:=by kernel_rfl
abbrev zrc:Nat:=123
def zkr:AFunc:=⟨10,[(2,some (true,3))],qS [qr 1 74 0,qO 2 (.alloc 52 [.nils,qI 0,qI 0])] (qS [qF 3 4 1,qK 4 1 3,qF 5 2 1,qK 6 1 5,qF 7 3 1,qK 8 1 7,qO 9 (.build [.nils,qI 0,qI 0] [(0,1,.s 4),(1,1,.s 6),(2,1,.s 8)]),qR 3 2 9] .ret)⟩
theorem zra:zae Tryz.prog loud 123=some zkr:=by kernel_rfl
abbrev zoo:Nat:=125
def zih:AFunc:=⟨31,[(4,none)],qS [qr 2 74 0,qr 3 74 1,qq 4] (qS [qF 5 1 2,qK 6 1 5,qF 7 1 3,qK 8 1 7,qB 9 .eql 6 8,qV 10 9,wv 10 11 2 2,wC 10 12 1 11,wv 10 13 2 3,wC 10 14 1 13,wS 10 15 12 14,wm 16 10 15,qV 17 16,wv 17 18 3 2,wC 17 19 1 18,wv 17 20 3 3,wC 17 21 1 20,wS 17 22 19 21,wm 23 17 22,qV 24 23,wv 24 25 4 2,wC 24 26 1 25,wv 24 27 4 3,wC 24 28 1 27,qT 24 29 (.call 188 [.s 26,.s 28]),wm 30 24 29,qV 4 30] .ret)⟩
theorem zon:zae Tryz.prog loud 125=some zih:=by kernel_rfl
abbrev zqE:Nat:=126
def zkf:AFunc:=⟨87,[(4,some (true,3)),(5,none)],qS [qr 2 52 0,wd 4 55,qb 5 0] (qS [qL 14 3 2,qf 15 124 14,qV 13 15,qE 16 13 0,qE 17 13 1,wd 6 55,qR 3 6 16,qV 7 17] (.seq (qS [qV 18 7,qo 19 18 0] (.cond (.s 19) (qS [vh 20,qV 21 7,qR 3 4 20,qV 5 21] .ret) .skip)) (.seq (qS [qV 22 1,qy 23 22,qb 24 0] (.block 0 (.loop (qS [qB 25 .lss 24 23] (.seq (vM 25 0) (.seq (.block 1 (qS [qw 26 9 22 24,qL 27 9 26,q9 9 74,qR 9 9 27] (.seq (qS [qL 28 9 9,qf 29 189 28,wB 30 29,qV 31 30,wq 31 32 5 9,wr 31 33 1 32,vt 31 34 33 0,we 35 31 34,qV 36 35,wq 36 37 5 9,wr 36 38 1 37,wq 36 39 2 6,wr 36 40 1 39,vE 36 41 40,qN 36 42 (.bin .geq (.s 38) (.s 41)),we 43 36 42] (.cond (.s 43) (qS [vh 44,qR 3 4 44,qb 5 1] .ret) .skip)) (qS [qF 45 2 6,qK 46 1 45,qF 47 5 9,qK 48 1 47,qw 49 2 46 48,qL 50 2 49,wH 10 112,qR 2 10 50] (.seq (qS [qL 52 2 10,qF 53 6 9,qK 54 1 53,qe 55 190 52 54,qV 51 55,qE 56 51 0,qE 57 51 1,qV 11 56,qV 12 57] (qS [qV 58 12,qo 59 58 0,qV 60 59,qz 60 61 11,wq 60 62 6 9,wr 60 63 1 62,vk 60 64 61 63,we 65 60 64] (.cond (.s 65) (qS [vh 66,qR 3 4 66,qb 5 1] .ret) .skip))) (qS [qF 68 2 6,qK 69 1 68,qF 70 5 9,qK 71 1 70,qL 72 2 10,qF 73 6 9,qK 74 1 73,qF 75 8 9,qK 76 1 75,vr 77 191 72 74 76,qV 67 77,qE 78 67 0,qE 79 67 1,qw 80 2 69 71,qR 2 80 78,qV 7 79] (qS [qV 81 7,qo 82 81 0] (.cond (.s 82) (qS [vh 83,qV 84 7,qR 3 4 83,qV 5 84] .ret) .skip)))))))) (vO 85 24 1 24 85))))))) (vR 86 3 6 3 4 86 5 0))))⟩
theorem zqP:zae Tryz.prog loud 126=some zkf:=by kernel_rfl
abbrev zsN:Nat:=180
def zl0:AFunc:=⟨51,[(2,some (true,4)),(3,none)],qS [qO 2 (.alloc 147 [.str [],qI 0,qI 0,.str []]),qq 3] (qS [qV 10 0,qO 11 (.call 228 [.s 10,.c (.str [46])]),qV 4 11] (.seq (qS [qV 12 4,qy 13 12,qo 14 13 3] (.cond (.s 14) (qS [qO 15 (.build [.str [],qI 0,qI 0,.str []] []),qR 4 2 15,qq 3] .ret) .skip)) (qS [qV 17 4,wJ 18 1 17 0,qK 19 1 18,qf 20 229 19,qV 16 20,qE 21 16 0,qE 22 16 1,qV 5 21,qV 6 22] (qS [qV 24 4,wJ 25 1 24 1,qK 26 1 25,qf 27 229 26,qV 23 27,qE 28 23 0,qE 29 23 1,qV 7 28,qV 8 29] (qS [qV 30 4,wJ 31 1 30 2,qK 32 1 31,qO 33 (.bin .add (.c (.str [46])) (.s 32)),qV 9 33] (qS [qV 34 0,qV 35 5,qV 36 7,qV 37 9,qO 38 (.build [.str [],qI 0,qI 0,.str []] [(0,1,.s 34),(1,1,.s 35),(2,1,.s 36),(3,1,.s 37)]),qV 39 6,qV 40 39,q8 40 41 8,wm 42 40 41,qV 43 42,q8 43 44 9,qT 43 45 (.bin .eql (.s 44) (.c (.str [46,112]))),q8 43 46 45,qz 46 47 9,qN 46 48 (ub 47),qT 43 49 (qD 46 48),wm 50 43 49,qR 4 2 38,qV 3 50] .ret))))))⟩
theorem zso:zae Tryz.prog loud 180=some zl0:=by kernel_rfl
abbrev zrh:Nat:=181
def zjV:AFunc:=⟨49,[(2,some (true,9)),(3,none),(4,none),(5,none)],qS [q9 2 74,qj 3,qb 4 0,qb 5 0] (qS [qV 11 0,qf 12 230 11,qV 10 12,qE 13 10 0,qE 14 10 1,qE 15 10 2,qR 9 2 13,qV 4 14,qV 6 15] (.seq (qS [qV 16 6,wB 17 16,qV 18 17,wq 18 19 0 2,wr 18 20 1 19,vi 18 21 20 1,we 22 18 21] (.cond (.s 22) (qS [vv 23,qR 9 2 23,qj 3,qb 4 0,qb 5 7] .ret) .skip)) (.block 0 (.loop (.block 1 (qS [qV 25 0,qV 26 4,qt 27 1 25 26,qf 28 230 27,qV 24 28,qE 29 24 0,qE 30 24 1,qE 31 24 2,q9 7 74,qR 9 7 29,qV 8 30,qV 9 31] (.seq (qS [qV 32 9,wB 33 32,qV 34 33,wq 34 35 0 7,wr 34 36 1 35,qN 34 37 (qW 36 1),we 38 34 37] (.cond (.s 38) (qS [qL 39 9 2,qV 40 3,qV 41 4,qR 9 2 39,qV 3 40,qV 4 41,qb 5 0] .ret) .skip)) (qS [qV 42 3,qL 43 9 7,qO 44 (.mklst 74 9 [qI 0,.str [],qI 0,qI 0,.nils,qI 0,qI 0,qI 0,qI 0] 1 [(0,.s 43)]),vp 45 74 9 96 42 44,qV 3 45] (.ops [qV 46 4,qV 47 8,qB 48 .add 46 47,qV 4 48])))))))))⟩
theorem zqC:zae Tryz.prog loud 181=some zjV:=by kernel_rfl
abbrev zcD:Nat:=182
def zbg:AFunc:=⟨9,[(4,none)],qS [qq 4] (qS [qV 5 0,qV 6 1,qe 7 231 5 6,wE 8 7 0,qV 4 8] .ret)⟩
theorem zcB:zae Tryz.prog loud 182=some zbg:=by kernel_rfl
abbrev zeK:Nat:=183
def zjR:AFunc:=⟨6,[(2,none)],qS [qr 1 74 0,qq 2] (qS [qF 3 0 1,qK 4 1 3,wQ 5 4 3,qV 2 5] .ret)⟩
theorem zrd:zae Tryz.prog loud 183=some zjR:=by kernel_rfl
theorem zqI : zaE Tryz.prog 183 = true := by kernel_rfl
abbrev zet:Nat:=188
def zcx:AFunc:=⟨26,[(4,none)],qS [qq 4] (.seq (ue 6 0 7 6 8 1 9 8 10 7 9 10 4) (.seq (qS [qV 11 0,qy 12 11,qb 13 0] (.block 0 (.loop (qS [qB 14 .lss 13 12] (.seq (vM 14 0) (.seq (.block 1 (qS [qV 15 13,qV 5 15] (qS [qV 16 0,qV 17 5,qw 18 2 16 17,qL 19 2 18,qV 20 1,qV 21 5,qw 22 2 20 21,qL 23 2 22,qO 24 (.eqs true [0,0] (.s 19) (.s 23))] (vN 24 4)))) (vO 25 13 1 13 25))))))) (vZ 4)))⟩
theorem ze5:zae Tryz.prog loud 188=some zcx:=by kernel_rfl
abbrev zqS:Nat:=189
def zka:AFunc:=⟨32,[(2,none)],qS [qr 1 74 0,qq 2] (qS [qF 3 0 1,qK 4 1 3,wQ 5 4 3,qV 6 5,wv 6 7 1 1,wC 6 8 1 7,qT 6 9 (.bin .eql (.s 8) (.c (.str []))),wm 10 6 9,qV 11 10,wv 11 12 2 1,wC 11 13 1 12,qT 11 14 (qW 13 0),wm 15 11 14,qV 16 15,wv 16 17 3 1,wC 16 18 1 17,qT 16 19 (qW 18 0),wm 20 16 19,qV 21 20,wv 21 22 4 1,wC 21 23 1 22,qT 21 24 (qP 23),qT 21 25 (qW 24 0),wm 26 21 25,qV 27 26,wv 27 28 7 1,wC 27 29 1 28,qT 27 30 (qW 29 0),wm 31 27 30,qV 2 31] .ret)⟩
theorem zqW:zae Tryz.prog loud 189=some zka:=by kernel_rfl
abbrev zqZ:Nat:=229
def zkn:AFunc:=⟨30,[(2,none),(3,none)],qS [qb 2 0,qq 3] (qS [qV 8 0,qO 9 (.call 271 [.s 8,qC 10,qC 64]),qV 7 9,qE 10 7 0,qE 11 7 1,qV 4 10,qV 5 11] (qS [qV 12 5,qO 13 (.px (.isnil 0 false (.s 12))),qV 14 13,q8 14 15 4,vg 14 16 15 1,wm 17 14 16,qV 18 17,q8 18 19 4,ww 18 20 19 1099511627776,wm 21 18 20,qV 22 21,q8 22 23 4,qT 22 24 (.call 272 [.s 23,qC 10]),q8 22 25 0,wS 22 26 24 25,wm 27 22 26,qV 6 27] (qS [qV 28 4,qV 29 6,qV 2 28,qV 3 29] .ret)))⟩
theorem zqx:zae Tryz.prog loud 229=some zkn:=by kernel_rfl
abbrev zgR:Nat:=230
def zeO:AFunc:=⟨27,[(2,some (true,9)),(3,none),(4,none)],qS [q9 2 74,qb 3 0,qq 4] (qS [qV 10 0,qf 11 273 10,qV 9 11,qE 12 9 0,qE 13 9 1,qE 14 9 2,qV 5 12,qV 6 13,qV 7 14] (.seq (qS [qV 15 7,qo 16 15 0] (.cond (.s 16) (qS [vv 17,qR 9 2 17,qb 3 0,qq 4] .ret) .skip)) (qS [qV 19 5,qf 20 274 19,qV 18 20,qE 21 18 0,qE 22 18 1,q9 8 74,qR 9 8 21,qV 7 22] (qS [qL 23 9 8,qV 24 6,qV 25 7,wQ 26 25 0,qR 9 2 23,qV 3 24,qV 4 26] .ret))))⟩
theorem zgQ:zae Tryz.prog loud 230=some zeO:=by kernel_rfl
abbrev zcN:Nat:=231
def zbw:AFunc:=⟨19,[(4,none)],qS [qb 4 0] (.seq (qS [qV 6 0,qy 7 6,qb 8 0] (.block 0 (.loop (qS [qB 9 .lss 8 7] (.seq (vM 9 0) (.seq (.block 1 (qS [qV 10 8,qV 5 10] (qS [qV 11 1,qV 12 0,qV 13 5,qw 14 9 12 13,qL 15 9 14,vl 16 11 15] (vS 16 17 5 4 17)))) (vO 18 8 1 8 18))))))) (qS [vA 4] .ret))⟩
theorem zcO:zae Tryz.prog loud 231=some zbw:=by kernel_rfl
abbrev znH:Nat:=273
def ziv:AFunc:=⟨48,[(2,none),(3,none),(4,none)],qS [qj 2,qb 3 0,qb 4 0] (.seq (qS [qV 7 0,qy 8 7,qx 9 8 2] (.cond (.s 9) (qS [qj 2,qb 3 0,qb 4 9] .ret) .skip)) (qS [qV 10 0,wJ 11 1 10 0,qK 12 1 11,wW 13 12,qV 14 0,wJ 15 1 14 1,qK 16 1 15,wW 17 16,qO 18 (.px (.bit .shl (.s 17) (.c (.int .u64 8)))),w6 19 13 18,qV 5 19] (.seq (.block 0 (qS [qV 21 5,wQ 22 21 0,qV 23 22,qz 23 24 5,wz 23 25 24 512,we 26 23 25,qV 20 26] (.cond (.s 20) (qS [qj 2,qb 3 0,qb 4 7] .ret) (qS [qV 28 0,qy 29 28,qV 30 5,wg 31 30 6,qB 32 .lss 29 31,qV 27 32] (.cond (.s 27) (qS [qj 2,qb 3 0,qb 4 9] .ret) .skip))))) (qS [qV 34 0,qV 35 5,wg 36 35 6,wu 37 1 34 36,qf 38 307 37,qV 33 38,qE 39 33 0,qE 40 33 1,qV 6 39,qV 4 40] (.seq (qS [qV 41 4,qo 42 41 0] (.cond (.s 42) (qS [qV 43 4,qj 2,qb 3 0,qV 4 43] .ret) .skip)) (qS [qV 44 6,qO 45 (.slc 1 (.s 44) (some (qC 2)) none),qV 46 5,wg 47 46 6,qV 2 45,qV 3 47,qb 4 0] .ret))))))⟩
theorem zoi:zae Tryz.prog loud 273=some ziv:=by kernel_rfl
abbrev zeL:Nat:=274
def zeN:AFunc:=⟨59,[(2,some (true,9)),(3,none)],qS [q9 2 74,qb 3 0] (qS [qV 6 0,qO 7 (.build [.nils,.bool false] [(0,1,.s 6)]),qr 8 350 7,qV 4 8] (qS [qV 9 4,ve 10 308 9 1,qO 11 (.build [qI 0,.str [],qI 0,qI 0,.nils,qI 0,qI 0,qI 0,qI 0] [(0,1,.s 10)]),q9 5 74,qR 9 5 11] (.seq (qS [qF 12 0 5,qK 13 1 12] (.block 0 (qS [wQ 15 13 1,qV 14 15] (.cond (.s 14) (.ops [qV 16 4,qe 17 309 16 5]) (qS [wQ 19 13 2,qV 18 19] (.cond (.s 18) (qS [qV 20 4,ve 21 308 20 8,qF 22 6 5,qR 1 22 21] (qS [qV 23 4,ve 24 308 23 8,qF 25 7 5,qR 1 25 24] (.ops [qV 26 4,ve 27 308 26 8,qF 28 8 5,qR 1 28 27]))) (qS [wQ 30 13 3,qV 29 30] (.cond (.s 29) (qS [qV 31 4,ve 32 308 31 1,qF 33 5 5,qR 1 33 32] (qS [qV 34 4,ve 35 308 34 8,qF 36 6 5,qR 1 36 35] (.ops [qV 37 4,ve 38 308 37 8,qF 39 8 5,qR 1 39 38]))) .skip)))))))) (.seq (qS [qV 40 4,qu 41 40,qF 42 1 41,qK 43 1 42,qV 44 43,qz 44 45 4,qN 44 46 (.nilck (.s 45)),wq 44 47 0 46,wr 44 48 1 47,vE 44 49 48,wz 44 50 49 0,we 51 44 50,qV 52 51,w8 52 53 9 5,wV 52 54 202 53,vD 52 55 54,we 56 52 55] (.cond (.s 56) (qS [vv 57,qR 9 2 57,qb 3 7] .ret) .skip)) (vR 58 9 5 9 2 58 3 0)))))⟩
theorem zgJ:zae Tryz.prog loud 274=some zeN:=by kernel_rfl
abbrev zwB:Nat:=307
def zqr:AFunc:=⟨38,[(2,none),(3,none)],qS [qj 2,qb 3 0] (qS [qV 7 0,qy 8 7,wD 9 8 4,qV 4 9] (.seq (qS [qV 10 4,qx 11 10 0] (vX 11 2 3 9)) (qS [qO 5 (.mv (.c (.int .u32 0)))] (.seq (qS [qb 12 0] (.block 0 (.loop (qS [qx 13 12 4] (.seq (vM 13 0) (.seq (.block 1 (qS [qV 14 12,qV 6 14] (.ops [qV 15 5,qV 16 0,qV 17 4,qV 18 6,qB 19 .add 17 18,qw 20 1 16 19,qK 21 1 20,qO 22 (.conv .u32 (.s 21)),qV 23 6,qO 24 (.bin .mul (qC 8) (.s 23)),vI 25 22 24,w6 26 15 25,qV 5 26]))) (vO 27 12 1 12 27))))))) (.seq (qS [qV 28 5,qV 29 0,qV 30 4,wu 31 1 29 30,qf 32 252 31,qB 33 .neq 28 32] (vX 33 2 3 8)) (qS [qV 34 0,qV 35 4,wu 36 1 34 35,qf 37 56 36,qV 2 37,qb 3 0] .ret))))))⟩
theorem zwF:zae Tryz.prog loud 307=some zqr:=by kernel_rfl
abbrev zhK:Nat:=308
def zep:AFunc:=⟨27,[(4,none)],qS [qb 4 0] (qS [wi 5] (.seq (qS [qV 8 0,qV 9 1,qe 10 332 8 9,qy 11 10,qb 12 0] (.block 0 (.loop (qS [qB 13 .lss 12 11] (.seq (vM 13 0) (.seq (.block 1 (qS [qV 14 12,qw 15 1 10 12,qK 16 1 15,qV 6 14,qV 7 16] (.ops [qV 17 5,qV 18 7,wL 19 18,qV 20 6,qO 21 (.bin .mul (qC 8) (.s 20)),vI 22 19 21,w6 23 17 22,qV 5 23]))) (vO 24 12 1 12 24))))))) (qS [qV 25 5,wW 26 25,qV 4 26] .ret)))⟩
theorem zhS:zae Tryz.prog loud 308=some zep:=by kernel_rfl
abbrev ziA:Nat:=309
def zfc:AFunc:=⟨52,[],qS [qV 6 1,qV 7 0,qV 8 0,ve 9 308 8 2,qe 10 332 7 9,qO 11 (.px (.tostr (.s 10))),qu 12 6,qF 13 1 12,qR 1 13 11] (qS [qV 14 1,qV 15 0,ve 16 308 15 1,qu 17 14,qF 18 2 17,qR 1 18 16] (qS [qV 19 1,qV 20 0,ve 21 308 20 4,qu 22 19,qF 23 3 22,qR 1 23 21] (qS [qV 24 0,ve 25 308 24 1,qV 4 25] (.block 0 (.loop (.seq (qS [qV 26 4,wK 27 26 0,qV 28 27,q8 28 29 0,qT 28 30 (.nilck (.s 29)),wv 28 31 1 30,wC 28 32 1 31,qT 28 33 (qg 32),wm 34 28 33] (vM 34 0)) (.seq (.block 1 (qS [qV 37 0,ve 38 308 37 4,qV 5 38] (.all [[qV 39 1,qV 40 1,qu 41 40,qF 42 4 41,qK 43 1 42,qV 44 5,qV 45 0,ve 46 308 45 2,wR 47 0 1 44 1 1 46,vB 48 119 2 1 0 47,vp 49 119 2 16 43 48,qu 50 39,qF 51 4 50,qR 1 51 49],[qV 39 1,qV 40 1,qu 41 40,qF 42 4 41,qV 44 5,qV 45 0,ve 46 308 45 2,qK 43 1 42,wR 47 0 1 44 1 1 46,vB 48 119 2 1 0 47,vp 49 119 2 16 43 48,qu 50 39,qF 51 4 50,qR 1 51 49]]))) (.ops [qV 35 4,wD 36 35 1,qV 4 36]))))))))⟩
theorem ziW:zae Tryz.prog loud 309=some zfc:=by kernel_rfl
abbrev zi9:Nat:=332
def zfb:AFunc:=⟨38,[(4,none)],qS [qj 4] (.seq (qS [qV 6 0,qu 7 6,qF 8 1 7,qK 9 1 8,qV 10 9,qz 10 11 1,qz 10 12 0,qN 10 13 (.nilck (.s 12)),wq 10 14 0 13,wr 10 15 1 14,vE 10 16 15,qN 10 17 (.bin .gtr (.s 11) (.s 16)),we 18 10 17] (.cond (.s 18) (qS [qV 19 0,qu 20 19,qF 21 1 20,⟨none,none,.store 1 (.s 21) qY⟩] (qS [qj 4] .ret)) .skip)) (qS [qV 22 0,qu 23 22,qF 24 0 23,qK 25 1 24,qV 26 1,wu 27 1 25 26,qV 5 27] (qS [qV 28 0,qV 29 0,qu 30 29,qF 31 0 30,qK 32 1 31,qV 33 1,qt 34 1 32 33,qu 35 28,qF 36 0 35,qR 1 36 34] (vT 37 5 4 37))))⟩
theorem ziY:zae Tryz.prog loud 332=some zfb:=by kernel_rfl
end Go.Proofs.YtdbhocoeolhjhaaGreatDoor
