/- Shelf: an act of the law's play. Shelf: points come to a metric, in the law's play. Shelf: any act of the law's play; the law's fixed fact; the law of -/
import Derived.Test.YtdbhocoeolhjhaaGreatDoorBn1
import Derived.Test.YtdbhocoeolhjhaaGreatDoorBn2
import Derived.Test.YtdbhocoeolhjhaaGreatDoorBn3
import Derived.Test.YtdbhocoeolhjhaaGreatDoorBn4
import Derived.Test.YtdbhocoeolhjhaaGreatDoorBn5
import Derived.Test.YtdbhocoeolhjhaaGreatDoorBn6
import Derived.Test.YtdbhocoeolhjhaaGreatDoorBn7
set_option linter.unusedSimpArgs false
set_option linter.unusedVariables false
set_option linter.constructorNameAsVariable false
section
set_option maxHeartbeats 16000000
namespace Go.Abs
variable [Globs]
theorem zxR {P:Program} {f:FuncId} {args:List AV} {σ:zac} {R R':AV→zac→Prop} (h:ACalls P f args σ R) (hf:∀r σ',R r σ'→R' r σ'∨∃σ'',Frz σ' σ''∧R' r σ''):ACalls P f args σ R':=fun base κ Im w vs hs hv=>(h base κ Im w vs hs hv).mono (by
 rintro e w' ⟨r,σ',v,κ',Im',rfl,hR,hs',hg,hvr⟩
 rcases hf r σ' hR with h1|⟨σ'',hz,h1⟩
 ·exact ⟨r,σ',v,κ',Im',rfl,h1,hs',hg,hvr⟩
 ·obtain ⟨Im1,hs1,hg1⟩:=zzf hs' hz
  exact ⟨r,σ'',v,κ',Im1,rfl,h1,hs1,hg.trans hg1,hvr.grow hg1⟩)
theorem z7L {P:Program} {K:AV→zac→Prop} {σ:zac} {g:FuncId} {args args':List AV} {r:AV} {t:Tg K} (hc:PCalls P g args' (fun r'=>r'=r)) (ha:CoeL σ false args args') (hK:K r σ):qc P K t σ g args:=⟨false,args',r,ha,hc,nofun,hK⟩
end Go.Abs
namespace Go.Proofs.YtdbhocoeolhjhaaGreatDoor
open Go.Abs Go.RowKit Go.Sf Go.Num
variable {G:Globs}
structure PlayAt (σ:zac) (k:Nat) (p:PlayM) (C0 C1 C2 C3:AV):Prop where
 at':σ[k]? =some (.var 42 (plC C0 C1 C2 C3 (p.sure 0:Nat) (p.sure 1:Nat) (p.sure 2:Nat) (p.sure 3:Nat) p.now))
 c0:CameOK σ C0 (p.came 0)
 c1:CameOK σ C1 (p.came 1)
 c2:CameOK σ C2 (p.came 2)
 c3:CameOK σ C3 (p.came 3)
structure Kept (σ σ':zac) (k:Nat):Prop where
 len:σ.length≤σ'.length
 get:∀i,i<σ.length→i≠k→σ'[i]? =σ[i]?
theorem CameOK.more {σ:zac} {C:AV} {l:List ArrM} (h:CameOK σ C l) (t:zac):CameOK (σ++t) C l:=by
 rcases h with h|⟨id,h1,h2⟩
 ·exact .inl h
 ·exact .inr ⟨id,h1,zdu h2 t⟩
theorem CameOK.kept {σ σ':zac} {k:Nat} {C:AV} {l:List ArrM} {t:TypeId} {c:List AV} (h:CameOK σ C l) (hk:σ[k]? =some (.var t c)) (hK:Kept σ σ' k):CameOK σ' C l:=by
 rcases h with h|⟨id,h1,h2⟩
 ·exact .inl h
 ·refine .inr ⟨id,h1, ?_⟩
  rw [hK.get id (yaa.1 h2).1 (fun e=>by subst e;rw [hk] at h2;cases h2)]
  exact h2
theorem zfw {σ:zac} {k:Nat} (x:Entry) (t:zac):Kept σ (σ.set k x++t) k:=by
 refine ⟨by simp,fun i hi hne=> ?_⟩
 rw [yar (by simpa using hi),yba (fun e=>hne e.symm)]
inductive StepS (s:ShM) (n:Nat):ShM→Prop
 |same:StepS s n s
 |app (j:Nat) (hj:j<4) (bs:List ArrM) (hb:∀x∈bs,OkA x∧OkV x) (hl:bs.length≤n) (hf:(zaO (zaz s (zau j)) bs).length≤s.disk.quota-zaC s.disk):StepS s n (zcb s (zaz s (zau j)) bs)
 |sync (j:Nat) (hj:j<4) (hh:hasK kM s.mets (zau j)):StepS s n (zoG s (zaz s (zau j)))
 |comp (j:Nat) (hj:j<4) (hf:(zbZ (zaz s (zau j))).length≤s.disk.quota-zaC s.disk):StepS s n (zjw s (zaz s (zau j)) (zbZ (zaz s (zau j))))
def DoR (s:ShM) (q a k':Nat) (σ:zac) (k:Nat) (p:PlayM) (dl:Nat) (r:AV) (σ':zac):Prop:=
 ∃s' p' e C0 C1 C2 C3,r=.tup [.agg (shC s'),.int .i64 e,.bool true]∧e≠22∧PlayInv s' p' q (a+1) (k'+1)∧PlayAt σ' k p' C0 C1 C2 C3∧Kept σ σ' k∧1000≤p'.now∧p'.now≤p.now+30*dl∧StepS s dl s'
def ze1 (p:PlayM) (j:Nat):PlayM:=⟨p.came,fun i=>if i=j then (p.came j).length else p.sure i,p.now⟩
theorem gset {σ:zac} (k:Nat) (x:Entry) (t:zac) (i:Nat):(σ.set k x++t)[σ.length+i]? =t[i]? :=by
 rw [yaj (by simp)]
 simp
theorem zu0 {σ:zac} (k:Nat) (x:Entry) (t:zac):(σ.set k x++t)[σ.length]? =t[0]? :=gset k x t 0
theorem sset {σ:zac} (k:Nat) (x:Entry) (t:zac) (i:Nat) (y:Entry):(σ.set k x++t).set (σ.length+i) y=σ.set k x++t.set i y:=by
 rw [ybi _ _ (by simp)]
 simp
theorem spl4 {C0 C1 C2 C3:AV} {now:Nat} (f:Nat→Nat) {j:Nat} (hj:j<4) (n:Nat):(List.take (4+j) [C0,C1,C2,C3,AV.int .i64 (f 0:Nat),.int .i64 (f 1:Nat),.int .i64 (f 2:Nat),.int .i64 (f 3:Nat),.int .i64 now]++AV.int .i64 n::List.drop (4+j) [C1,C2,C3,.int .i64 (f 0:Nat),.int .i64 (f 1:Nat),.int .i64 (f 2:Nat),.int .i64 (f 3:Nat),.int .i64 now])=
  plC C0 C1 C2 C3 ((fun i=>if i=j then n else f i) 0:Nat) ((fun i=>if i=j then n else f i) 1:Nat) ((fun i=>if i=j then n else f i) 2:Nat) ((fun i=>if i=j then n else f i) 3:Nat) now:=by
 match j,hj with
 |0,_=>rfl
 |1,_=>rfl
 |2,_=>rfl
 |3,_=>rfl
theorem ziR {σ τ:zac} {a b c d:Entry}:(σ++a::b::c::d::τ)[σ.length+3]? =some d:=by
 rw [yaj (by omega),ya0];rfl
theorem ziP {σ τ:zac} {a b c d x:Entry}:(σ++a::b::c::d::τ).set (σ.length+3) x=σ++a::b::c::x::τ:=by
 rw [ybi _ _ (by omega),ya0];rfl
theorem z6k {σ:zac} {k:Nat} {p:PlayM} {C0 C1 C2 C3:AV} (h:PlayAt σ k p C0 C1 C2 C3) {j:Nat} (hj:j<4):∃Cj,CameOK σ Cj (p.came j)∧(∀(l:List AV),List.take 1 (List.drop j (C0::C1::C2::C3::l))= [Cj]):=by
 match j,hj with
 |0,_=>exact ⟨C0,h.c0,fun l=>rfl⟩
 |1,_=>exact ⟨C1,h.c1,fun l=>rfl⟩
 |2,_=>exact ⟨C2,h.c2,fun l=>rfl⟩
 |3,_=>exact ⟨C3,h.c3,fun l=>rfl⟩
theorem z69 {σ:zac} {k:Nat} {s:ShM} {p:PlayM} {q a k':Nat} {C0 C1 C2 C3:AV} (hP:PlayInv s p q a k') (ha:a<69) (hk':k'≤100000) (hA:PlayAt σ k p C0 C1 C2 C3) (act:ActM) (hact:OkAct act) (hkind:act.kind%5=3) (hn1:1000≤p.now):
  ACalls Tryz.prog zbS [.ptr k 0,.agg (shC s),.agg (actC act)] σ (DoR s q a k' σ k p act.dots.length):=by
 refine zag hmix zcJ rfl ?_
 obtain ⟨j,hj⟩:∃j,j=act.met%4:=⟨_,rfl⟩
 have hj4:j<4:=by omega
 have hpj:zau act.met=zau j:=by rw [hj,zm7]
 have hmm:(act.met:Int).tmod 4=(j:Int):=by rw [hj];exact zbI act.met 4
 have hkm:(act.kind:Int).tmod 5=3:=by
  have:(act.kind:Int).tmod 5=((act.kind%5:Nat):Int):=zbI act.kind 5
  rw [this,hkind];rfl
 have hwj:IntKind.i64.wrap (j:Int)=j:=wrap_i64 (by omega) (by omega)
 have kNm:=zoe (G:=G) act.met hact.m
 have kS:=z2z (G:=G) hP.inv (by omega) hk' (za9 j)
 rw [hpj] at kNm
 have hk:=hA.at'
 have hlow0:=hA.c0.low
 have hlow1:=hA.c1.low
 have hlow2:=hA.c2.low
 have hlow3:=hA.c3.low
 have v0:=fun t=>(hA.c0.more t).view
 have v1:=fun t=>(hA.c1.more t).view
 have v2:=fun t=>(hA.c2.more t).view
 have v3:=fun t=>(hA.c3.more t).view
 obtain ⟨Cj,hcj,hTD⟩:=z6k hA hj4
 have vj:=fun t=>(hcj.more t).view
 have oj:=hcj.low.one
 have hj9:j+1≤9:=by omega
 have hj8:4+j≤8:=by omega
 have hgk:=fun t=>zdu hk t
 have hst:=fun t y=>zj4 hk t y
 simp only [plC] at hgk
 simp only [shC] at kS
 simp [zbN,shC,actC,zbu,za6,zaY,hmm,hkm,hwj]
 refine zaZ kNm (by simp) ?_
 simp
 refine zaZ kS (by simp [AV.pure]) ?_
 by_cases hh:hasK kM s.mets (zau j)
 ·have hR:zrj s (zau j)=.tup [.agg (shC (zoG s (zaz s (zau j)))),.int .i64 0]:=by unfold zrj;rw [if_pos hh]
  rw [hR]
  have hI:=z0j hP hj4 hh
  simp [shC,zbu,za6,zaY,zdv,splice,hj4,hgk,hTD,oj,hj9,vj,zfE,hj8,hst,spl4 p.sure hj4,zc7,gset,zu0,sset]
  have hlow:=fun (C:AV) (h:LowC σ C)=>h.under (m:=σ.length) (yaq _)
  refine zhK hk (.tup [.agg (shC (zoG s (zaz s (zau j)))),.int .i64 0,.bool true]) (by simp [zaE,gset,shC]) (by simp [AV.under,shC]) (by simp [Entry.under,plC,AV.under,hlow _ hlow0,hlow _ hlow1,hlow _ hlow2,hlow _ hlow3]) ?_
  refine ⟨_,ze1 p j,0,C0,C1,C2,C3,rfl,by decide,zfa (zim hI _ _) (by omega) (by omega), ?_, ?_,hn1,by show p.now≤_;omega,.sync j hj4 hh⟩
  ·have hK:=zfw (σ:=σ) (k:=k) (.var 42 (plC C0 C1 C2 C3 ((ze1 p j).sure 0:Nat) ((ze1 p j).sure 1:Nat) ((ze1 p j).sure 2:Nat) ((ze1 p j).sure 3:Nat) p.now)) []
   rw [yby] at hK
   exact ⟨zdV hk _,hA.c0.kept hk hK,hA.c1.kept hk hK,hA.c2.kept hk hK,hA.c3.kept hk hK⟩
  ·have hK:=zfw (σ:=σ) (k:=k) (.var 42 (plC C0 C1 C2 C3 ((ze1 p j).sure 0:Nat) ((ze1 p j).sure 1:Nat) ((ze1 p j).sure 2:Nat) ((ze1 p j).sure 3:Nat) p.now)) []
   rw [yby] at hK
   exact hK
 ·have hR:zrj s (zau j)=.tup [.agg (shC s),.int .i64 15]:=by unfold zrj;rw [if_neg hh]
  have hc0:p.came j= []:=Classical.byContradiction fun h=>hh ((hP.has j hj4).2 h)
  rw [hR]
  have kSm:=zeX (G:=G) hP.inv (by omega) hk'
  simp only [shC] at kSm
  have hcl0:zbi (p.came j)= []:=by rw [hc0];rfl
  simp [shC,zbu,za6,zaY,ziR,zdv,ziP,splice,hj4,hgk,hTD,oj,hj9,vj,zfE,hcl0]
  refine zaq kSm (by simp [AV.pure]) (by simp) ?_
  simp [shC,zbu,za6,zaY,ziR,zdv,ziP,splice]
  exact zhr (.tup [.agg (shC s),.int .i64 15,.bool true]) (by simp [zaE,zaY,shC]) (by simp [AV.under,shC]) ⟨s,p,15,C0,C1,C2,C3,rfl,by decide,zfa hP (by omega) (by omega),hA,⟨yaq _,fun _ _ _=>rfl⟩,hn1,by omega,.same⟩
theorem z5e (hT:zlX G) {σ:zac} {k:Nat} {s:ShM} {p:PlayM} {q a k':Nat} {C0 C1 C2 C3:AV} (hP:PlayInv s p q a k') (ha:a<69) (hk':k'≤100000) (hA:PlayAt σ k p C0 C1 C2 C3) (act:ActM) (hact:OkAct act) (hkind:act.kind%5=4) (hn1:1000≤p.now):
  ACalls Tryz.prog zbS [.ptr k 0,.agg (shC s),.agg (actC act)] σ (DoR s q a k' σ k p act.dots.length):=by
 refine zag hmix zcJ rfl ?_
 obtain ⟨j,hj⟩:∃j,j=act.met%4:=⟨_,rfl⟩
 have hj4:j<4:=by omega
 have hpj:zau act.met=zau j:=by rw [hj,zm7]
 have hmm:(act.met:Int).tmod 4=(j:Int):=by rw [hj];exact zbI act.met 4
 have hkm:(act.kind:Int).tmod 5=4:=by
  have:(act.kind:Int).tmod 5=((act.kind%5:Nat):Int):=zbI act.kind 5
  rw [this,hkind];rfl
 have hwj:IntKind.i64.wrap (j:Int)=j:=wrap_i64 (by omega) (by omega)
 have kNm:=zoe (G:=G) act.met hact.m
 have kS:=zsw (G:=G) hT hP.inv ha hk' (za9 j)
 rw [hpj] at kNm
 have hk:=hA.at'
 have hlow0:=hA.c0.low
 have hlow1:=hA.c1.low
 have hlow2:=hA.c2.low
 have hlow3:=hA.c3.low
 have v0:=fun t=>(hA.c0.more t).view
 have v1:=fun t=>(hA.c1.more t).view
 have v2:=fun t=>(hA.c2.more t).view
 have v3:=fun t=>(hA.c3.more t).view
 obtain ⟨Cj,hcj,hTD⟩:=z6k hA hj4
 have vj:=fun t=>(hcj.more t).view
 have oj:=hcj.low.one
 have hj9:j+1≤9:=by omega
 have hj8:4+j≤8:=by omega
 have hgk:=fun t=>zdu hk t
 have hst:=fun t y=>zj4 hk t y
 simp only [plC] at hgk
 simp only [shC] at kS
 simp [zbN,shC,actC,zbu,za6,zaY,hmm,hkm,hwj]
 refine zaZ kNm (by simp) ?_
 simp
 refine zaZ kS (by simp [AV.pure]) ?_
 by_cases hh:hasK kM s.mets (zau j)
 ·obtain ⟨B,hB⟩:∃B,B=zbZ (zaz s (zau j)):=⟨_,rfl⟩
  by_cases hf:B.length≤s.disk.quota-zaC s.disk
  ·skip
   have hR:zjX s (zau j)=.tup [.agg (shC (zjw s (zaz s (zau j)) B)),.int .i64 0]:=by unfold zjX;rw [if_pos hh,←hB,if_pos hf]
   rw [hR]
   have hI:=ztM hP ha hj4 hh hf
   simp [shC,zbu,za6,zaY,zdv,splice,hj4,hgk,hTD,oj,hj9,vj,zfE,hj8,hst,spl4 p.sure hj4,zc7,gset,zu0,sset]
   have hlow:=fun (C:AV) (h:LowC σ C)=>h.under (m:=σ.length) (yaq _)
   refine zhK hk (.tup [.agg (shC (zjw s (zaz s (zau j)) B)),.int .i64 0,.bool true]) (by simp [zaE,gset,shC]) (by simp [AV.under,shC]) (by simp [Entry.under,plC,AV.under,hlow _ hlow0,hlow _ hlow1,hlow _ hlow2,hlow _ hlow3]) ?_
   refine ⟨_,ze1 p j,0,C0,C1,C2,C3,rfl,by decide,zfa (zim hI _ _) (yaq _) (by omega), ?_, ?_,hn1,by show p.now≤_;omega,by rw [hB];exact .comp j hj4 (by rw [←hB];exact hf)⟩
   ·have hK:=zfw (σ:=σ) (k:=k) (.var 42 (plC C0 C1 C2 C3 ((ze1 p j).sure 0:Nat) ((ze1 p j).sure 1:Nat) ((ze1 p j).sure 2:Nat) ((ze1 p j).sure 3:Nat) p.now)) []
    rw [yby] at hK
    exact ⟨zdV hk _,hA.c0.kept hk hK,hA.c1.kept hk hK,hA.c2.kept hk hK,hA.c3.kept hk hK⟩
   ·have hK:=zfw (σ:=σ) (k:=k) (.var 42 (plC C0 C1 C2 C3 ((ze1 p j).sure 0:Nat) ((ze1 p j).sure 1:Nat) ((ze1 p j).sure 2:Nat) ((ze1 p j).sure 3:Nat) p.now)) []
    rw [yby] at hK
    exact hK
  ·have hR:zjX s (zau j)=.tup [.agg (shC s),.int .i64 6]:=by unfold zjX;rw [if_pos hh,←hB,if_neg hf]
   rw [hR]
   have kSm:=zeX (G:=G) hP.inv (by omega) hk'
   simp only [shC] at kSm
   simp [shC,zbu,za6,zaY,ziR,zdv,ziP,splice,hj4,hgk,hTD,oj,hj9,vj,zfE]
   refine zaq kSm (by simp [AV.pure]) (by simp) ?_
   simp [shC,zbu,za6,zaY,ziR,zdv,ziP,splice]
   exact zhr (.tup [.agg (shC s),.int .i64 6,.bool true]) (by simp [zaE,zaY,shC]) (by simp [AV.under,shC]) ⟨s,p,6,C0,C1,C2,C3,rfl,by decide,zfa hP (by omega) (by omega),hA,⟨yaq _,fun _ _ _=>rfl⟩,hn1,by omega,.same⟩
 ·have hR:zjX s (zau j)=.tup [.agg (shC s),.int .i64 15]:=by unfold zjX;rw [if_neg hh]
  have hc0:p.came j= []:=Classical.byContradiction fun h=>hh ((hP.has j hj4).2 h)
  rw [hR]
  have kSm:=zeX (G:=G) hP.inv (by omega) hk'
  simp only [shC] at kSm
  have hcl0:zbi (p.came j)= []:=by rw [hc0];rfl
  simp [shC,zbu,za6,zaY,ziR,zdv,ziP,splice,hj4,hgk,hTD,oj,hj9,vj,zfE,hcl0]
  refine zaq kSm (by simp [AV.pure]) (by simp) ?_
  simp [shC,zbu,za6,zaY,ziR,zdv,ziP,splice]
  exact zhr (.tup [.agg (shC s),.int .i64 15,.bool true]) (by simp [zaE,zaY,shC]) (by simp [AV.under,shC]) ⟨s,p,15,C0,C1,C2,C3,rfl,by decide,zfa hP (by omega) (by omega),hA,⟨yaq _,fun _ _ _=>rfl⟩,hn1,by omega,.same⟩
end Go.Proofs.YtdbhocoeolhjhaaGreatDoor
end
section
set_option maxHeartbeats 16000000
namespace Go.Proofs.YtdbhocoeolhjhaaGreatDoor
open Go.Abs Go.RowKit Go.Sf Go.Num
variable {G:Globs}
theorem spl0 {C0 C1 C2 C3:AV} {s0 s1 s2 s3:Int} {now:Nat} {j:Nat} (hj:j<4) (R:AV):(List.take j [C0,C1,C2,C3,AV.int .i64 s0,.int .i64 s1,.int .i64 s2,.int .i64 s3,.int .i64 now]++R::List.drop j [C1,C2,C3,.int .i64 s0,.int .i64 s1,.int .i64 s2,.int .i64 s3,.int .i64 now])=
  plC (if 0=j then R else C0) (if 1=j then R else C1) (if 2=j then R else C2) (if 3=j then R else C3) s0 s1 s2 s3 now:=by
 match j,hj with
 |0,_=>rfl
 |1,_=>rfl
 |2,_=>rfl
 |3,_=>rfl
theorem zz2 (hT:zlX G) {σ:zac} {k:Nat} {s:ShM} {p:PlayM} {q a k':Nat} {C0 C1 C2 C3:AV} (hP:PlayInv s p q a k') (ha:a<69) (hk':k'≤100000) (hA:PlayAt σ k p C0 C1 C2 C3) (act:ActM) (hact:OkAct act) (hkind:act.kind%5≠3∧act.kind%5≠4) (hd:act.dots.length≤300) (hn1:1000≤p.now) (hn2:p.now≤600000):
  ACalls Tryz.prog zbS [.ptr k 0,.agg (shC s),.agg (actC act)] σ (DoR s q a k' σ k p act.dots.length):=by
 refine zxR (R:=fun r σ'=>DoR s q a k' σ k p act.dots.length r σ'∨∃id l,σ'[id]? =some (.row 91 4 (zbi l) false)∧DoR s q a k' σ k p act.dots.length r (σ'.set id (.row 91 4 (zbi l) true))) ?_ (fun r σ' h=> ?_)
 rotate_left
 ·rcases h with h|⟨id,l,h1,h2⟩
  ·exact .inl h
  ·exact .inr ⟨_,⟨id,_,_,_,_,h1,zmh (zhe l).2.1 (fun c hc=>by obtain ⟨n,_,rfl⟩:=yav.1 hc;simp [arrC]),rfl⟩,h2⟩
 refine zag hmix zcJ rfl ?_
 obtain ⟨j,hj⟩:∃j,j=act.met%4:=⟨_,rfl⟩
 have hj4:j<4:=by omega
 have hpj:zau act.met=zau j:=by rw [hj,zm7]
 have hmm:(act.met:Int).tmod 4=(j:Int):=by rw [hj];exact zbI act.met 4
 obtain ⟨kd,hkd⟩:∃kd,kd=act.kind%5:=⟨_,rfl⟩
 rw [←hkd] at hkind
 have hkm:(act.kind:Int).tmod 5=(kd:Int):=by rw [hkd];exact zbI act.kind 5
 have hk3:¬(kd:Int)=3:=by omega
 have hk4:¬(kd:Int)=4:=by omega
 have hk3':¬kd=3:=by omega
 have hk4':¬kd=4:=by omega
 have hwj:IntKind.i64.wrap (j:Int)=j:=wrap_i64 (by omega) (by omega)
 have kNm:=zoe (G:=G) act.met hact.m
 rw [hpj] at kNm
 obtain ⟨bs,hbs⟩:∃bs,bs=ptsM p.now act.dots:=⟨_,rfl⟩
 have hbl:bs.length≤300:=by rw [hbs,zsg];exact hd
 have hbo:∀x∈bs,OkA x:=by rw [hbs];exact z6f hn1 (by omega) hact.d
 have hnow:=zz4 p.now act.dots
 obtain ⟨now',hnw⟩:∃now',now'=nowM p.now act.dots:=⟨_,rfl⟩
 rw [←hnw] at hnow
 have kAp:=zq1 (G:=G) hT hP.inv ha hk' (za9 j) bs hbo hbl
 have hk:=hA.at'
 obtain ⟨Cj,hcj,hTD⟩:=z6k hA hj4
 have oj:=hcj.low.one
 have hj9:j+1≤9:=by omega
 have hj8:4+j≤8:=by omega
 have kPt:=fun (X:zac)=>z1P (G:=G) (σ:=σ++X) (k:=k) (hA.c0.more X).low (hA.c1.more X).low (hA.c2.more X).low (hA.c3.more X).low (zdu hk X) act hact hd hn1 hn2
 rw [←hbs,←hnw] at kPt
 simp only [shC] at kAp
 obtain ⟨P',hP'⟩:∃P':Entry,P'=.var 42 (plC C0 C1 C2 C3 (p.sure 0:Nat) (p.sure 1:Nat) (p.sure 2:Nat) (p.sure 3:Nat) now'):=⟨_,rfl⟩
 simp [zbN,shC,actC,zbu,za6,zaY,hmm,hkm,hwj,hk3,hk4,hk3',hk4']
 refine zar (kPt _) ?_
 rintro r σ' ⟨tl,rfl,hAcc,hen⟩
 rw [zj4 hk,←hP']
 obtain ⟨V,hV⟩:∃V:Entry,V=.var 33 (shC s):=⟨_,rfl⟩
 obtain ⟨A,hAe⟩:∃A:Entry,A=.var 47 (actC act):=⟨_,rfl⟩
 obtain ⟨Z,hZ⟩:∃Z:Entry,Z=.var 33 [.int .i64 0,.nils,.nils,.nils,.nils,.int .i64 0,.nils,.int .i64 0,.int .i64 0,.bool false]:=⟨_,rfl⟩
 have hA2:AccT 91 4 (σ.length+4) tl r (zbi bs):=by simpa using hAcc
 have hcoe:∀(a b c d:Entry) (X:zac) (lend:Bool),Coe (σ.set k P'++a::b::c::d::(tl++X)) lend r (.lst (zbi bs)):=fun a b c d X lend=>by
  have h1:AccT 91 4 (σ.set k P'++ [a,b,c,d]).length (tl++X) r (zbi bs):=by
   have:(σ.set k P'++ [a,b,c,d]).length=σ.length+4:=by simp
   rw [this];exact hA2.more X
  have:=h1.coe lend
  simpa using this
 have hcoe0:∀(a b c d:Entry) (lend:Bool),Coe (σ.set k P'++a::b::c::d::tl) lend r (.lst (zbi bs)):=fun a b c d lend=>by simpa using hcoe a b c d [] lend
 have hviw:∀(a b c d:Entry) (X:zac),view (σ.set k P'++a::b::c::d::(tl++X)) r=some (zbi bs):=fun a b c d X=>by
  have h1:AccT 91 4 (σ.set k P'++ [a,b,c,d]).length (tl++X) r (zbi bs):=by
   have:(σ.set k P'++ [a,b,c,d]).length=σ.length+4:=by simp
   rw [this];exact hA2.more X
  have:=h1.view
  simpa using this
 have hK:=fun (X:zac)=>zfw (σ:=σ) (k:=k) P' X
 have w0:=fun X=>hA.c0.kept hk (hK X)
 have w1:=fun X=>hA.c1.kept hk (hK X)
 have w2:=fun X=>hA.c2.kept hk (hK X)
 have w3:=fun X=>hA.c3.kept hk (hK X)
 have hgk:=fun (X:zac)=>zdu (zdV hk P') X
 have kAc:=zuX (G:=G) (p.came 0) (p.came 1) (p.came 2) (p.came 3) (p.sure 0:Nat) (p.sure 1:Nat) (p.sure 2:Nat) (p.sure 3:Nat) now' j (p.came j) (by
  match j,hj4 with
  |0,_=>exact .inl ⟨rfl,rfl⟩
  |1,_=>exact .inr (.inl ⟨rfl,rfl⟩)
  |2,_=>exact .inr (.inr (.inl ⟨rfl,rfl⟩))
  |3,_=>exact .inr (.inr (.inr ⟨rfl,rfl⟩))) (hP.ok j hj4) (by have:=hP.len j hj4;omega) bs hbo (by omega)
 simp [gset,zu0,sset]
 refine zaZ kNm (by simp) ?_
 simp [gset,zu0,sset]
 refine zaZ zkQ (by simp) ?_
 simp [gset,zu0,sset]
 refine z7L kAp (.cons (.pure _ (by simp [AV.pure])) (.cons (.pure _ (by simp)) (.cons (.pure _ (by simp [AV.pure,schC])) (.cons (hcoe0 _ _ _ _ _) .nil)))) ?_
 obtain ⟨s',e,hR,he⟩:∃(s':ShM) (e:Int),zhB s (zau j) bs=.tup [.agg (shC s'),.int .i64 e]∧((e=0∧(∀x∈bs,OkV x)∧PlayInv s' (addC p j bs now') q (a+1) (k'+1)∧StepS s act.dots.length s')∨(e=6∧(∀x∈bs,OkV x)∧s'=s)∨(e=1∧¬(∀x∈bs,OkV x)∧s'=s)):=by
  unfold zhB
  by_cases hv:∀x∈bs,OkV x
  ·rw [if_pos hv]
   by_cases h0:bs= []
   ·rw [if_pos h0]
    refine ⟨s,0,rfl,.inl ⟨rfl,hv, ?_,.same⟩⟩
    have:addC p j bs now'=⟨p.came,p.sure,now'⟩:=by
     unfold addC
     rw [h0]
     congr 1
     funext i
     split
     ·rename_i e;rw [e];simp
     ·rfl
    rw [this]
    exact zfa (zim hP _ _) (by omega) (by omega)
   ·rw [if_neg h0]
    by_cases hf:(zaO (zaz s (zau j)) bs).length≤s.disk.quota-zaC s.disk
    ·rw [if_pos hf]
     exact ⟨_,0,rfl,.inl ⟨rfl,hv,zpo hP ha hj4 (fun x hx=>⟨hbo x hx,hv x hx⟩) h0 hbl hf now',.app j hj4 bs (fun x hx=>⟨hbo x hx,hv x hx⟩) (by rw [hbs,zsg];exact yaq _) hf⟩⟩
    ·rw [if_neg hf]
     exact ⟨s,6,rfl,.inr (.inl ⟨rfl,hv,rfl⟩)⟩
  ·rw [if_neg hv]
   exact ⟨s,1,rfl,.inr (.inr ⟨rfl,hv,rfl⟩)⟩
 rw [hR]
 simp [shC,gset,zu0,sset]
 refine z0U kAc (.cons ?_ (.cons (.pure _ (by simp)) (.cons ?_ .nil))) ?_
 ·refine .ptr k 0 42 (plC C0 C1 C2 C3 (p.sure 0:Nat) (p.sure 1:Nat) (p.sure 2:Nat) (p.sure 3:Nat) now') _ (by rw [hgk,hP']) rfl (by simp [plC]) rfl (fun i h h'=> ?_) (by simp [AV.one])
  match i,h with
  |0,_=>exact (w0 _).coe true
  |1,_=>exact (w1 _).coe true
  |2,_=>exact (w2 _).coe true
  |3,_=>exact (w3 _).coe true
  |4,_=>exact .pure _ (by simp [plC,AV.pure])
  |5,_=>exact .pure _ (by simp [plC,AV.pure])
  |6,_=>exact .pure _ (by simp [plC,AV.pure])
  |7,_=>exact .pure _ (by simp [plC,AV.pure])
  |8,_=>exact .pure _ (by simp [plC,AV.pure])
 ·exact hcoe _ _ _ _ _ true
 rintro r2 rfl
 refine ⟨by simp [rig], ?_⟩
 have hlow:=fun (C:AV) (h:LowC σ C)=>h.under (m:=σ.length) (yaq _)
 have hPu:P'.under (σ.set k P').length=true:=by
  rw [hP']
  simp [Entry.under,plC,AV.under,hlow _ hA.c0.low,hlow _ hA.c1.low,hlow _ hA.c2.low,hlow _ hA.c3.low]
 have hKn:Kept σ (σ.set k P') k:=by have:=hK [];rwa [yby] at this
 have hAt:PlayAt (σ.set k P') k ⟨p.came,p.sure,now'⟩ C0 C1 C2 C3:=⟨by rw [zdV hk,hP'],hA.c0.kept hk hKn,hA.c1.kept hk hKn,hA.c2.kept hk hKn,hA.c3.kept hk hKn⟩
 rcases he with ⟨rfl,hv,hI,hSt⟩|⟨rfl,hv,rfl⟩|⟨rfl,hv,rfl⟩
 ·rw [decide_eq_true hv]
  have hgk':∀X,(σ.set k P'++X)[k]? =some (.var 42 [C0,C1,C2,C3,.int .i64 (p.sure 0:Nat),.int .i64 (p.sure 1:Nat),.int .i64 (p.sure 2:Nat),.int .i64 (p.sure 3:Nat),.int .i64 now']):=fun X=>by rw [hgk,hP'];rfl
  have wj:=fun X=>hcj.kept hk (hK X)
  have hcl:=hP.len j hj4
  have lcj:=zc7 (p.came j)
  have lbs:=zc7 bs
  have hst2:∀(y:Entry) (X:zac),(σ.set k P'++X).set k y=σ.set k y++X:=fun y X=>by rw [zj4 (zdV hk P'),List.set_set]
  have hgk2:∀(y:Entry) (X:zac),(σ.set k y++X)[k]? =some y:=fun y X=>zdu (zdV hk y) X
  simp [hj4,hgk',hTD,oj,hj9,zfE]
  refine zaK [] (zbi (p.came j)) false (by simp [gset,za6]) (wj _).view (by decide) (zhe _).1 (fun h=>by cases h) rfl (by rw [lcj];omega) (by rw [lcj];omega) ?_
  simp [gset,sset,zdx]
  refine zaK (zbi (p.came j)) (zbi bs) false (by simp [gset,za6]) (hviw _ _ _ _ _) (by decide) (zhe _).1 (fun h=>by cases h) rfl (by rw [lcj,lbs];omega) (by rw [lcj,lbs];omega) ?_
  have harr:zbi (p.came j)++zbi bs=zbi (p.came j++bs):=by simp [zbi]
  simp [gset,sset,zdx,harr,hj4,hgk',hj9,hst2]
  rw [spl0 hj4,lcj,lbs]
  obtain ⟨R,hRr⟩:∃R,R=AV.row (σ.length+(tl.length+1+1+1+1+1)) ((p.came j).length+bs.length):=⟨_,rfl⟩
  obtain ⟨P2,hP2⟩:∃P2:Entry,P2=.var 42 (plC (if 0=j then R else C0) (if 1=j then R else C1) (if 2=j then R else C2) (if 3=j then R else C3) (p.sure 0:Nat) (p.sure 1:Nat) (p.sure 2:Nat) (p.sure 3:Nat) now'):=⟨_,rfl⟩
  rw [←hRr,←hP2]
  obtain ⟨S0,hS0⟩:∃S0:Entry,S0=.var 33 (shC s):=⟨_,rfl⟩
  obtain ⟨S1,hS1⟩:∃S1:Entry,S1=.var 33 (shC s'):=⟨_,rfl⟩
  have hS0':=hS0
  have hS1':=hS1
  have hA':A=.var 47 [.int .u8 act.kind,.int .u8 act.met,.lst (zte act.dots)]:=hAe
  simp only [shC] at hS0' hS1'
  rw [←hS0',←hS1',←hA',show (Entry.var 47 (actC act))=A from hAe.symm]
  have hKf:Kept σ (σ.set k P2++S0::A::S1::A::(tl++ [S1,.row 91 4 (zbi (p.came j++bs)) true])) k:=zfw P2 _
  have hfz:(σ.set k P2++S0::A::S1::A::(tl++ [S1,.row 91 4 (zbi (p.came j++bs)) false])).set (σ.length+(tl.length+1+1+1+1+1)) (.row 91 4 (zbi (p.came j++bs)) true)=σ.set k P2++S0::A::S1::A::(tl++ [S1,.row 91 4 (zbi (p.came j++bs)) true]):=by
   simp [sset,zdx]
  have hcm:∀(i:Nat) (C:AV),CameOK σ C (p.came i)→CameOK (σ.set k P2++S0::A::S1::A::(tl++ [S1,.row 91 4 (zbi (p.came j++bs)) true])) (if i=j then R else C) ((addC p j bs now').came i):=fun i C hC=>by
   show CameOK _ _ (if i=j then p.came j++bs else p.came i)
   split
   ·refine .inr ⟨_,by rw [hRr,yag], ?_⟩
    simp [gset,za6]
   ·exact hC.kept hk hKf
  have hlen:(σ.set k P2++S0::A::S1::A::(tl++ [S1,.row 91 4 (zbi (p.came j++bs)) false])).length=σ.length+(tl.length+6):=by simp
  have hRu:R.under (σ.length+(tl.length+6))=true:=by rw [hRr];simp [AV.under]
  have hle6:σ.length≤σ.length+(tl.length+6):=by omega
  have hCu:∀(i:Nat) (C:AV),LowC σ C→(if i=j then R else C).under (σ.length+(tl.length+6))=true:=fun i C hC=>by
   split
   ·exact hRu
   ·exact hC.under hle6
  refine za5 (σ.set k P2++S0::A::S1::A::(tl++ [S1,.row 91 4 (zbi (p.came j++bs)) false])) (.tup [.agg (shC s'),.int .i64 0,.bool true]) ?_ [] (by simp) (by simp) (by simp [AV.under,shC]) (fun i e' he'=> ?_) (.inr ⟨σ.length+(tl.length+1+1+1+1+1),p.came j++bs,by simp [gset,za6],s',addC p j bs now',0,(if 0=j then R else C0),(if 1=j then R else C1),(if 2=j then R else C2),(if 3=j then R else C3),rfl,by decide,hI, ?_, ?_,by show 1000≤now';omega,hnow.2,hSt⟩)
  ·simp [zaE,gset,hS1,shC]
  ·rw [hlen]
   by_cases hi:i<σ.length
   ·rw [yar (by simpa using hi)] at he'
    by_cases hki:k=i
    ·subst hki
     rw [zdV hk] at he'
     cases he'
     right
     rw [hP2]
     simp [Entry.under,plC,AV.under]
     exact ⟨hCu 0 C0 hA.c0.low,hCu 1 C1 hA.c1.low,hCu 2 C2 hA.c2.low,hCu 3 C3 hA.c3.low⟩
    ·rw [yba hki] at he'
     exact .inl he'
   ·rw [yaj (by simpa using yd0 hi)] at he'
    right
    have hme:=yaf he'
    simp only [ybb,yai,ydq,or_false] at hme
    rcases hme with rfl|rfl|rfl|rfl|h1|rfl|rfl
    ·rw [hS0];simp [Entry.under,AV.under,shC]
    ·rw [hA'];simp [Entry.under,AV.under]
    ·rw [hS1];simp [Entry.under,AV.under,shC]
    ·rw [hA'];simp [Entry.under,AV.under]
    ·obtain ⟨l,rfl⟩:=hen e' h1
     exact za7 (zhe l).2.1
    ·rw [hS1];simp [Entry.under,AV.under,shC]
    ·exact za7 (zhe _).2.1
  ·rw [hfz]
   exact ⟨by rw [hgk2,hP2];rfl,hcm 0 C0 hA.c0,hcm 1 C1 hA.c1,hcm 2 C2 hA.c2,hcm 3 C3 hA.c3⟩
  ·rw [hfz]
   exact hKf
 ·have kSm:=zeX (G:=G) hP.inv (by omega) hk'
  simp only [shC] at kSm
  rw [decide_eq_true hv]
  simp
  refine zaq kSm (by simp [AV.pure]) (by simp) ?_
  simp [gset,zu0,sset,splice]
  refine zhK hk (.tup [.agg (shC s'),.int .i64 6,.bool true]) (by simp [zaE,gset,shC]) (by simp [AV.under,shC]) hPu (.inl ⟨s',_,6,C0,C1,C2,C3,rfl,by decide,zfa (zim hP p.sure now') (by omega) (by omega),hAt,hKn,by show 1000≤now';omega,hnow.2,.same⟩)
 ·have kSm:=zeX (G:=G) hP.inv (by omega) hk'
  simp only [shC] at kSm
  rw [decide_eq_false hv]
  simp
  refine zaq kSm (by simp [AV.pure]) (by simp) ?_
  simp [gset,zu0,sset,splice]
  refine zhK hk (.tup [.agg (shC s'),.int .i64 1,.bool true]) (by simp [zaE,gset,shC]) (by simp [AV.under,shC]) hPu (.inl ⟨s',_,1,C0,C1,C2,C3,rfl,by decide,zfa (zim hP p.sure now') (by omega) (by omega),hAt,hKn,by show 1000≤now';omega,hnow.2,.same⟩)
end Go.Proofs.YtdbhocoeolhjhaaGreatDoor
end
section
set_option maxHeartbeats 16000000
namespace Go.Proofs.YtdbhocoeolhjhaaGreatDoor
open Go.Abs Go.RowKit Go.Sf Go.Num
variable {G:Globs}
theorem z8o (hT:zlX G) {σ:zac} {k:Nat} {s:ShM} {p:PlayM} {q a k':Nat} {C0 C1 C2 C3:AV} (hP:PlayInv s p q a k') (ha:a<69) (hk':k'≤100000) (hA:PlayAt σ k p C0 C1 C2 C3) (act:ActM) (hact:OkAct act) (hd:act.dots.length≤300) (hn1:1000≤p.now) (hn2:p.now≤600000):
  ACalls Tryz.prog zbS [.ptr k 0,.agg (shC s),.agg (actC act)] σ (DoR s q a k' σ k p act.dots.length):=by
 by_cases h3:act.kind%5=3
 ·exact z69 hP ha hk' hA act hact h3 hn1
 ·by_cases h4:act.kind%5=4
  ·exact z5e hT hP ha hk' hA act hact h4 hn1
  ·exact zz2 hT hP ha hk' hA act hact ⟨h3,h4⟩ hd hn1 hn2
def alPt:List ArrM:= [⟨100,5,101⟩]
theorem zr9:∀x∈alPt,OkA x∧OkV x:=by
 intro x hx
 simp only [alPt,ybh] at hx
 subst hx
 exact ⟨⟨by decide,by decide,by decide,by decide,⟨by decide,by decide⟩⟩,by unfold OkV;decide⟩
def alSh1:ShM:=zcb (newS 2000) (zaz (newS 2000) [97]) alPt
def z7Y:PlayM:=addC ⟨fun _=> [],fun _=>0,1000⟩ 0 alPt 1000
def alSh2:ShM:=zjw alSh1 (zaz alSh1 [97]) (zbZ (zaz alSh1 [97]))
theorem z8Q:zaz (newS 2000) [97]=zkS (newS 2000) [97]:=zgo (by simp [newS,hasK])
theorem z4T:(zaO (zaz (newS 2000) [97]) alPt).length≤(newS 2000).disk.quota-zaC (newS 2000).disk:=by
 rw [z8Q]
 decide+kernel
theorem alInv1:PlayInv alSh1 z7Y 2000 1 1:=zpo (n:=0) (zro (q:=2000) (by decide)) (by decide) (by decide) zr9 (by decide) (by decide) z4T 1000
theorem z4Q:(zbZ (zaz alSh1 [97])).length≤alSh1.disk.quota-zaC alSh1.disk:=by
 decide+kernel
theorem alInv2:PlayInv alSh2 z7Y 2000 2 1:=ztM (n:=0) alInv1 (by decide) (by decide) ((alInv1.has 0 (by decide)).2 (by decide)) z4Q
theorem z4I:alSh2.disk.names.map (·.name)= [[49,46,50,46,99]]:=by
 decide+kernel
theorem z7T:(zaz alSh2 [97]).base=2:=by
 decide+kernel
theorem z3p (hT:zlX G):PCalls Tryz.prog zkq [] (fun r=>r=.bool true):=by
 refine zaa hmix zjM rfl ?_
 have k1:=z12 (G:=G) 2000 (by decide)
 have hI0:=(zro (q:=2000) (by decide)).inv
 have k2:=zq1 (G:=G) hT hI0 (by decide) (by decide) (p:= [97]) (by decide) alPt (fun x hx=>(zr9 x hx).1) (by decide)
 have k3:=zsw (G:=G) hT alInv1.inv (by decide) (by decide) (p:= [97]) (by decide)
 have hh2:hasK kM alSh2.mets [97]:=(alInv2.has 0 (by decide)).2 (by decide)
 obtain ⟨hg,hpt⟩:=zdn alInv2.inv.srt hh2
 have k4:=zlQ (G:=G) alSh2 [97] alInv2.inv.srt (by have:=alInv2.inv.len;omega) hg hpt
 have k5:=fun σ=>zrS (G:=G) σ alSh2.disk alInv2.inv.size.right (alInv2.inv.size.fits (by decide) (by decide))
 have k6:=z1h (G:=G) alPt zr9 (by decide)
 have k7:=zms (G:=G) (zaz alSh2 [97]).lad (alInv2.inv.met (p:= [97]) (by decide)).lad
 have hl:zcH newL alPt=(zaz alSh2 [97]).lad:=(alInv2.lad 0 (by decide)).symm
 have e1:zhB (newS 2000) [97] alPt=.tup [.agg (shC alSh1),.int .i64 0]:=by
  unfold zhB
  rw [if_pos (fun x hx=>(zr9 x hx).2),if_neg (by decide),if_pos z4T]
  rfl
 have e2:zjX alSh1 [97]=.tup [.agg (shC alSh2),.int .i64 0]:=by
  unfold zjX
  have hh1:hasK kM alSh1.mets [97]:=(alInv1.has 0 (by decide)).2 (by decide)
  rw [if_pos hh1,if_pos z4Q]
  rfl
 rw [e1] at k2
 rw [e2] at k3
 rw [hl] at k6
 simp only [shC,zak] at k1 k2 k3 k4 k5
 simp only [schC,alPt,zbi,List.map,arrC] at k2 k6
 simp only [ladC] at k6 k7
 simp [zfW]
 refine zad k1 (by simp) ?_
 rintro r rfl
 simp [shC]
 refine zaZ zkQ (by simp) ?_
 simp [splice,schC]
 refine zaZ k2 (by simp [AV.pure]) ?_
 simp [splice]
 refine zad k3 (by simp [AV.pure]) ?_
 rintro r rfl
 simp [splice]
 refine zad k4 (by simp [AV.pure]) ?_
 rintro r rfl
 simp [splice,metC]
 refine zar (k5 _) ?_
 rintro r σ' ⟨rfl,rfl⟩
 have hnl:alSh2.disk.names.length=1:=by have:=congrArg List.length z4I;simpa using this
 have hst:zd2 (alSh2.disk.names.map (·.name))= [[.str [49,46,50,46,99]]]:=by rw [z4I];rfl
 have hb2:=z7T
 simp [splice,metC,hnl,hst,hb2]
 refine zaZ zkQ (by simp) ?_
 simp [splice,schC]
 refine zaZ k6 (by simp [AV.pure]) ?_
 simp
 refine zaZ k7 (by simp [AV.pure]) ?_
 simp
end Go.Proofs.YtdbhocoeolhjhaaGreatDoor
end
section
set_option maxHeartbeats 16000000
namespace Go.Proofs.YtdbhocoeolhjhaaGreatDoor
open Go.Abs Go.RowKit Go.Sf Go.Num
variable {G:Globs}
def shV (s:ShM):Entry:=.var 33 (shC s)
theorem PlayAt.more {σ:zac} {k:Nat} {p:PlayM} {C0 C1 C2 C3:AV} (h:PlayAt σ k p C0 C1 C2 C3) (t:zac):PlayAt (σ++t) k p C0 C1 C2 C3:=⟨zdu h.at' t,h.c0.more t,h.c1.more t,h.c2.more t,h.c3.more t⟩
theorem PlayAt.kept {σ σ':zac} {k j:Nat} {p:PlayM} {C0 C1 C2 C3:AV} {t:TypeId} {c:List AV} (h:PlayAt σ k p C0 C1 C2 C3) (hj:σ[j]? =some (.var t c)) (hne:k≠j) (hK:Kept σ σ' j):PlayAt σ' k p C0 C1 C2 C3:=
 ⟨by rw [hK.get k (yaa.1 h.at').1 hne];exact h.at',h.c0.kept hj hK,h.c1.kept hj hK,h.c2.kept hj hK,h.c3.kept hj hK⟩
theorem zzn {l:List ActM} (i:Nat):((l.take i).map fun a=>a.dots.length).sum≤(l.map fun a=>a.dots.length).sum:=by
 have e:l.map (fun a=>a.dots.length)=(l.take i).map (fun a=>a.dots.length)++(l.drop i).map fun a=>a.dots.length:=by rw [←ydm,ya9]
 rw [e,List.sum_append];omega
end Go.Proofs.YtdbhocoeolhjhaaGreatDoor
end
section
set_option maxHeartbeats 1000000
namespace Go.Proofs.YtdbhocoeolhjhaaGreatDoor
open Go.Sf Go.Num
def At (d:DiskM) (t:Txt) (f:FileM):Prop:=hasK kN d.names t∧f∈d.files∧f.id=idOf d.names t
theorem zvD {l:List NameM} (hs:Srt kN l) {t:Txt} (h:hasK kN l t):∃n∈l,n.name=t∧n.id=idOf l t:=by
 obtain ⟨n,hn,rfl⟩:=h
 exact ⟨n,hn,rfl,(ziE hs hn).symm⟩
theorem zoa {l m:List NameM} (hl:Srt kN l) (hm:Srt kN m) (hs:∀n∈m,n∈l) {t:Txt} (h:hasK kN m t):idOf m t=idOf l t:=by
 obtain ⟨n,hn,rfl⟩:=h
 have h1:=ziE hm hn
 have h2:=ziE hl (hs n hn)
 have e:kN n=n.name:=rfl
 rw [e,h1,h2]
theorem zxb {l:List NameM} {x:NameM} (hs:Srt kN l) (hn:¬hasK kN l x.name):idOf (insK kN l x) x.name=x.id:=ziE (zh8 hs hn) (zcp.2 (.inl rfl))
theorem z4n {d:DiskM} (h:RightM d) {f g:FileM} (hf:f∈d.files) (hg:g∈d.files) (he:f.id=g.id):f=g:=by
 obtain ⟨i,hi⟩:=yb4 hf
 obtain ⟨j,hj⟩:=yb4 hg
 rcases ycv i j with hij|rfl|hij
 ·have:=zkM h.filed.1 hij hi hj;omega
 ·rw [hi] at hj;exact Option.some.inj hj
 ·have:=zkM h.filed.1 hij hj hi;omega
theorem z5B {d:DiskM} (h:RightM d) {t:Txt} {f g:FileM} (hf:At d t f) (hg:At d t g):f=g:=z4n h hf.2.1 hg.2.1 (hf.2.2.trans hg.2.2.symm)
theorem z3n {d:DiskM} (h:RightM d) {t u:Txt} (ht:hasK kN d.names t) (hu:hasK kN d.names u) (he:idOf d.names t=idOf d.names u):t=u:=by
 obtain ⟨n,hn,rfl,h1⟩:=zvD h.names.srt ht
 obtain ⟨m,hm,rfl,h2⟩:=zvD h.names.srt hu
 have hid:n.id=m.id:=by rw [h1,h2];exact he
 have:n=m:=by
  have hn':=h.names.ids
  rw [yb1,ycm] at hn'
  obtain ⟨i,hi⟩:=yb4 hn
  obtain ⟨j,hj⟩:=yb4 hm
  rcases ycv i j with hij|rfl|hij
  ·exact absurd hid (zkM hn' hij hi hj)
  ·rw [hi] at hj;exact Option.some.inj hj
  ·exact absurd hid.symm (zkM hn' hij hj hi)
 rw [this]
theorem z5h {d:DiskM} (h:RightM d) {t:Txt} (ht:hasK kN d.names t):1≤idOf d.names t∧idOf d.names t<d.next:=by
 obtain ⟨n,hn,_,h1⟩:=zvD h.names.srt ht
 rw [←h1]
 exact h.idlt (h.nids n hn)
theorem zoD {d:DiskM} {n t:Txt} {f:FileM} (h:RightM d) (hn:¬hasK kN d.names n) (hA:At (za1 d n) t f):(t=n∧f=⟨d.next,[],0⟩)∨(t≠n∧At d t f):=by
 obtain ⟨h1,h2,h3⟩:=hA
 have h2':f∈d.files++ [⟨d.next,[],0⟩]:=h2
 have h3':f.id=idOf (insK kN d.names ⟨n,d.next⟩) t:=h3
 by_cases htn:t=n
 ·subst htn
  have e:idOf (insK kN d.names ⟨t,d.next⟩) t=d.next:=zxb (x:=⟨t,d.next⟩) h.names.srt hn
  rw [e] at h3'
  rcases yai.1 h2' with hf|hf
  ·have:=(h.filed.2 f hf).2.1;omega
  ·exact .inl ⟨rfl,by simpa using hf⟩
 ·have hh:hasK kN d.names t:=(ze3.1 h1).resolve_left htn
  have e:idOf (insK kN d.names ⟨n,d.next⟩) t=idOf d.names t:=(zoa (zh8 h.names.srt hn) h.names.srt (fun m hm=>zcp.2 (.inr hm)) hh).symm
  rw [e] at h3'
  have hlt:=z5h h hh
  rcases yai.1 h2' with hf|hf
  ·exact .inr ⟨htn,hh,hf,h3'⟩
  ·simp at hf
   subst hf
   have:d.next=idOf d.names t:=h3'
   omega
theorem z4P {d:DiskM} {s t:Txt} {f:FileM} {g:FileM→FileM} (h:RightM d) (hs:hasK kN d.names s) (hg:∀x,(g x).id=x.id) (hA:At {d with files:=modF d.files (idOf d.names s) g} t f):∃x,At d t x∧f=if t=s then g x else x:=by
 obtain ⟨h1,h2,h3⟩:=hA
 have h1':hasK kN d.names t:=h1
 have h2':f∈modF d.files (idOf d.names s) g:=h2
 have h3':f.id=idOf d.names t:=h3
 obtain ⟨x,hx,he⟩:=yav.1 h2'
 have hid:f.id=x.id:=by rw [←he];split;exact hg x;rfl
 refine ⟨x,⟨h1',hx,by omega⟩, ?_⟩
 by_cases hts:t=s
 ·subst hts
  rw [if_pos rfl,←he,if_pos (by omega)]
 ·rw [if_neg hts,←he,if_neg]
  intro e
  exact hts (z3n h h1' hs (by omega))
theorem zlq {d:DiskM} {s t b:Txt} {f:FileM} (h:RightM d) (hs:hasK kN d.names s) (hA:At (zaQ d s b) t f):∃x,At d t x∧f=if t=s then {x with bytes:=x.bytes++b} else x:=z4P h hs (fun _=>rfl) hA
theorem zwu {d:DiskM} {s t:Txt} {f:FileM} (h:RightM d) (hs:hasK kN d.names s) (hA:At (zcX d s) t f):∃x,At d t x∧f=if t=s then {x with sure:=x.bytes.length} else x:=z4P h hs (fun _=>rfl) hA
theorem zqX {d:DiskM} {t:Txt} {f:FileM} (hA:At (zbs d) t f):At d t f:=⟨hA.1,(ybn.1 (show f∈d.files.filter _ from hA.2.1)).1,hA.2.2⟩
theorem z0c {d:DiskM} {s t:Txt} {f:FileM} (h:RightM d) (hs:hasK kN d.names s) (hA:At (zcO d s) t f):t≠s∧At d t f:=by
 obtain ⟨h1,h2,h3⟩:=hA
 have hh:=(zjb h hs).1 h1
 refine ⟨hh.1,hh.2,h2, ?_⟩
 rw [h3]
 exact zoa h.names.srt (zfr h.names.srt) (fun n hn=>((zeJ h.names.srt hs).1 hn).1) h1
theorem z1N {d:DiskM} {s u t:Txt} {f:FileM} (h:RightM d) (hs:hasK kN d.names s) (hA:At (zc2 d s u) t f):(t=u∧At d s f)∨(t≠u∧t≠s∧At d t f):=by
 obtain ⟨h1,h2,h3⟩:=hA
 have hS:=zfr (s:=s) h.names.srt
 have hD:Srt kN (zfZ (delK kN d.names s) u):=hS.sublist (zrv _ _)
 have hnu:=zxn hS u
 have h3':f.id=idOf (insK kN (zfZ (delK kN d.names s) u) ⟨u,idOf d.names s⟩) t:=h3
 by_cases htu:t=u
 ·subst htu
  refine .inl ⟨rfl,hs,h2, ?_⟩
  rw [h3']
  exact zxb (x:=⟨t,idOf d.names s⟩) hD hnu
 ·obtain ⟨hts,hh⟩:=((zq3 h hs).1 h1).resolve_left htu
  have hh2:hasK kN (zfZ (delK kN d.names s) u) t:=by
   obtain ⟨n,hn,rfl⟩:=hh
   exact ⟨n,(zol hS).2 ⟨(zeJ h.names.srt hs).2 ⟨hn,hts⟩,htu⟩,rfl⟩
  refine .inr ⟨htu,hts,hh,h2, ?_⟩
  rw [h3',←zoa (zh8 hD hnu) hD (fun n hn=>zcp.2 (.inr hn)) hh2]
  exact zoa h.names.srt hD (fun n hn=>((zeJ h.names.srt hs).1 ((zol hS).1 hn).1).1) hh2
theorem zxS {d:DiskM} {l:List Txt} {a k:Nat} {t:Txt} {f:FileM} (h:SizeM d a k) (hnd:l.Nodup) (hl:∀n∈l,okS n∧hasK kN d.names n) (hA:At (zbt d l) t f):At d t f:=by
 induction l generalizing d k with
 |nil=>exact hA
 |cons n l ih=>
  have hn:=hl n (by simp)
  have hnd':=ydl.1 hnd
  have h1:=zpg h hn.1 hn.2
  exact (z0c h.right hn.2 (ih h1 hnd'.2 (fun x hx=>⟨(hl x (by simp [hx])).1,(zjb h.right hn.2).2 ⟨fun e=>hnd'.1 (by rw [←e];exact hx),(hl x (by simp [hx])).2⟩⟩) hA)).2
theorem z0e {d:DiskM} {t:Txt} {f:FileM} (hA:At (zhZ d) t f):At d t f:=by
 unfold zhZ at hA
 split at hA
 ·exact hA
 ·exact zqX hA
theorem zsl {d:DiskM} {m:MetM} {t:Txt} {f:FileM} (h:RightM d) (hl:0<m.last→hasK kN d.names (zdc m)) (hA:At (zaR d m) t f):∃x,At d t x∧f.bytes=x.bytes:=by
 unfold zaR at hA
 split at hA
 ·rename_i hp
  obtain ⟨x,hx,he⟩:=zwu h (hl hp) hA
  refine ⟨x,hx, ?_⟩
  rw [he];split<;>rfl
 ·exact ⟨f,hA,rfl⟩
end Go.Proofs.YtdbhocoeolhjhaaGreatDoor
end
section
set_option maxHeartbeats 1000000
namespace Go.Sf
open Go.Abs
def bitV (s:BitVec 32):BitVec 32:=(s>>>1)^^^(if s.getLsbD 0 then 0x82f63b78#32 else 0#32)
def z78 (n:Nat):BitVec 32:=BitVec.ofInt 32 (stepsT.getD n 0)
theorem zoc (a b:BitVec 32):bitV (a^^^b)=bitV a^^^bitV b:=by
 unfold bitV
 rw [BitVec.ushiftRight_xor_distrib,BitVec.getLsbD_xor]
 cases a.getLsbD 0<;>cases b.getLsbD 0<;>simp
 ·rw [yei]
 ·rw [yei,yei,BitVec.xor_comm _ (b>>>1)]
 ·have:∀x y z:BitVec 32,x^^^y=x^^^z^^^(y^^^z):=fun x y z=>by
   rw [yei,BitVec.xor_comm y z,←yei z,BitVec.xor_self,BitVec.zero_xor]
  exact this _ _ _
theorem zkX {a:BitVec 32} (h:a.getLsbD 0=false):bitV a=a>>>1:=by
 unfold bitV;rw [h];simp
def bit4 (s:BitVec 32):BitVec 32:=bitV (bitV (bitV (bitV s)))
theorem z4b (a b:BitVec 32):bit4 (a^^^b)=bit4 a^^^bit4 b:=by
 unfold bit4;rw [zoc,zoc,zoc,zoc]
theorem zzb (s:BitVec 32):bit4 (s>>>4<<<4)=s>>>4:=by
 have h0:(s>>>4<<<4).getLsbD 0=false:=by simp
 have h1:(s>>>4<<<4>>>1).getLsbD 0=false:=by simp
 have h2:(s>>>4<<<4>>>1>>>1).getLsbD 0=false:=by simp
 have h3:(s>>>4<<<4>>>1>>>1>>>1).getLsbD 0=false:=by simp
 unfold bit4
 rw [zkX h0,zkX h1,zkX h2,zkX h3]
 apply BitVec.eq_of_getLsbD_eq
 intro i hi
 simp only [BitVec.getLsbD_ushiftRight,BitVec.getLsbD_shiftLeft]
 by_cases h:1+(1+(1+(1+i)))<32
 ·have e:1+(1+(1+(1+i)))-4=i:=by omega
  have h4:¬1+(1+(1+(1+i)))<4:=by omega
  rw [e]
  simp [h,h4]
 ·have h28:32≤4+i:=by omega
  rw [BitVec.getLsbD_of_ge s (4+i) h28]
  simp [h]
theorem z4h:∀n:Fin 16,bit4 (BitVec.ofNat 32 n.1)=z78 n.1:=by decide+kernel
theorem z7f (s:BitVec 32):∃n:Nat,n<16∧s&&&15#32=BitVec.ofNat 32 n:=by
 refine ⟨(s&&&15#32).toNat, ?_,by simp⟩
 rw [yef]
 exact ycg Nat.and_le_right (by decide)
theorem z73 (s:BitVec 32):s=(s>>>4<<<4)^^^(s&&&15#32):=by
 apply BitVec.eq_of_getLsbD_eq
 intro i hi
 have h15:(15#32:BitVec 32).getLsbD i=decide (i<4):=by
  have:∀j:Fin 32,(15#32:BitVec 32).getLsbD j.1=decide (j.1<4):=by decide
  exact this ⟨i,hi⟩
 simp only [BitVec.getLsbD_xor,BitVec.getLsbD_and,BitVec.getLsbD_shiftLeft,BitVec.getLsbD_ushiftRight,h15]
 by_cases h:i<4
 ·simp [h]
 ·have e:4+(i-4)=i:=by omega
  simp [h,hi,e]
theorem z61 (s:BitVec 32) {n:Nat} (hn:n<16) (h:s&&&15#32=BitVec.ofNat 32 n):bit4 s=(s>>>4)^^^z78 n:=by
 conv=>lhs;rw [z73 s]
 rw [z4b,zzb,h,z4h ⟨n,hn⟩]
def V (s:Int):BitVec 32:=BitVec.ofInt 32 s
def U32 (s:Int):Prop:=0≤s∧s<4294967296
theorem z3r {s:Int} (h:U32 s):((V s).toNat:Int)=s:=by
 unfold V U32 at*
 rw [BitVec.toNat_ofInt];omega
theorem z9h {s t:Int} (hs:U32 s) (ht:U32 t) (h:V s=V t):s=t:=by
 rw [←z3r hs,←z3r ht,h]
theorem zzj (x:BitVec 32):IntKind.u32.wrap (x.toNat:Int)=x.toNat:=by
 have:=x.isLt
 simp [IntKind.wrap,IntKind.signed,IntKind.bits];omega
theorem z8v (a b:Int):V (x32 a b)=V a^^^V b:=by
 have e:x32 a b=((V a^^^V b).toNat:Int):=zzj (V a^^^V b)
 rw [e];unfold V;rw [BitVec.ofInt_natCast,BitVec.ofNat_toNat,BitVec.setWidth_eq]
theorem z52 (a b:Int):U32 (x32 a b):=by
 have e:x32 a b=((V a^^^V b).toNat:Int):=zzj (V a^^^V b)
 rw [e]
 have:=(V a^^^V b).isLt
 exact ⟨by omega,by omega⟩
theorem z07 (a b:Int):a32 a b=((V a&&&V b).toNat:Int):=zzj (V a&&&V b)
theorem z7x {s:Int} (h:U32 s) (k:Nat) (d:Int) (hd:d=((2^k:Nat):Int)):V (s.fdiv d)=V s>>>k∧U32 (s.fdiv d):=by
 subst hd
 have h0:=h.1
 have e:s.fdiv ((2^k:Nat):Int)=((s.toNat/2^k:Nat):Int):=by
  rw [yb6 _ (Int.natCast_nonneg _)]
  obtain ⟨n,rfl⟩:∃n:Nat,s=n:=⟨s.toNat,by omega⟩
  rw [Int.toNat_natCast,Int.natCast_ediv]
 have hlt:s.toNat/2^k≤s.toNat:=yct _ _
 have hU:U32 (s.fdiv ((2^k:Nat):Int)):=by
  have:=h.2
  rw [e];exact ⟨Int.natCast_nonneg _,by omega⟩
 refine ⟨?_,hU⟩
 apply BitVec.eq_of_toNat_eq
 have h1:=z3r hU
 have h2:=z3r h
 rw [BitVec.toNat_ushiftRight,Nat.shiftRight_eq_div_pow]
 have e2:(V s).toNat=s.toNat:=by omega
 rw [e2]
 omega
def bitN (s:Int):Int:=if a32 s 1=1 then x32 (s.fdiv 2) 2197175160 else s.fdiv 2
theorem zr1 {s:Int} (h:U32 s):V (bitN s)=bitV (V s)∧U32 (bitN s):=by
 have hs:=z7x h 1 2 rfl
 have hl:(a32 s 1=1)↔(V s).getLsbD 0=true:=by
  rw [z07]
  have:V 1=1#32:=rfl
  rw [this,yef]
  have h1:(1#32:BitVec 32).toNat=1:=rfl
  rw [h1,Nat.and_one_is_mod]
  rw [BitVec.getLsbD,Nat.testBit_zero]
  simp;omega
 unfold bitN bitV
 by_cases hb:a32 s 1=1
 ·rw [if_pos hb,if_pos (hl.1 hb)]
  refine ⟨?_,z52 _ _⟩
  rw [z8v,hs.1];rfl
 ·rw [if_neg hb,if_neg (fun e=>hb (hl.2 e))]
  exact ⟨by rw [hs.1];simp,hs.2⟩
theorem zsP {s:Int} (h:U32 s):crcN s=bitN (bitN (bitN (bitN s)))∧U32 (crcN s):=by
 have hU:U32 (crcN s):=z52 _ _
 refine ⟨?_,hU⟩
 have b1:=zr1 h
 have b2:=zr1 b1.2
 have b3:=zr1 b2.2
 have b4:=zr1 b3.2
 apply z9h hU b4.2
 rw [b4.1,b3.1,b2.1,b1.1]
 obtain ⟨n,hn,he⟩:=z7f (V s)
 have hb:=z61 (V s) hn he
 unfold bit4 at hb
 rw [hb]
 unfold crcN
 rw [z8v,(z7x h 4 16 rfl).1]
 have ha:(a32 s 15).toNat=n:=by
  rw [z07]
  have:V 15=15#32:=rfl
  rw [this,he]
  simp;omega
 rw [ha];rfl
def zuz (s:Int):Nat→Int
 |0=>s
 |k+1=>bitN (zuz s k)
theorem ztT {s:Int} (h:U32 s) (x:UInt8):crcB s x=zuz (x32 s (IntKind.u32.wrap x.toNat)) 8∧U32 (crcB s x):=by
 have h0:=z52 s (IntKind.u32.wrap x.toNat)
 have h1:=zsP h0
 have h2:=zsP h1.2
 refine ⟨?_,h2.2⟩
 unfold crcB
 rw [h2.1,h1.1];rfl
theorem z4G {b:Txt}:∀{s:Int},U32 s→U32 (b.foldl crcB s):=by
 induction b with
 |nil=>intro s h;exact h
 |cons x b ih=>intro s h;exact ih (ztT h x).2
def leN:Txt→Nat
 | []=>0
 |b::l=>b.toNat+256*leN l
theorem z2g (l:Txt) (b:UInt8):leN (l++ [b])=leN l+256^l.length*b.toNat:=by
 induction l with
 |nil=>simp [leN]
 |cons x l ih=>
  simp only [ybv,leN,ih,ybf,yc5]
  rw [ydz,←ycu,ybl 256 (256^l.length),ydt]
theorem z8c (l:Txt):leN l<256^l.length:=by
 induction l with
 |nil=>simp [leN]
 |cons x l ih=>
  have:=x.toNat_lt
  simp only [leN,ybf,yc5]
  omega
theorem zrV (n:Int):((lo8 n).toNat:Int)=n%256:=by
 rw [z0J]
 simp [IntKind.wrap,IntKind.signed,IntKind.bits]
theorem zoA (n:Int):∀k,shrI n k=n/((256^k:Nat):Int)
 |0=>by simp [shrI]
 |k+1=>by
  unfold shrI
  rw [zoA n k,yb6 _ (by omega),Int.ediv_ediv_of_nonneg (Int.natCast_nonneg _)]
  congr 1
theorem zor (n:Int):∀k,(leN (leB n k):Int)=n%((256^k:Nat):Int)
 |0=>by simp [leB,leN,Int.emod_one]
 |k+1=>by
  unfold leB
  rw [z2g,zaj]
  have ih:=zor n k
  have h1:=zrV (shrI n k)
  rw [zoA] at h1
  obtain ⟨m,hm⟩:∃m:Nat,m=256^k:=⟨_,rfl⟩
  have hp:0<m:=by rw [hm];exact Nat.pow_pos (by decide)
  rw [yc5]
  rw [←hm] at ih h1⊢
  rw [Int.natCast_add,ih,yc7,zoA,←hm,h1,yc7]
  have hmod:=Int.emod_emod_of_dvd
  have e1:=Int.mul_ediv_add_emod n m
  have e2:=Int.mul_ediv_add_emod (n/m) 256
  have e3:=Int.mul_ediv_add_emod n (m*256)
  have e4:n/m/256=n/(m*256):=Int.ediv_ediv_of_nonneg (Int.natCast_nonneg _)
  rw [e4] at e2
  have e5:(m:Int)*(256*(n/(m*256))+(n/m)%256)=m*(n/m):=by rw [e2]
  rw [Int.mul_add,←Int.mul_assoc] at e5
  have e6:((256:Nat):Int)=256:=rfl
  rw [e6]
  omega
end Go.Sf
end
section
set_option maxHeartbeats 4000000
namespace Go.Abs
variable [Globs]
theorem z8B {P:Program} {K:AV→zac→Prop} {t:Tg K} {σ:zac} {g:FuncId} {args args':List AV} {R:AV→Prop} {id e size:Nat} {els:List (List AV)} (he:σ[id]? =some (.row e size els false)) (hp:∀c∈els,∀x∈c,x.pure=true) (hn:∀c∈els,∀x∈c,x≠ .nils)
  (hc:PCalls P g args' R) (ha:CoeL (σ.set id (.row e size els true)) false args args') (hK:∀r,R r→K r (σ.set id (.row e size els true))):ac P K t σ g args:=
 .inr (.inr fun base κ Im w vs hs hv=>by
  obtain ⟨Im1,hs1,hg1⟩:=zzf hs ⟨id,e,size,els,els,he,zmh hp hn,rfl⟩
  refine (zrq hs1 (hv.grow hg1) (.inl ⟨args',R,ha,hc,hK⟩)).mono ?_
  rintro e w' ⟨r,σ2,v,κ',Im',rfl,hK,hs2,hg2,hvr⟩
  exact ⟨r,σ2,v,κ',Im',rfl,hK,hs2,hg1.trans hg2,hvr⟩)
end Go.Abs
namespace Go.Proofs.YtdbhocoeolhjhaaGreatDoor
open Go.Abs Go.RowKit Go.Sf
variable {G:Globs}
attribute [-simp] zbn zcK zca za4
theorem zzU (a:Int):zbn .shr (.int .u32 a) (.int .u64 1)=some (.int .u32 (a.fdiv 2)):=rfl
theorem z3Q (a:Int):zbn .shr (.int .u32 a) (.int .u64 16)=some (.int .u32 (a.fdiv 65536)):=rfl
theorem z4B (a:Int):zbn .shr (.int .u32 a) (.int .u64 24)=some (.int .u32 (a.fdiv 16777216)):=rfl
theorem zzE (b:Txt) (hl:b.length≤1000000000):PCalls Tryz.prog zmS [.lst (byteEls b)] (fun r=>r=.int .u32 (crcU 0 b)):=by
 refine zaa hmix zmG rfl ?_
 have hbl:=zab b
 simp [zgV]
 refine zah (fun x f σ=>∃i:Nat,x=b.length-i∧i≤b.length∧f 0=.lst (byteEls b)∧f 3=.int .u32 ((b.take i).foldl crcB 4294967295)∧f 4=.int .i64 i∧σ= []) b.length ?_ ?_
 ·exact ⟨0,by simp,by simp,by simp,by simp,by simp,by simp⟩
 rintro x f σ ⟨i,rfl,hi,f0,f3,f4,rfl⟩
 simp [f0,f4,hbl]
 refine zax (fun hlt=> ?_) (fun hge=> ?_)
 ·have hlt':i<b.length:=by omega
  have hwi:IntKind.i64.wrap ((i:Int)+1)=((i+1:Nat):Int):=by rw [wrap_i64 (by omega) (by omega)];omega
  obtain ⟨y,hy⟩:∃y,b[i]? =some y:=⟨_,yad hlt'⟩
  have hc:=zbz hy
  obtain ⟨hx1,hx2⟩:=yaa.1 hc
  have hsn:b.take (i+1)=b.take i++ [y]:=by rw [yax,hy];rfl
  simp [f0,f3,f4,hc,hx2,zaP,zqR]
  obtain ⟨s1,hs1⟩:∃s1,s1=(b.take i).foldl crcB 4294967295:=⟨_,rfl⟩
  have hU:U32 s1:=by rw [hs1];exact z4G ⟨by decide,by decide⟩
  rw [←hs1]
  have hB:(b.take (i+1)).foldl crcB 4294967295=zuz (x32 s1 (IntKind.u32.wrap y.toNat)) 8:=by rw [hsn,List.foldl_append,←hs1];exact (ztT hU y).1
  obtain ⟨z,hz⟩:∃z,z=x32 s1 (IntKind.u32.wrap y.toNat):=⟨_,rfl⟩
  rw [←hz] at hB⊢
  refine zah (fun x f σ=>∃k:Nat,x=8-k∧k≤8∧f 0=.lst (byteEls b)∧f 3=.int .u32 (zuz z k)∧f 4=.int .i64 i∧f 5=.int .i64 k∧σ= []) 8 ?_ ?_
  ·exact ⟨0,by simp,by simp,by simp [f0],by simp [zuz],by simp [f4],by simp,by simp⟩
  clear f0 f3 f4
  rintro x f σ ⟨k,rfl,hk,f0,f3,f4,f5,rfl⟩
  simp [f5]
  refine zax (fun hk8=> ?_) (fun hk8=> ?_)
  ·have hk8':k<8:=by omega
   have hwk:IntKind.i64.wrap ((k:Int)+1)=((k+1:Nat):Int):=by rw [wrap_i64 (by omega) (by omega)];omega
   by_cases hb:a32 (zuz z k) 1=1
   ·simp [f3,f5,zxd,zzU,zqR,hb,hwk]
    exact zae (8-(k+1)) (by omega) ⟨k+1,rfl,by omega,by simp [f0],by simp [zuz,bitN,hb],by simp [f4],by simp,rfl⟩
   ·simp [f3,f5,zxd,zzU,zqR,hb,hwk]
    exact zae (8-(k+1)) (by omega) ⟨k+1,rfl,by omega,by simp [f0],by simp [zuz,bitN,hb],by simp [f4],by simp,rfl⟩
  ·have hk8':k=8:=by omega
   subst hk8'
   simp [f4,hwi]
   exact zae (b.length-(i+1)) (by omega) ⟨i+1,rfl,by omega,by simp [f0],by simp [f3,hB],by simp,rfl⟩
 ·have hil:i=b.length:=by omega
  subst hil
  rw [ya1] at f3
  simp [f3,z0q]
  rfl
theorem zqz (b:Txt) (hl:b.length≤1000000000) (σ:zac):ACalls Tryz.prog zlu [.lst (byteEls b)] σ (fun r σ'=>r=.row σ.length b.length∧σ'=σ++ [.row 5 1 (byteEls b) false]):=by
 refine zag hmix zkR rfl ?_
 have hbl:=zab b
 simp [zgs]
 refine zaK [] (byteEls b) false (by simp) rfl (by decide) (zao b).1 (fun h=>by cases h) rfl (by omega) (by omega) ?_
 simp [hbl]
 exact zmq (ext:= [.row 5 1 (byteEls b) false]) (.row σ.length b.length) (by simp [zaE]) (by simp [AV.under]) (fun e he=>by
  simp only [ybb,ydq,or_false] at he
  subst he
  exact za7 (zao _).2.1) ⟨rfl,rfl⟩
theorem z1a (b:Txt) (hl:b.length≤100000000):PCalls Tryz.prog zmc [.lst (byteEls b)] (fun r=>r=.lst (byteEls (putB b))):=by
 refine zaa hmix zlZ rfl ?_
 have hbl:=zab b
 simp [zgI]
 refine zad (zzE b (by omega)) (by simp [AV.pure]) ?_
 rintro r rfl
 simp
 refine zar (zqz b (by omega) _) ?_
 rintro r σ' ⟨rfl,rfl⟩
 have e2:(crcU 0 b).fdiv 65536=shrI (crcU 0 b) 2:=by rw [zoA,yb6 _ (by decide)];rfl
 have e3:(crcU 0 b).fdiv 16777216=shrI (crcU 0 b) 3:=by rw [zoA,yb6 _ (by decide)];rfl
 have hE:byteEls b++ [[AV.int .u8 (IntKind.u8.wrap (crcU 0 b))],[.int .u8 (IntKind.u8.wrap ((crcU 0 b).fdiv 256))],[.int .u8 (IntKind.u8.wrap ((crcU 0 b).fdiv 65536))],[.int .u8 (IntKind.u8.wrap ((crcU 0 b).fdiv 16777216))]]=byteEls (putB b):=by
  rw [e2,e3]
  unfold putB
  rw [zaS,zaS,zaS,zaS]
  simp [leB,shrI]
 simp [zv7,z3Q,z4B]
 refine zaK (byteEls b) [[.int .u8 (IntKind.u8.wrap (crcU 0 b))],[.int .u8 (IntKind.u8.wrap ((crcU 0 b).fdiv 256))],[.int .u8 (IntKind.u8.wrap ((crcU 0 b).fdiv 65536))],[.int .u8 (IntKind.u8.wrap ((crcU 0 b).fdiv 16777216))]] false (by simp) rfl (by decide) (fun c hc=>by simp at hc;rcases hc with rfl|rfl|rfl|rfl<;>rfl) (fun h=>by cases h) (by rw [hbl]) (by simp;omega) (by simp;omega) ?_
 rw [hE]
 have hpl:(byteEls (putB b)).length=b.length+4:=by rw [zab,zon]
 have hfz:((byteEls (putB b)).mapM fun (c:List AV)=>c.mapM (fz [.row 5 1 (byteEls (putB b)) false] 0 2))=some (byteEls (putB b)):=zdg (zao _).2.1 (fun c hc=>by obtain ⟨n,_,rfl⟩:=yav.1 hc;simp)
 simp [Abs.fin,Abs.finT,Abs.fin1,fz,hpl,hfz]
theorem zvN (a:Txt) (hl:a.length≤100000000):PCalls Tryz.prog zjG [.lst (byteEls (putB a))] (fun r=>r=.tup [.lst (byteEls a),.int .i64 0]):=by
 refine zaa hmix zjT rfl ?_
 have hbl:=zab a
 have hpl:(byteEls (putB a)).length=a.length+4:=by rw [zab,zon]
 have hw:IntKind.i64.wrap (((a.length+4:Nat):Int)-4)=a.length:=by rw [wrap_i64 (by omega) (by omega)];omega
 have hc:¬((a.length+4:Nat):Int)<4:=by omega
 have hc':¬a.length+4<4:=by omega
 have htk:(byteEls (putB a)).take a.length=byteEls a:=by
  unfold putB
  rw [zan,ycj hbl]
 have kS:=znh (G:=G) (putB a) (by rw [zon];omega)
 have hone:=(zao (putB a)).1
 have hnn:∀c∈byteEls a,∀x∈c,x≠ .nils:=fun c hc=>by obtain ⟨n,_,rfl⟩:=yav.1 hc;simp
 simp [zgc,hpl,hc,hc',hw, -Int.natCast_add]
 rw [if_pos hone,htk]
 simp
 refine zar (zqz a (by omega) _) ?_
 rintro r σ' ⟨rfl,rfl⟩
 simp
 refine z8B (id:=0) (e:=5) (size:=1) (els:=byteEls a) rfl (zao a).2.1 hnn (z1a a hl) (.cons (.row 0 _ 5 1 (byteEls a) true rfl hbl (.inl rfl)) .nil) ?_
 rintro r rfl
 simp
 refine zad kS (by simp [AV.pure]) ?_
 rintro r rfl
 simp [Abs.fin,Abs.finT,Abs.fin1,fz,hbl]
theorem zq5 (p rest:Txt) (h1:1≤p.length) (h2:p.length≤512) (hr:rest.length≤100000000):PCalls Tryz.prog zgz [.lst (byteEls (zaL p++rest))] (fun r=>r=.tup [.lst (byteEls p),.int .i64 (p.length+6:Nat),.int .i64 0]):=by
 refine zaa hmix zg4 rfl ?_
 obtain ⟨B,hB⟩:∃B,B=zaL p++rest:=⟨_,rfl⟩
 have hBl:B.length=p.length+6+rest.length:=by rw [hB,yag,zbq]
 have hbl:(byteEls B).length=p.length+6+rest.length:=by rw [zab,hBl]
 rw [←hB]
 have g0:B[0]? =some (lo8 p.length):=by rw [hB];rfl
 have g1:B[1]? =some (lo8 ((p.length:Int).fdiv 256)):=by rw [hB];rfl
 have c0:=zbz g0
 have c1:=zbz g1
 obtain ⟨x0,y0⟩:=yaa.1 c0
 obtain ⟨x1,y1⟩:=yaa.1 c1
 have n0:=zrV p.length
 have n1:=zrV ((p.length:Int).fdiv 256)
 rw [yb6 _ (by decide)] at n1 c1 y1
 obtain ⟨a,ha⟩:∃a,a=(lo8 p.length).toNat:=⟨_,rfl⟩
 obtain ⟨b,hb⟩:∃b,b=(lo8 ((p.length:Int)/256)).toNat:=⟨_,rfl⟩
 rw [←ha] at n0 c0 y0
 rw [←hb] at n1 c1 y1
 have w0:IntKind.i64.wrap (a:Int)=a:=wrap_i64 (by omega) (by omega)
 have w1:IntKind.i64.wrap (b:Int)=b:=wrap_i64 (by omega) (by omega)
 have w2:IntKind.i64.wrap (256*(b:Int))=256*(b:Int):=wrap_i64 (by omega) (by omega)
 have w3:IntKind.i64.wrap ((a:Int)+256*(b:Int))=p.length:=by rw [wrap_i64 (by omega) (by omega)];omega
 have w4:IntKind.i64.wrap ((p.length:Int)+6)=((p.length+6:Nat):Int):=by rw [wrap_i64 (by omega) (by omega)];omega
 have d1:¬((p.length+6+rest.length:Nat):Int)<2:=by omega
 have d2:¬(p.length:Int)<1:=by omega
 have d3:¬(512:Int)<p.length:=by omega
 have d4:¬((p.length+6+rest.length:Nat):Int)<((p.length+6:Nat):Int):=by omega
 have hone:=(zao B).1
 have htk:(byteEls B).take (p.length+6)=byteEls (zaL p):=by
  rw [hB,zan,ycj (by rw [zab,zbq])]
 obtain ⟨q,hq⟩:∃q,q= [lo8 p.length,lo8 ((p.length:Int).fdiv 256)]++p:=⟨_,rfl⟩
 have hqp:zaL p=putB q:=by rw [hq];rfl
 have hql:q.length=p.length+2:=by rw [hq];simp
 have kC:=zvN (G:=G) q (by omega)
 have hqd:(byteEls q).drop 2=byteEls p:=by rw [hq];rfl
 have hqo:=(zao q).1
 have hbq:=zab q
 simp [zem,hbl,c0,c1,y0,y1,w0,w1,w2,w3,w4,d1,d2,d3,d4,zaP, -Int.natCast_add]
 rw [if_pos hone,htk,hqp]
 simp
 refine zad kC (by simp [AV.pure]) ?_
 rintro r rfl
 simp [hbq,hql,w4]
 have htq:(byteEls q).take (p.length+2)=byteEls q:=yao (by rw [hbq,hql];exact yaq _)
 have w4':IntKind.i64.wrap ((p.length:Int)+6)=(p.length:Int)+6:=wrap_i64 (by omega) (by omega)
 rw [if_pos hqo,htq,hqd]
 simp [w4']
end Go.Proofs.YtdbhocoeolhjhaaGreatDoor
end
section
set_option maxHeartbeats 4000000
namespace Go.Sf
open Go.Abs
theorem z00:∀{a b:Txt},a.length=b.length→leN a=leN b→a=b
 | [],[],_,_=>rfl
 |x::a,y::b,hl,h=>by
  have h1:=x.toNat_lt
  have h2:=y.toNat_lt
  simp only [leN] at h
  have hxy:x.toNat=y.toNat:=by omega
  have hab:leN a=leN b:=by omega
  rw [z00 (by simpa using hl) hab,UInt8.toNat_inj.1 hxy]
theorem z6b (n:Int) (k:Nat):leB (n%((256^k:Nat):Int)) k=leB n k:=by
 apply z00 (by rw [zaj,zaj])
 have h1:=zor (n%((256^k:Nat):Int)) k
 have h2:=zor n k
 rw [Int.emod_emod] at h1
 omega
def or64 (a b:Int):Int:=IntKind.u64.wrap (BitVec.ofInt IntKind.u64.bits a|||BitVec.ofInt IntKind.u64.bits b).toNat
theorem zdU {n:Nat} (h:n<18446744073709551616):IntKind.u64.wrap (n:Int)=n:=by
 simp [IntKind.wrap,IntKind.signed,IntKind.bits];omega
theorem zyH (v:Int):IntKind.u64.wrap v=v%18446744073709551616:=by
 simp [IntKind.wrap,IntKind.signed,IntKind.bits]
def V64 (s:Int):BitVec 64:=BitVec.ofInt 64 s
theorem z30 (x:BitVec 64):IntKind.u64.wrap (x.toNat:Int)=x.toNat:=zdU x.isLt
theorem z0M (n:Nat):V64 (n:Int)=BitVec.ofNat 64 n:=by unfold V64;rw [BitVec.ofInt_natCast]
theorem z2N {n b:Nat} (hn:n*256<18446744073709551616) (hb:b<256):or64 ((n*256:Nat):Int) (b:Int)=((n*256+b:Nat):Int):=by
 have e:or64 ((n*256:Nat):Int) (b:Int)=((V64 ((n*256:Nat):Int)|||V64 (b:Int)).toNat:Int):=z30 (V64 ((n*256:Nat):Int)|||V64 (b:Int))
 rw [e,z0M,z0M,BitVec.toNat_or,BitVec.toNat_ofNat,BitVec.toNat_ofNat,ybr (by omega),ybr (by omega)]
 have:=Nat.shiftLeft_add_eq_or_of_lt (i:=8) (b:=b) (by omega) n
 rw [Nat.shiftLeft_eq] at this
 have h2:(2:Nat)^8=256:=rfl
 rw [h2] at this
 rw [←this]
end Go.Sf
namespace Go.Proofs.YtdbhocoeolhjhaaGreatDoor
open Go.Abs Go.RowKit Go.Sf
variable {G:Globs}
attribute [-simp] zbn zcK zca za4
theorem z2w (a:Int):zbn .shr (.int .u64 a) (.int .u64 8)=some (.int .u64 (a.fdiv 256)):=rfl
theorem z4i (a:Int):zbn .shl (.int .u64 a) (.int .u64 8)=some (.int .u64 (IntKind.u64.wrap (a*256))):=rfl
theorem z5A (a b:Int):zbn .or (.int .u64 a) (.int .u64 b)=some (.int .u64 (or64 a b)):=rfl
theorem zat (n:Int) (w:Nat) (hw:w≤8):PCalls Tryz.prog zjk [.int .u64 n,.int .i64 w] (fun r=>r=.lst (byteEls (leB n w))):=by
 refine zaa hmix zjm rfl ?_
 simp [zfm]
 refine zah (fun x f σ=>∃i:Nat,x=w-i∧i≤w∧f 0=.int .u64 (shrI n i)∧f 1=.int .i64 w∧f 6=.int .i64 i∧AccT 5 1 0 σ (f 5) (byteEls (leB n i))) w ?_ ?_
 ·exact ⟨0,by simp,by simp,by simp [shrI],by simp,by simp,by simp [leB,byteEls];exact zgt⟩
 rintro x f σ ⟨i,rfl,hi,f0,f1,f6,hacc⟩
 simp [f1,f6]
 refine zax (fun hlt=> ?_) (fun hge=> ?_)
 ·have hlt':i<w:=by omega
  have hwi:IntKind.i64.wrap ((i:Int)+1)=((i+1:Nat):Int):=by rw [wrap_i64 (by omega) (by omega)];omega
  have hbl:=zab (leB n i)
  have hle:=zaj n i
  simp [f0,f6]
  refine z6m (bytes:=1) hacc [.int .u8 (IntKind.u8.wrap (shrI n i))] (by decide) rfl (by omega) (by omega) fun v' τ' hA1 hA2 hA3=> ?_
  simp [f0,f6,z2w,hwi]
  refine zae (w-(i+1)) (by omega) ⟨i+1,rfl,by omega,by simp [shrI],by simp [f1],by simp, ?_⟩
  have:=zaS [] n i
  simp only [yci] at this
  rw [this]
  simpa using hA1
 ·have hiw:i=w:=by omega
  subst hiw
  simp [hacc.finR0]
theorem z7B {p:Txt} {k j:Nat} {y:UInt8} (h:p[k]? =some y):leN ((p.drop k).take (j+1))=y.toNat+256*leN ((p.drop (k+1)).take j):=by
 obtain ⟨hk,he⟩:=yaa.1 h
 rw [ybw hk,he,List.take_succ_cons]
 rfl
theorem zcq (p:Txt) (at' w:Nat) (h:at'+w≤p.length) (hw:w≤8) (hw1:1≤w) (hl:p.length≤1000000000):PCalls Tryz.prog zlD [.lst (byteEls p),.int .i64 at',.int .i64 w] (fun r=>r=.tup [.int .u64 (leN ((p.drop at').take w)),.bool true]):=by
 refine zaa hmix zl5 rfl ?_
 have hbl:=zab p
 have hw2:IntKind.i64.wrap ((p.length:Int)-w)=((p.length-w:Nat):Int):=by rw [wrap_i64 (by omega) (by omega)];omega
 have hw3:IntKind.i64.wrap ((w:Int)-1)=(w:Int)-1:=by rw [wrap_i64 (by omega) (by omega)]
 have hc1:¬(at':Int)<0:=by omega
 have hc2:¬((p.length-w:Nat):Int)<at':=by omega
 have hc2':¬p.length-w<at':=by omega
 simp [zgy,hbl,hw2,hw3,hc1,hc2,hc2']
 refine zah (fun x f σ=>∃j:Nat,x=w-j∧j≤w∧f 0=.lst (byteEls p)∧f 1=.int .i64 at'∧f 8=.int .u64 (leN ((p.drop (at'+(w-j))).take j))∧f 9=.int .i64 ((w:Int)-1-j)∧σ= []) w ?_ ?_
 ·exact ⟨0,by simp,by simp,by simp,by simp,by simp [leN],by simp,by simp⟩
 rintro x f σ ⟨j,rfl,hj,f0,f1,f8,f9,rfl⟩
 by_cases hjw:j<w
 ·obtain ⟨m,hm⟩:∃m,w=j+1+m:=⟨w-j-1,by omega⟩
  have f9':f 9=.int .i64 (m:Nat):=by rw [f9];congr 1;omega
  have e1:at'+(w-j)=at'+m+1:=by omega
  rw [e1] at f8
  have hwm:IntKind.i64.wrap ((at':Int)+m)=((at'+m:Nat):Int):=by rw [wrap_i64 (by omega) (by omega)];omega
  have hwd:IntKind.i64.wrap ((m:Int)-1)=(m:Int)-1:=by rw [wrap_i64 (by omega) (by omega)]
  obtain ⟨y,hy⟩:∃y,p[at'+m]? =some y:=⟨_,yad (by omega)⟩
  have hc:=zbz hy
  obtain ⟨hx1,hx2⟩:=yaa.1 hc
  obtain ⟨n,hn⟩:∃n,n=leN ((p.drop (at'+m+1)).take j):=⟨_,rfl⟩
  have hnl:n<256^j:=by
   rw [hn]
   refine yb9 (z8c _) (yed (by decide) ?_)
   simp;omega
  have hp:256^j≤256^7:=yed (by decide) (by omega)
  have hn64:n*256<18446744073709551616:=by
   have:(256:Nat)^7=72057594037927936:=rfl
   omega
  have hyl:=y.toNat_lt
  have hw1:IntKind.u64.wrap ((n:Int)*256)=((n*256:Nat):Int):=by
   have:=zdU hn64
   rwa [yc7] at this
  have hwy:IntKind.u64.wrap (y.toNat:Int)=y.toNat:=zdU (by omega)
  have hor:=z2N hn64 hyl
  have hge:(0:Int)≤m:=by omega
  rw [←hn] at f8
  simp [f0,f1,f8,f9',hge,z4i,z5A,hw1,hwm,hc,hx2,zaP,hwy,hor,hwd, -Int.natCast_add, -Int.natCast_mul]
  refine zae (w-(j+1)) (by omega) ⟨j+1,rfl,by omega,by simp [f0],by simp [f1], ?_, ?_,rfl⟩
  ·have e2:at'+(w-(j+1))=at'+m:=by omega
   rw [e2,z7B hy,←hn]
   simp;omega
  ·simp;omega
 ·have hjw':j=w:=by omega
  subst hjw'
  have f9':f 9=.int .i64 (-1):=by rw [f9];congr 1;omega
  rw [ycx,ycb] at f8
  simp [f8,f9']
end Go.Proofs.YtdbhocoeolhjhaaGreatDoor
end
section
set_option maxHeartbeats 8000000
namespace Go.Abs
def zxI (J:Frame→zac→Prop) (_:Tg J):AExit→Frame→zac→Prop
 | .normal,f,σ=>jn J (.mk J) f (.mk f) σ
 |_,_,_=>False
@[simp] theorem z4K {J:Frame→zac→Prop} {t:Tg J} {f:Frame} {σ:zac}:zxI J t .normal f σ=jn J (.mk J) f (.mk f) σ:=rfl
variable [Globs]
theorem z1s {P:Program} {K:AV→zac→Prop} {σ:zac} {g:FuncId} {args args':List AV} {R:AV→Prop} {t:Tg K} (hc:PCalls P g args' R) (ha:CoeL σ false args args') (hK:∀r,R r→K r σ):ac P K t σ g args:=.inl ⟨args',R,ha,hc,hK⟩
theorem zjW {P:Program} {ls:List (List AIns)} {Q:AExit→Frame→zac→Prop} {f:Frame} {σ:zac} (J:Frame→zac→Prop) (hJ:∀f σ,J f σ→Q .normal f σ) (h:awp P (.all ls) (zxI J (.mk _)) f σ):awp P (.all ls) Q f σ:=by
 refine zcY (c:=.all ls) (fun e f σ h0=> ?_) h
 cases e with
 |normal=>exact hJ _ _ h0
 |exit _=>exact h0.elim
 |ret=>exact h0.elim
end Go.Abs
namespace Go.Proofs.YtdbhocoeolhjhaaGreatDoor
open Go.Abs Go.RowKit Go.Sf
variable {G:Globs}
attribute [-simp] zbn zcK zca za4
theorem zmk (t:Nat) (h:t≤1099511627776):PCalls Tryz.prog zkU [.int .i64 t] (fun r=>r=.bool true):=by
 refine zaa hmix zkY rfl ?_
 have h1:(0:Int)≤t:=by omega
 have h2:(t:Int)≤1099511627776:=by omega
 simp [zg6,h1,h2,h]
theorem zwe:PCalls Tryz.prog zkz [.lst rungsC] (fun r=>r=.bool true):=by
 refine zaa hmix zk0 rfl ?_
 simp [zfS]
 refine zah (fun x f σ=>∃i:Nat,x=2-i∧i≤2∧f 0=.lst rungsC∧f 3=.int .i64 i∧σ= []) 2 ?_ ?_
 ·exact ⟨0,by simp,by simp,by simp,by simp,by simp⟩
 rintro x f σ ⟨i,rfl,hi,f0,f3,rfl⟩
 have hi3:i=0∨i=1∨i=2:=by omega
 rcases hi3 with rfl|rfl|rfl
 ·simp [f0,f3,rungsC,wk1]
  exact zae 1 (by omega) ⟨1,rfl,by omega,by simp [f0,rungsC],by simp,rfl⟩
 ·simp [f0,f3,rungsC,wk2]
  exact zae 0 (by omega) ⟨2,rfl,by omega,by simp [f0,rungsC],by simp,rfl⟩
 ·simp [f0,f3,rungsC]
theorem zkA:PCalls Tryz.prog zdZ [.lst [],.lst []] (fun r=>r=.bool true):=by
 refine zaa hmix zdJ rfl ?_
 simp [zc0]
 refine zah (fun x f σ=>f 0=.lst []∧f 5=.int .i64 0∧σ= []) 0 ?_ ?_
 ·exact ⟨by simp,by simp,by simp⟩
 rintro x f σ ⟨f0,f5,rfl⟩
 simp [f0,f5]
theorem zlw {σ:zac} {X:AV} (h:zii X) (lend:Bool):Coe σ lend X (.lst []):=by
 rcases h with rfl|rfl
 ·exact .nils
 ·exact .pure _ (by simp [AV.pure])
theorem zwt (p:Txt):PCalls Tryz.prog zek [.agg (zaM p),.agg (zaM p)] (fun r=>r=.bool true):=by
 refine zaa hmix zdN rfl ?_
 simp [zcF,zaM]
 refine zad znB (by simp [AV.pure,rungsC]) ?_
 rintro r rfl
 simp
theorem zv0 (X Y:AV) (hX:zii X) (hY:zii Y) (t now:Nat) (v:Int):PCalls Tryz.prog zek [.agg (zbf X t now v),.agg (zbf Y t now v)] (fun r=>r=.bool true):=by
 refine zaa hmix zdN rfl ?_
 have cX:=fun σ=>zlw (σ:=σ) hX false
 have cY:=fun σ=>zlw (σ:=σ) hY false
 rcases hX with rfl|rfl<;>rcases hY with rfl|rfl
 all_goals
  simp [zcF,zbf]
  refine z1s zkA (.cons (cX _) (.cons (cY _) .nil)) ?_
  rintro r rfl
  simp
theorem zwy (X Y:AV) (hX:zii X) (hY:zii Y) (i t:Nat) (v:Int):PCalls Tryz.prog zek [.agg (zcy X i t v),.agg (zcy Y i t v)] (fun r=>r=.bool true):=by
 refine zaa hmix zdN rfl ?_
 have cX:=fun σ=>zlw (σ:=σ) hX false
 have cY:=fun σ=>zlw (σ:=σ) hY false
 rcases hX with rfl|rfl<;>rcases hY with rfl|rfl
 all_goals
  simp [zcF,zcy]
  refine z1s zkA (.cons (cX _) (.cons (cY _) .nil)) ?_
  rintro r rfl
  simp
theorem zt1 (p:Txt) (h0:p≠ []) (hl:p.length≤100):PCalls Tryz.prog zd6 [.agg (zaM p)] (fun r=>r=.bool true):=by
 refine zaa hmix zd3 rfl ?_
 have kS:=zwt (G:=G) p
 have kR:=zwe (G:=G)
 have h1:(1:Int)≤p.length:=by have:p.length≠0:=fun h=>h0 (ydh.1 h);omega
 have h1':1≤p.length:=by omega
 have h2:(p.length:Int)≤263:=by omega
 have h2':p.length≤263:=by omega
 simp only [zaM] at kS
 simp [zc3,zaM, -zbG, -zbY]
 refine zjW (fun f σ=>f 1=.ptr 0 0∧f 3=.ptr 1 0∧σ= [.var 74 (zaM p),.var 74 (zaM p)]) ?_ ?_
 ·rintro f σ ⟨f1,f3,rfl⟩
  simp [f1,f3,zaM]
  refine zad kS (by simp [AV.pure,rungsC]) ?_
  rintro r rfl
  simp [f1,f3,zaM,h1,h1',h2,h2',h0]
  refine zad kR (by simp [AV.pure,rungsC]) ?_
  rintro r rfl
  simp
 ·simp [zaM]
  repeat' (first|(refine zc5 ?_;exact ⟨by simp,by simp,rfl⟩)|refine ⟨?_, ?_⟩)
theorem zsZ (X:AV) (hX:zii X) (t now:Nat) (v:Int) (ht:t≤1099511627776) (hn:now≤1099511627776) (hv:v≠ -9223372036854775808):PCalls Tryz.prog zd6 [.agg (zbf X t now v)] (fun r=>r=.bool true):=by
 refine zaa hmix zd3 rfl ?_
 have kS:=zv0 (G:=G) .nils X (.inl rfl) hX t now v
 simp only [zbf] at kS
 rcases hX with hX|hX
 all_goals
  rw [hX] at kS
  simp [zc3,zbf,hX, -zbG, -zbY]
  refine zjW (fun f σ=>f 1=.ptr 0 0∧f 3=.ptr 1 0∧σ= [.var 74 (zbf X t now v),.var 74 (zbf .nils t now v)]) ?_ ?_
  ·rintro f σ ⟨f1,f3,rfl⟩
   simp [f1,f3,hX,zbf]
   refine zad kS (by simp [AV.pure]) ?_
   rintro r rfl
   simp [f1,f3,hX,zbf]
   refine zad (zmk t ht) (by simp) ?_
   rintro r rfl
   simp [f1,f3,hX,zbf]
   refine zad (zmk now hn) (by simp) ?_
   rintro r rfl
   simp [f1,f3,hX,zbf,hv]
  ·simp [zbf,hX]
   repeat' (first|(refine zc5 ?_;exact ⟨by simp,by simp,by simp [hX]⟩)|refine ⟨?_, ?_⟩)
theorem zsR (X:AV) (hX:zii X) (i t:Nat) (v:Int) (hi:i<4) (ht:t≤1099511627776) (hv:v≠ -9223372036854775808):PCalls Tryz.prog zd6 [.agg (zcy X i t v)] (fun r=>r=.bool true):=by
 refine zaa hmix zd3 rfl ?_
 have kS:=zwy (G:=G) .nils X (.inl rfl) hX i t v
 have h2:(i:Int)≤3:=by omega
 have h2':i≤3:=by omega
 simp only [zcy] at kS
 rcases hX with hX|hX
 all_goals
  rw [hX] at kS
  simp [zc3,zcy,hX, -zbG, -zbY]
  refine zjW (fun f σ=>f 1=.ptr 0 0∧f 3=.ptr 1 0∧σ= [.var 74 (zcy X i t v),.var 74 (zcy .nils i t v)]) ?_ ?_
  ·rintro f σ ⟨f1,f3,rfl⟩
   simp [f1,f3,hX,zcy]
   refine zad kS (by simp [AV.pure]) ?_
   rintro r rfl
   simp [f1,f3,hX,zcy,h2,h2']
   refine zad (zmk t ht) (by simp) ?_
   rintro r rfl
   simp [f1,f3,hX,zcy,hv]
  ·simp [zcy,hX]
   repeat' (first|(refine zc5 ?_;exact ⟨by simp,by simp,by simp [hX]⟩)|refine ⟨?_, ?_⟩)
theorem z0Q (v:Int):leB (IntKind.u64.wrap v) 8=leB v 8:=by
 rw [zyH]
 exact z6b v 8
theorem zxM (X:AV) (hX:zii X) (t now:Nat) (v:Int) (ht:t≤1099511627776) (hn:now≤1099511627776) (hv:v≠ -9223372036854775808):PCalls Tryz.prog ze5 [.agg (zbf X t now v)] (fun r=>r=.tup [.lst (byteEls (zbC t now v)),.int .i64 0]):=by
 refine zaa hmix zeH rfl ?_
 have kR:=zsZ (G:=G) X hX t now v ht hn hv
 have k1:=zat (G:=G) (IntKind.u64.wrap (t:Int)) 8 (by decide)
 have k2:=zat (G:=G) (IntKind.u64.wrap (now:Int)) 8 (by decide)
 have k3:=zat (G:=G) (IntKind.u64.wrap v) 8 (by decide)
 rw [z0Q] at k1 k2 k3
 simp only [zbf] at kR
 obtain ⟨b0,hb0⟩:∃b,b= [lo8 2]:=⟨_,rfl⟩
 obtain ⟨b1,hb1⟩:∃b,b=b0++leB t 8:=⟨_,rfl⟩
 obtain ⟨b2,hb2⟩:∃b,b=b1++leB now 8:=⟨_,rfl⟩
 have hb3:zbC t now v=b2++leB v 8:=by rw [hb2,hb1,hb0];rfl
 have l1:=zaj t 8
 have l2:=zaj now 8
 have l3:=zaj v 8
 have L0:(byteEls b0).length=1:=by rw [zab,hb0];rfl
 have L1:(byteEls b1).length=9:=by rw [zab,hb1,yag,hb0,l1];rfl
 have L2:(byteEls b2).length=17:=by rw [zab,hb2,yag,l2];rw [zab] at L1;omega
 have L3:(byteEls (zbC t now v)).length=25:=by rw [zab,zfy]
 have m1:(byteEls (leB t 8)).length=8:=by rw [zab,l1]
 have m2:(byteEls (leB now 8)).length=8:=by rw [zab,l2]
 have m3:(byteEls (leB v 8)).length=8:=by rw [zab,l3]
 have A1:byteEls b0++byteEls (leB t 8)=byteEls b1:=by rw [hb1,zan]
 have A2:byteEls b1++byteEls (leB now 8)=byteEls b2:=by rw [hb2,zan]
 have A3:byteEls b2++byteEls (leB v 8)=byteEls (zbC t now v):=by rw [hb3,zan]
 have hE0: [[AV.int .u8 (IntKind.u8.wrap 2)]]=byteEls b0:=by rw [hb0];rfl
 have hfz:∀σ m k,((byteEls (zbC t now v)).mapM fun (c:List AV)=>c.mapM (fz σ m k))=some (byteEls (zbC t now v)):=fun σ m k=>zdg (zao _).2.1 (fun c hc=>by obtain ⟨n,_,rfl⟩:=yav.1 hc;simp)
 rcases hX with rfl|rfl
 all_goals
  simp [a_isobarref08_Put,zbf]
  refine zad kR (by simp [AV.pure]) ?_
  rintro r rfl
  simp
  refine ⟨?_, ?_, ?_, ?_, ?_, ?_⟩
  all_goals
   simp only [hE0]
   repeat first
    |(refine zaZ k1 (by simp) ?_;simp)
    |(refine zaZ k2 (by simp) ?_;simp)
    |(refine zaZ k3 (by simp) ?_;simp)
    |(refine zaK (byteEls b0) (byteEls (leB t 8)) false (by simp) rfl (by decide) (zao _).1 (fun h=>by cases h) (by omega) (by omega) (by omega) ?_;simp [A1,m1])
    |(refine zaK (byteEls b1) (byteEls (leB now 8)) false (by simp) rfl (by decide) (zao _).1 (fun h=>by cases h) (by omega) (by omega) (by omega) ?_;simp [A2,m2])
    |(refine zaK (byteEls b2) (byteEls (leB v 8)) false (by simp) rfl (by decide) (zao _).1 (fun h=>by cases h) (by omega) (by omega) (by omega) ?_;simp [A3,m3,Abs.fin,Abs.finT,Abs.fin1,fz,L3,hfz])
   rw [if_pos (by omega)]
   simp
theorem zx9 (X:AV) (hX:zii X) (i t:Nat) (v:Int) (hi:i<4) (ht:t≤1099511627776) (hv:v≠ -9223372036854775808):PCalls Tryz.prog ze5 [.agg (zcy X i t v)] (fun r=>r=.tup [.lst (byteEls (zdG i t v)),.int .i64 0]):=by
 refine zaa hmix zeH rfl ?_
 have kR:=zsR (G:=G) X hX i t v hi ht hv
 have k2:=zat (G:=G) (IntKind.u64.wrap (t:Int)) 8 (by decide)
 have k3:=zat (G:=G) (IntKind.u64.wrap v) 8 (by decide)
 rw [z0Q] at k2 k3
 simp only [zcy] at kR
 obtain ⟨b0,hb0⟩:∃b,b= [lo8 3]:=⟨_,rfl⟩
 obtain ⟨b1,hb1⟩:∃b,b=b0++leB i 1:=⟨_,rfl⟩
 obtain ⟨b2,hb2⟩:∃b,b=b1++leB t 8:=⟨_,rfl⟩
 have hb3:zdG i t v=b2++leB v 8:=by rw [hb2,hb1,hb0];rfl
 have l1:=zaj i 1
 have l2:=zaj t 8
 have l3:=zaj v 8
 have L0:(byteEls b0).length=1:=by rw [zab,hb0];rfl
 have L1:(byteEls b1).length=2:=by rw [zab,hb1,yag,hb0,l1];rfl
 have L2:(byteEls b2).length=10:=by rw [zab,hb2,yag,l2];rw [zab] at L1;omega
 have L3:(byteEls (zdG i t v)).length=18:=by rw [zab,zhj]
 have m2:(byteEls (leB t 8)).length=8:=by rw [zab,l2]
 have m3:(byteEls (leB v 8)).length=8:=by rw [zab,l3]
 have A1:byteEls b0++ [[AV.int .u8 (IntKind.u8.wrap (i:Int))]]=byteEls b1:=by rw [hb1,zaS];simp [leB,shrI]
 have A2:byteEls b1++byteEls (leB t 8)=byteEls b2:=by rw [hb2,zan]
 have A3:byteEls b2++byteEls (leB v 8)=byteEls (zdG i t v):=by rw [hb3,zan]
 have hE0: [[AV.int .u8 (IntKind.u8.wrap 3)]]=byteEls b0:=by rw [hb0];rfl
 have hfz:∀σ m k,((byteEls (zdG i t v)).mapM fun (c:List AV)=>c.mapM (fz σ m k))=some (byteEls (zdG i t v)):=fun σ m k=>zdg (zao _).2.1 (fun c hc=>by obtain ⟨n,_,rfl⟩:=yav.1 hc;simp)
 rcases hX with rfl|rfl
 all_goals
  simp [a_isobarref08_Put,zcy]
  refine zad kR (by simp [AV.pure]) ?_
  rintro r rfl
  simp
  refine ⟨?_, ?_, ?_, ?_, ?_, ?_⟩
  all_goals
   simp only [hE0]
   repeat first
    |(refine zaZ k2 (by simp) ?_;simp)
    |(refine zaZ k3 (by simp) ?_;simp)
    |(refine zaK (byteEls b0) [[AV.int .u8 (IntKind.u8.wrap (i:Int))]] false (by simp) rfl (by decide) (fun c hc=>by simp at hc;subst hc;rfl) (fun h=>by cases h) (by omega) (by simp) (by simp) ?_;simp [A1])
    |(refine zaK (byteEls b1) (byteEls (leB t 8)) false (by simp) rfl (by decide) (zao _).1 (fun h=>by cases h) (by omega) (by omega) (by omega) ?_;simp [A2,m2])
    |(refine zaK (byteEls b2) (byteEls (leB v 8)) false (by simp) rfl (by decide) (zao _).1 (fun h=>by cases h) (by omega) (by omega) (by omega) ?_;simp [A3,m3,Abs.fin,Abs.finT,Abs.fin1,fz,L3,hfz])
   rw [if_pos (by omega)]
   simp
end Go.Proofs.YtdbhocoeolhjhaaGreatDoor
end
section
set_option maxHeartbeats 8000000
namespace Go.Proofs.YtdbhocoeolhjhaaGreatDoor
open Go.Abs Go.RowKit Go.Sf
variable {G:Globs}
attribute [-simp] zbn zcK zca za4
def zoB:ACode→List (List (List AIns))
 | .all l=> [l]
 | .seq a b=>zoB a++zoB b
 | .cond _ x y=>zoB x++zoB y
 | .block _ c=>zoB c
 | .loop c=>zoB c
 |_=> []
def znm (i:Nat):ACode:=.all ((zoB a_isobarref08_Put.code).getD i [])
def hb2 (p:Txt):Txt:= [lo8 1]++leB p.length 2
def hb5 (p:Txt):Txt:=hb2 p++p++leB 1 1++leB 500000 4++leB 2 1
def hb7 (p:Txt):Txt:=hb5 p++leB 10 4++leB 6 2
def z6L (p:Txt) (f:Abs.Frame) (σ:zac):Prop:=f 1=.ptr 0 0∧f 4=.row 1 (3+p.length)∧σ= [.var 74 (zaM p),.row 5 1 (byteEls (hb2 p++p)) false]
def z6p (p:Txt) (f:Abs.Frame) (σ:zac):Prop:=∃tl,f 1=.ptr 0 0∧f 4=.row 1 (9+p.length)∧σ=.var 74 (zaM p):: .row 5 1 (byteEls (hb5 p)) false::tl
def z6x (p:Txt) (i:Nat) (f:Abs.Frame) (σ:zac):Prop:=∃tl,f 1=.ptr 0 0∧f 5=.int .i64 i∧f 4=.row 1 (9+p.length+6*i)∧σ=.var 74 (zaM p):: .row 5 1 (byteEls (if i=0 then hb5 p else if i=1 then hb7 p else zba p)) false::tl
theorem z7W (p:Txt) (h0:p≠ []) (hl:p.length≤100) {f:Abs.Frame} (f1:f 1=.ptr 0 0) (f4:f 4=.row 1 1):awp Tryz.prog (znm 0) (zxI (z6L p) (.mk _)) f [.var 74 (zaM p),.row 5 1 (byteEls [lo8 1]) false]:=by
 have k1:=zat (G:=G) (IntKind.u64.wrap (p.length:Int)) 2 (by decide)
 have k2:=zat (G:=G) (IntKind.u64.wrap 500000) 4 (by decide)
 have k3:=zat (G:=G) (IntKind.u64.wrap 10) 4 (by decide)
 have k4:=zat (G:=G) (IntKind.u64.wrap 6) 2 (by decide)
 have k5:=zat (G:=G) (IntKind.u64.wrap 60) 4 (by decide)
 have k6:=zat (G:=G) (IntKind.u64.wrap 5) 2 (by decide)
 have w1:IntKind.u64.wrap (p.length:Int)=p.length:=zdU (by omega)
 have w2:IntKind.u64.wrap 500000=500000:=by decide
 have w3:IntKind.u64.wrap 10=10:=by decide
 have w4:IntKind.u64.wrap 6=6:=by decide
 have w5:IntKind.u64.wrap 60=60:=by decide
 have w6:IntKind.u64.wrap 5=5:=by decide
 rw [w1] at k1
 rw [w2] at k2
 rw [w3] at k3
 rw [w4] at k4
 rw [w5] at k5
 rw [w6] at k6
 obtain ⟨b2,hb2⟩:∃b,b=hb2 p:=⟨_,rfl⟩
 have hb2':b2= [lo8 1]++leB p.length 2:=hb2
 obtain ⟨b5,hb5⟩:∃b,b=hb5 p:=⟨_,rfl⟩
 have hb5':b5=b2++p++leB 1 1++leB 500000 4++leB 2 1:=by rw [hb5,hb2];rfl
 obtain ⟨b7,hb7⟩:∃b,b=hb7 p:=⟨_,rfl⟩
 have hb7':b7=b5++leB 10 4++leB 6 2:=by rw [hb7,hb5];rfl
 have hb9:zba p=b7++leB 60 4++leB 5 2:=by rw [hb7',hb5',hb2'];rfl
 obtain ⟨b0,hb0⟩:∃b,b= [lo8 1]:=⟨_,rfl⟩
 obtain ⟨b3,hb3⟩:∃b,b=b2++p++leB 1 1:=⟨_,rfl⟩
 obtain ⟨b4,hb4⟩:∃b,b=b3++leB 500000 4:=⟨_,rfl⟩
 have n0:(byteEls b0).length=1:=by rw [hb0];rfl
 have n2:(byteEls b2).length=3:=by rw [zab,hb2',yag,zaj];rfl
 have np:(byteEls (b2++p)).length=3+p.length:=by rw [zab,yag,←zab,n2]
 have np':(b2++p).length=3+p.length:=by rw [←zab,np]
 have n3:(byteEls b3).length=4+p.length:=by rw [zab,hb3,yag,zaj,np'];omega
 have n4:(byteEls b4).length=8+p.length:=by rw [zab,hb4,yag,zaj,←zab,n3];omega
 have n5:(byteEls b5).length=9+p.length:=by rw [zab,hb5',←hb3,←hb4,yag,zaj,←zab,n4];omega
 have n5':b5.length=9+p.length:=by rw [←zab,n5]
 have m1:(byteEls (leB p.length 2)).length=2:=by rw [zab,zaj]
 have m2:(byteEls (leB 500000 4)).length=4:=by rw [zab,zaj]
 have A1:byteEls b0++byteEls (leB p.length 2)=byteEls b2:=by rw [hb2',hb0,zan]
 have A2:byteEls b2++byteEls p=byteEls (b2++p):=by rw [zan]
 have A3:byteEls (b2++p)++ [[AV.int .u8 (IntKind.u8.wrap 1)]]=byteEls b3:=by rw [hb3,zaS];simp [leB,shrI]
 have A4:byteEls b3++byteEls (leB 500000 4)=byteEls b4:=by rw [hb4,zan]
 have A5:byteEls b4++ [[AV.int .u8 (IntKind.u8.wrap 2)]]=byteEls b5:=by rw [hb5',←hb3,←hb4,zaS];simp [leB,shrI]
 have hrl:rungsC.length=2:=rfl
 obtain ⟨b6,hb6⟩:∃b,b=b5++leB 10 4:=⟨_,rfl⟩
 obtain ⟨b8,hb8⟩:∃b,b=b7++leB 60 4:=⟨_,rfl⟩
 have n6:(byteEls b6).length=13+p.length:=by rw [zab,hb6,yag,zaj,n5'];omega
 have n7:(byteEls b7).length=15+p.length:=by rw [zab,hb7',←hb6,yag,zaj,←zab,n6];omega
 have n8:(byteEls b8).length=19+p.length:=by rw [zab,hb8,yag,zaj,←zab,n7];omega
 have m3:(byteEls (leB 10 4)).length=4:=by rw [zab,zaj]
 have m4:(byteEls (leB 6 2)).length=2:=by rw [zab,zaj]
 have m5:(byteEls (leB 60 4)).length=4:=by rw [zab,zaj]
 have m6:(byteEls (leB 5 2)).length=2:=by rw [zab,zaj]
 have A6:byteEls b5++byteEls (leB 10 4)=byteEls b6:=by rw [hb6,zan]
 have A7:byteEls b6++byteEls (leB 6 2)=byteEls b7:=by rw [hb7',←hb6,zan]
 have A8:byteEls b7++byteEls (leB 60 4)=byteEls b8:=by rw [hb8,zan]
 have A9:byteEls b8++byteEls (leB 5 2)=byteEls (zba p):=by rw [hb9,←hb8,zan]
 have hE0: [[AV.int .u8 (IntKind.u8.wrap 1)]]=byteEls b0:=by rw [hb0];rfl
 rw [←hb0]
 simp [znm,zoB,a_isobarref08_Put,f1,f4,zaM,w1]
 refine ⟨?_, ?_⟩
 all_goals
  refine zaZ k1 (by simp) ?_
  simp [f1,zaM]
  refine zaK (byteEls b0) (byteEls (leB p.length 2)) false (by simp) rfl (by decide) (zao _).1 (fun h=>by cases h) (by omega) (by omega) (by omega) ?_
  simp [f1,zaM,A1]
  refine z0P (byteEls b2) false (by simp) (by omega) (by omega) ?_
  simp [A2]
  refine zc5 ?_
  exact ⟨by simp [f1],by simp;omega,by simp [zaM,hb2]⟩
end Go.Proofs.YtdbhocoeolhjhaaGreatDoor
end
