/- Shelf: an act of the law's play. Shelf: points come to a metric, in the law's play. Shelf: any act of the law's play; the law's fixed fact; the law of -/
import Derived.Test.YtdbhocoeolhjhaaGreatDoorAbs2
import Derived.ProofKit
import Derived.LaidLaws
import Derived.Handed
import Derived.Carry
import Derived.Lib.LaidTab
import Derived.OpenShut
import Derived.SizedLaws
import Derived.Test.YtdbhocoeolhjhaaGreatDoorRows
import Derived.Lib.LaidIn
import Derived.Lib.LaidU8
import Derived.Stop.LaidErr
import Derived.SevenTiedAt
import Derived.Test.YtdbhocoeolhjhaaGreatDoorSfPJz
import Derived.Test.YtdbhocoeolhjhaaGreatDoorBn1
import Derived.Test.YtdbhocoeolhjhaaGreatDoorBn2
import Derived.Test.YtdbhocoeolhjhaaGreatDoorBn3
import Derived.Test.YtdbhocoeolhjhaaGreatDoorBn4
import Derived.Test.YtdbhocoeolhjhaaGreatDoorBn5
import Derived.Test.YtdbhocoeolhjhaaGreatDoorBn6
import Derived.Test.YtdbhocoeolhjhaaGreatDoorBn7
set_option linter.unusedSimpArgs false
set_option linter.unusedVariables false
set_option linter.constructorNameAsVariable false
section
set_option maxHeartbeats 16000000
namespace Go.Abs
variable [Globs]
theorem acalls_frz {P:Program} {f:FuncId} {args:List AV} {σ:Store} {R R':AV→Store→Prop} (h:ACalls P f args σ R) (hf:∀r σ',R r σ'→R' r σ'∨∃σ'',Frz σ' σ''∧R' r σ''):ACalls P f args σ R':=fun base κ Im w vs hs hv=>(h base κ Im w vs hs hv).mono (by
 rintro e w' ⟨r,σ',v,κ',Im',rfl,hR,hs',hg,hvr⟩
 rcases hf r σ' hR with h1|⟨σ'',hz,h1⟩
 ·exact ⟨r,σ',v,κ',Im',rfl,h1,hs',hg,hvr⟩
 ·obtain ⟨Im1,hs1,hg1⟩:=frz_ok hs' hz
  exact ⟨r,σ'',v,κ',Im1,rfl,h1,hs1,hg.trans hg1,hvr.grow hg1⟩)
theorem qc_coe {P:Program} {K:AV→Store→Prop} {σ:Store} {g:FuncId} {args args':List AV} {r:AV} {t:Tg K} (hc:PCalls P g args' (fun r'=>r'=r)) (ha:CoeL σ false args args') (hK:K r σ):qc P K t σ g args:=⟨false,args',r,ha,hc,nofun,hK⟩
end Go.Abs
namespace Go.Proofs.YtdbhocoeolhjhaaGreatDoor
open Go.Abs Go.RowKit Go.Sf Go.Num
variable {G:Globs}
structure PlayAt (σ:Store) (k:Nat) (p:PlayM) (C0 C1 C2 C3:AV):Prop where
 at':σ[k]? =some (.var 42 (plC C0 C1 C2 C3 (p.sure 0:Nat) (p.sure 1:Nat) (p.sure 2:Nat) (p.sure 3:Nat) p.now))
 c0:CameOK σ C0 (p.came 0)
 c1:CameOK σ C1 (p.came 1)
 c2:CameOK σ C2 (p.came 2)
 c3:CameOK σ C3 (p.came 3)
structure Kept (σ σ':Store) (k:Nat):Prop where
 len:σ.length≤σ'.length
 get:∀i,i<σ.length→i≠k→σ'[i]? =σ[i]?
theorem CameOK.more {σ:Store} {C:AV} {l:List ArrM} (h:CameOK σ C l) (t:Store):CameOK (σ++t) C l:=by
 rcases h with h|⟨id,h1,h2⟩
 ·exact .inl h
 ·exact .inr ⟨id,h1,get_lt h2 t⟩
theorem CameOK.kept {σ σ':Store} {k:Nat} {C:AV} {l:List ArrM} {t:TypeId} {c:List AV} (h:CameOK σ C l) (hk:σ[k]? =some (.var t c)) (hK:Kept σ σ' k):CameOK σ' C l:=by
 rcases h with h|⟨id,h1,h2⟩
 ·exact .inl h
 ·refine .inr ⟨id,h1, ?_⟩
  rw [hK.get id (List.getElem?_eq_some_iff.1 h2).1 (fun e=>by subst e;rw [hk] at h2;cases h2)]
  exact h2
theorem kept_set {σ:Store} {k:Nat} (x:Entry) (t:Store):Kept σ (σ.set k x++t) k:=by
 refine ⟨by simp,fun i hi hne=> ?_⟩
 rw [List.getElem?_append_left (by simpa using hi),List.getElem?_set_ne (fun e=>hne e.symm)]
def DoR (q a k':Nat) (σ:Store) (k:Nat) (p:PlayM) (dl:Nat) (r:AV) (σ':Store):Prop:=
 ∃s' p' e C0 C1 C2 C3,r=.tup [.agg (shC s'),.int .i64 e,.bool true]∧e≠22∧PlayInv s' p' q (a+1) (k'+1)∧PlayAt σ' k p' C0 C1 C2 C3∧Kept σ σ' k∧1000≤p'.now∧p'.now≤p.now+30*dl
def sureAt (p:PlayM) (j:Nat):PlayM:=⟨p.came,fun i=>if i=j then (p.came j).length else p.sure i,p.now⟩
theorem gset {σ:Store} (k:Nat) (x:Entry) (t:Store) (i:Nat):(σ.set k x++t)[σ.length+i]? =t[i]? :=by
 rw [List.getElem?_append_right (by simp)]
 simp
theorem gset0 {σ:Store} (k:Nat) (x:Entry) (t:Store):(σ.set k x++t)[σ.length]? =t[0]? :=gset k x t 0
theorem sset {σ:Store} (k:Nat) (x:Entry) (t:Store) (i:Nat) (y:Entry):(σ.set k x++t).set (σ.length+i) y=σ.set k x++t.set i y:=by
 rw [List.set_append_right _ _ (by simp)]
 simp
theorem spl4 {C0 C1 C2 C3:AV} {now:Nat} (f:Nat→Nat) {j:Nat} (hj:j<4) (n:Nat):(List.take (4+j) [C0,C1,C2,C3,AV.int .i64 (f 0:Nat),.int .i64 (f 1:Nat),.int .i64 (f 2:Nat),.int .i64 (f 3:Nat),.int .i64 now]++AV.int .i64 n::List.drop (4+j) [C1,C2,C3,.int .i64 (f 0:Nat),.int .i64 (f 1:Nat),.int .i64 (f 2:Nat),.int .i64 (f 3:Nat),.int .i64 now])=
  plC C0 C1 C2 C3 ((fun i=>if i=j then n else f i) 0:Nat) ((fun i=>if i=j then n else f i) 1:Nat) ((fun i=>if i=j then n else f i) 2:Nat) ((fun i=>if i=j then n else f i) 3:Nat) now:=by
 match j,hj with
 |0,_=>rfl
 |1,_=>rfl
 |2,_=>rfl
 |3,_=>rfl
theorem pre_get3 {σ τ:Store} {a b c d:Entry}:(σ++a::b::c::d::τ)[σ.length+3]? =some d:=by
 rw [List.getElem?_append_right (by omega),Nat.add_sub_cancel_left];rfl
theorem pre_set3 {σ τ:Store} {a b c d x:Entry}:(σ++a::b::c::d::τ).set (σ.length+3) x=σ++a::b::c::x::τ:=by
 rw [List.set_append_right _ _ (by omega),Nat.add_sub_cancel_left];rfl
theorem pick4 {σ:Store} {k:Nat} {p:PlayM} {C0 C1 C2 C3:AV} (h:PlayAt σ k p C0 C1 C2 C3) {j:Nat} (hj:j<4):∃Cj,CameOK σ Cj (p.came j)∧(∀(l:List AV),List.take 1 (List.drop j (C0::C1::C2::C3::l))= [Cj]):=by
 match j,hj with
 |0,_=>exact ⟨C0,h.c0,fun l=>rfl⟩
 |1,_=>exact ⟨C1,h.c1,fun l=>rfl⟩
 |2,_=>exact ⟨C2,h.c2,fun l=>rfl⟩
 |3,_=>exact ⟨C3,h.c3,fun l=>rfl⟩
theorem do_sync {σ:Store} {k:Nat} {s:ShM} {p:PlayM} {q a k':Nat} {C0 C1 C2 C3:AV} (hP:PlayInv s p q a k') (ha:a<69) (hk':k'≤100000) (hA:PlayAt σ k p C0 C1 C2 C3) (act:ActM) (hact:OkAct act) (hkind:act.kind%5=3) (hn1:1000≤p.now):
  ACalls Tryz.prog n_isobarlaw21_play_do [.ptr k 0,.agg (shC s),.agg (actC act)] σ (DoR q a k' σ k p act.dots.length):=by
 refine acalls_of_awp_e hmix c_isobarlaw21_play_do rfl ?_
 obtain ⟨j,hj⟩:∃j,j=act.met%4:=⟨_,rfl⟩
 have hj4:j<4:=by omega
 have hpj:pathOf act.met=pathOf j:=by rw [hj,pathOf_mod]
 have hmm:(act.met:Int).tmod 4=(j:Int):=by rw [hj];exact tmod_nat act.met 4
 have hkm:(act.kind:Int).tmod 5=3:=by
  have:(act.kind:Int).tmod 5=((act.kind%5:Nat):Int):=tmod_nat act.kind 5
  rw [this,hkind];rfl
 have hwj:IntKind.i64.wrap (j:Int)=j:=wrap_i64 (by omega) (by omega)
 have kNm:=lname_ok (G:=G) act.met hact.m
 have kS:=sSync_ok (G:=G) hP.inv (by omega) hk' (pathOf_mem j)
 rw [hpj] at kNm
 have hk:=hA.at'
 have hlow0:=hA.c0.low
 have hlow1:=hA.c1.low
 have hlow2:=hA.c2.low
 have hlow3:=hA.c3.low
 have v0:=fun t=>(hA.c0.more t).view
 have v1:=fun t=>(hA.c1.more t).view
 have v2:=fun t=>(hA.c2.more t).view
 have v3:=fun t=>(hA.c3.more t).view
 obtain ⟨Cj,hcj,hTD⟩:=pick4 hA hj4
 have vj:=fun t=>(hcj.more t).view
 have oj:=hcj.low.one
 have hj9:j+1≤9:=by omega
 have hj8:4+j≤8:=by omega
 have hgk:=fun t=>get_lt hk t
 have hst:=fun t y=>set_lt hk t y
 simp only [plC] at hgk
 simp only [shC] at kS
 simp [a_isobarlaw21_play_do,shC,actC,pre_get0,pre_get1,pre_get2,hmm,hkm,hwj]
 refine qc_any kNm (by simp) ?_
 simp
 refine qc_any kS (by simp [AV.pure]) ?_
 by_cases hh:hasK kM s.mets (pathOf j)
 ·have hR:syncR s (pathOf j)=.tup [.agg (shC (syncS s (metOf s (pathOf j)))),.int .i64 0]:=by unfold syncR;rw [if_pos hh]
  rw [hR]
  have hI:=play_sync hP hj4 hh
  simp [shC,pre_get0,pre_get1,pre_get2,pre_set2,splice,hj4,hgk,hTD,oj,hj9,vj,oneOf,hj8,hst,spl4 p.sure hj4,arrsC_len,gset,gset0,sset]
  have hlow:=fun (C:AV) (h:LowC σ C)=>h.under (m:=σ.length) (Nat.le_refl _)
  refine er_setx hk (.tup [.agg (shC (syncS s (metOf s (pathOf j)))),.int .i64 0,.bool true]) (by simp [tupOf,gset,shC]) (by simp [AV.under,shC]) (by simp [Entry.under,plC,AV.under,hlow _ hlow0,hlow _ hlow1,hlow _ hlow2,hlow _ hlow3]) ?_
  refine ⟨_,sureAt p j,0,C0,C1,C2,C3,rfl,by decide,play_more (play_same hI _ _) (by omega) (by omega), ?_, ?_,hn1,by show p.now≤_;omega⟩
  ·have hK:=kept_set (σ:=σ) (k:=k) (.var 42 (plC C0 C1 C2 C3 ((sureAt p j).sure 0:Nat) ((sureAt p j).sure 1:Nat) ((sureAt p j).sure 2:Nat) ((sureAt p j).sure 3:Nat) p.now)) []
   rw [List.append_nil] at hK
   exact ⟨get_set hk _,hA.c0.kept hk hK,hA.c1.kept hk hK,hA.c2.kept hk hK,hA.c3.kept hk hK⟩
  ·have hK:=kept_set (σ:=σ) (k:=k) (.var 42 (plC C0 C1 C2 C3 ((sureAt p j).sure 0:Nat) ((sureAt p j).sure 1:Nat) ((sureAt p j).sure 2:Nat) ((sureAt p j).sure 3:Nat) p.now)) []
   rw [List.append_nil] at hK
   exact hK
 ·have hR:syncR s (pathOf j)=.tup [.agg (shC s),.int .i64 15]:=by unfold syncR;rw [if_neg hh]
  have hc0:p.came j= []:=Classical.byContradiction fun h=>hh ((hP.has j hj4).2 h)
  rw [hR]
  have kSm:=sameShelf_ok (G:=G) hP.inv (by omega) hk'
  simp only [shC] at kSm
  have hcl0:arrsC (p.came j)= []:=by rw [hc0];rfl
  simp [shC,pre_get0,pre_get1,pre_get2,pre_get3,pre_set2,pre_set3,splice,hj4,hgk,hTD,oj,hj9,vj,oneOf,hcl0]
  refine qc_same kSm (by simp [AV.pure]) (by simp) ?_
  simp [shC,pre_get0,pre_get1,pre_get2,pre_get3,pre_set2,pre_set3,splice]
  exact er_drop (.tup [.agg (shC s),.int .i64 15,.bool true]) (by simp [tupOf,pre_get2,shC]) (by simp [AV.under,shC]) ⟨s,p,15,C0,C1,C2,C3,rfl,by decide,play_more hP (by omega) (by omega),hA,⟨Nat.le_refl _,fun _ _ _=>rfl⟩,hn1,by omega⟩
theorem do_comp (hT:Steps G) {σ:Store} {k:Nat} {s:ShM} {p:PlayM} {q a k':Nat} {C0 C1 C2 C3:AV} (hP:PlayInv s p q a k') (ha:a<69) (hk':k'≤100000) (hA:PlayAt σ k p C0 C1 C2 C3) (act:ActM) (hact:OkAct act) (hkind:act.kind%5=4) (hn1:1000≤p.now):
  ACalls Tryz.prog n_isobarlaw21_play_do [.ptr k 0,.agg (shC s),.agg (actC act)] σ (DoR q a k' σ k p act.dots.length):=by
 refine acalls_of_awp_e hmix c_isobarlaw21_play_do rfl ?_
 obtain ⟨j,hj⟩:∃j,j=act.met%4:=⟨_,rfl⟩
 have hj4:j<4:=by omega
 have hpj:pathOf act.met=pathOf j:=by rw [hj,pathOf_mod]
 have hmm:(act.met:Int).tmod 4=(j:Int):=by rw [hj];exact tmod_nat act.met 4
 have hkm:(act.kind:Int).tmod 5=4:=by
  have:(act.kind:Int).tmod 5=((act.kind%5:Nat):Int):=tmod_nat act.kind 5
  rw [this,hkind];rfl
 have hwj:IntKind.i64.wrap (j:Int)=j:=wrap_i64 (by omega) (by omega)
 have kNm:=lname_ok (G:=G) act.met hact.m
 have kS:=sComp_ok (G:=G) hT hP.inv ha hk' (pathOf_mem j)
 rw [hpj] at kNm
 have hk:=hA.at'
 have hlow0:=hA.c0.low
 have hlow1:=hA.c1.low
 have hlow2:=hA.c2.low
 have hlow3:=hA.c3.low
 have v0:=fun t=>(hA.c0.more t).view
 have v1:=fun t=>(hA.c1.more t).view
 have v2:=fun t=>(hA.c2.more t).view
 have v3:=fun t=>(hA.c3.more t).view
 obtain ⟨Cj,hcj,hTD⟩:=pick4 hA hj4
 have vj:=fun t=>(hcj.more t).view
 have oj:=hcj.low.one
 have hj9:j+1≤9:=by omega
 have hj8:4+j≤8:=by omega
 have hgk:=fun t=>get_lt hk t
 have hst:=fun t y=>set_lt hk t y
 simp only [plC] at hgk
 simp only [shC] at kS
 simp [a_isobarlaw21_play_do,shC,actC,pre_get0,pre_get1,pre_get2,hmm,hkm,hwj]
 refine qc_any kNm (by simp) ?_
 simp
 refine qc_any kS (by simp [AV.pure]) ?_
 by_cases hh:hasK kM s.mets (pathOf j)
 ·obtain ⟨B,hB⟩:∃B,B=compB (metOf s (pathOf j)):=⟨_,rfl⟩
  by_cases hf:B.length≤s.disk.quota-usedM s.disk
  ·skip
   have hR:compR s (pathOf j)=.tup [.agg (shC (compS s (metOf s (pathOf j)) B)),.int .i64 0]:=by unfold compR;rw [if_pos hh,←hB,if_pos hf]
   rw [hR]
   have hI:=play_comp hP ha hj4 hh hf
   simp [shC,pre_get0,pre_get1,pre_get2,pre_set2,splice,hj4,hgk,hTD,oj,hj9,vj,oneOf,hj8,hst,spl4 p.sure hj4,arrsC_len,gset,gset0,sset]
   have hlow:=fun (C:AV) (h:LowC σ C)=>h.under (m:=σ.length) (Nat.le_refl _)
   refine er_setx hk (.tup [.agg (shC (compS s (metOf s (pathOf j)) B)),.int .i64 0,.bool true]) (by simp [tupOf,gset,shC]) (by simp [AV.under,shC]) (by simp [Entry.under,plC,AV.under,hlow _ hlow0,hlow _ hlow1,hlow _ hlow2,hlow _ hlow3]) ?_
   refine ⟨_,sureAt p j,0,C0,C1,C2,C3,rfl,by decide,play_more (play_same hI _ _) (Nat.le_refl _) (by omega), ?_, ?_,hn1,by show p.now≤_;omega⟩
   ·have hK:=kept_set (σ:=σ) (k:=k) (.var 42 (plC C0 C1 C2 C3 ((sureAt p j).sure 0:Nat) ((sureAt p j).sure 1:Nat) ((sureAt p j).sure 2:Nat) ((sureAt p j).sure 3:Nat) p.now)) []
    rw [List.append_nil] at hK
    exact ⟨get_set hk _,hA.c0.kept hk hK,hA.c1.kept hk hK,hA.c2.kept hk hK,hA.c3.kept hk hK⟩
   ·have hK:=kept_set (σ:=σ) (k:=k) (.var 42 (plC C0 C1 C2 C3 ((sureAt p j).sure 0:Nat) ((sureAt p j).sure 1:Nat) ((sureAt p j).sure 2:Nat) ((sureAt p j).sure 3:Nat) p.now)) []
    rw [List.append_nil] at hK
    exact hK
  ·have hR:compR s (pathOf j)=.tup [.agg (shC s),.int .i64 6]:=by unfold compR;rw [if_pos hh,←hB,if_neg hf]
   rw [hR]
   have kSm:=sameShelf_ok (G:=G) hP.inv (by omega) hk'
   simp only [shC] at kSm
   simp [shC,pre_get0,pre_get1,pre_get2,pre_get3,pre_set2,pre_set3,splice,hj4,hgk,hTD,oj,hj9,vj,oneOf]
   refine qc_same kSm (by simp [AV.pure]) (by simp) ?_
   simp [shC,pre_get0,pre_get1,pre_get2,pre_get3,pre_set2,pre_set3,splice]
   exact er_drop (.tup [.agg (shC s),.int .i64 6,.bool true]) (by simp [tupOf,pre_get2,shC]) (by simp [AV.under,shC]) ⟨s,p,6,C0,C1,C2,C3,rfl,by decide,play_more hP (by omega) (by omega),hA,⟨Nat.le_refl _,fun _ _ _=>rfl⟩,hn1,by omega⟩
 ·have hR:compR s (pathOf j)=.tup [.agg (shC s),.int .i64 15]:=by unfold compR;rw [if_neg hh]
  have hc0:p.came j= []:=Classical.byContradiction fun h=>hh ((hP.has j hj4).2 h)
  rw [hR]
  have kSm:=sameShelf_ok (G:=G) hP.inv (by omega) hk'
  simp only [shC] at kSm
  have hcl0:arrsC (p.came j)= []:=by rw [hc0];rfl
  simp [shC,pre_get0,pre_get1,pre_get2,pre_get3,pre_set2,pre_set3,splice,hj4,hgk,hTD,oj,hj9,vj,oneOf,hcl0]
  refine qc_same kSm (by simp [AV.pure]) (by simp) ?_
  simp [shC,pre_get0,pre_get1,pre_get2,pre_get3,pre_set2,pre_set3,splice]
  exact er_drop (.tup [.agg (shC s),.int .i64 15,.bool true]) (by simp [tupOf,pre_get2,shC]) (by simp [AV.under,shC]) ⟨s,p,15,C0,C1,C2,C3,rfl,by decide,play_more hP (by omega) (by omega),hA,⟨Nat.le_refl _,fun _ _ _=>rfl⟩,hn1,by omega⟩
end Go.Proofs.YtdbhocoeolhjhaaGreatDoor
end
section
set_option maxHeartbeats 16000000
namespace Go.Proofs.YtdbhocoeolhjhaaGreatDoor
open Go.Abs Go.RowKit Go.Sf Go.Num
variable {G:Globs}
theorem spl0 {C0 C1 C2 C3:AV} {s0 s1 s2 s3:Int} {now:Nat} {j:Nat} (hj:j<4) (R:AV):(List.take j [C0,C1,C2,C3,AV.int .i64 s0,.int .i64 s1,.int .i64 s2,.int .i64 s3,.int .i64 now]++R::List.drop j [C1,C2,C3,.int .i64 s0,.int .i64 s1,.int .i64 s2,.int .i64 s3,.int .i64 now])=
  plC (if 0=j then R else C0) (if 1=j then R else C1) (if 2=j then R else C2) (if 3=j then R else C3) s0 s1 s2 s3 now:=by
 match j,hj with
 |0,_=>rfl
 |1,_=>rfl
 |2,_=>rfl
 |3,_=>rfl
theorem do_append (hT:Steps G) {σ:Store} {k:Nat} {s:ShM} {p:PlayM} {q a k':Nat} {C0 C1 C2 C3:AV} (hP:PlayInv s p q a k') (ha:a<69) (hk':k'≤100000) (hA:PlayAt σ k p C0 C1 C2 C3) (act:ActM) (hact:OkAct act) (hkind:act.kind%5≠3∧act.kind%5≠4) (hd:act.dots.length≤300) (hn1:1000≤p.now) (hn2:p.now≤600000):
  ACalls Tryz.prog n_isobarlaw21_play_do [.ptr k 0,.agg (shC s),.agg (actC act)] σ (DoR q a k' σ k p act.dots.length):=by
 refine acalls_frz (R:=fun r σ'=>DoR q a k' σ k p act.dots.length r σ'∨∃id l,σ'[id]? =some (.row 91 4 (arrsC l) false)∧DoR q a k' σ k p act.dots.length r (σ'.set id (.row 91 4 (arrsC l) true))) ?_ (fun r σ' h=> ?_)
 rotate_left
 ·rcases h with h|⟨id,l,h1,h2⟩
  ·exact .inl h
  ·exact .inr ⟨_,⟨id,_,_,_,_,h1,share_pure (arrsC_els l).2.1 (fun c hc=>by obtain ⟨n,_,rfl⟩:=List.mem_map.1 hc;simp [arrC]),rfl⟩,h2⟩
 refine acalls_of_awp_e hmix c_isobarlaw21_play_do rfl ?_
 obtain ⟨j,hj⟩:∃j,j=act.met%4:=⟨_,rfl⟩
 have hj4:j<4:=by omega
 have hpj:pathOf act.met=pathOf j:=by rw [hj,pathOf_mod]
 have hmm:(act.met:Int).tmod 4=(j:Int):=by rw [hj];exact tmod_nat act.met 4
 obtain ⟨kd,hkd⟩:∃kd,kd=act.kind%5:=⟨_,rfl⟩
 rw [←hkd] at hkind
 have hkm:(act.kind:Int).tmod 5=(kd:Int):=by rw [hkd];exact tmod_nat act.kind 5
 have hk3:¬(kd:Int)=3:=by omega
 have hk4:¬(kd:Int)=4:=by omega
 have hk3':¬kd=3:=by omega
 have hk4':¬kd=4:=by omega
 have hwj:IntKind.i64.wrap (j:Int)=j:=wrap_i64 (by omega) (by omega)
 have kNm:=lname_ok (G:=G) act.met hact.m
 rw [hpj] at kNm
 obtain ⟨bs,hbs⟩:∃bs,bs=ptsM p.now act.dots:=⟨_,rfl⟩
 have hbl:bs.length≤300:=by rw [hbs,ptsM_len];exact hd
 have hbo:∀x∈bs,OkA x:=by rw [hbs];exact ptsM_ok hn1 (by omega) hact.d
 have hnow:=nowM_le p.now act.dots
 obtain ⟨now',hnw⟩:∃now',now'=nowM p.now act.dots:=⟨_,rfl⟩
 rw [←hnw] at hnow
 have kAp:=sAppend_ok (G:=G) hT hP.inv ha hk' (pathOf_mem j) bs hbo hbl
 have hk:=hA.at'
 obtain ⟨Cj,hcj,hTD⟩:=pick4 hA hj4
 have oj:=hcj.low.one
 have hj9:j+1≤9:=by omega
 have hj8:4+j≤8:=by omega
 have kPt:=fun (X:Store)=>points_ok (G:=G) (σ:=σ++X) (k:=k) (hA.c0.more X).low (hA.c1.more X).low (hA.c2.more X).low (hA.c3.more X).low (get_lt hk X) act hact hd hn1 hn2
 rw [←hbs,←hnw] at kPt
 simp only [shC] at kAp
 obtain ⟨P',hP'⟩:∃P':Entry,P'=.var 42 (plC C0 C1 C2 C3 (p.sure 0:Nat) (p.sure 1:Nat) (p.sure 2:Nat) (p.sure 3:Nat) now'):=⟨_,rfl⟩
 simp [a_isobarlaw21_play_do,shC,actC,pre_get0,pre_get1,pre_get2,hmm,hkm,hwj,hk3,hk4,hk3',hk4']
 refine ac_eff (kPt _) ?_
 rintro r σ' ⟨tl,rfl,hAcc,hen⟩
 rw [set_lt hk,←hP']
 obtain ⟨V,hV⟩:∃V:Entry,V=.var 33 (shC s):=⟨_,rfl⟩
 obtain ⟨A,hAe⟩:∃A:Entry,A=.var 47 (actC act):=⟨_,rfl⟩
 obtain ⟨Z,hZ⟩:∃Z:Entry,Z=.var 33 [.int .i64 0,.nils,.nils,.nils,.nils,.int .i64 0,.nils,.int .i64 0,.int .i64 0,.bool false]:=⟨_,rfl⟩
 have hA2:AccT 91 4 (σ.length+4) tl r (arrsC bs):=by simpa using hAcc
 have hcoe:∀(a b c d:Entry) (X:Store) (lend:Bool),Coe (σ.set k P'++a::b::c::d::(tl++X)) lend r (.lst (arrsC bs)):=fun a b c d X lend=>by
  have h1:AccT 91 4 (σ.set k P'++ [a,b,c,d]).length (tl++X) r (arrsC bs):=by
   have:(σ.set k P'++ [a,b,c,d]).length=σ.length+4:=by simp
   rw [this];exact hA2.more X
  have:=h1.coe lend
  simpa using this
 have hcoe0:∀(a b c d:Entry) (lend:Bool),Coe (σ.set k P'++a::b::c::d::tl) lend r (.lst (arrsC bs)):=fun a b c d lend=>by simpa using hcoe a b c d [] lend
 have hviw:∀(a b c d:Entry) (X:Store),view (σ.set k P'++a::b::c::d::(tl++X)) r=some (arrsC bs):=fun a b c d X=>by
  have h1:AccT 91 4 (σ.set k P'++ [a,b,c,d]).length (tl++X) r (arrsC bs):=by
   have:(σ.set k P'++ [a,b,c,d]).length=σ.length+4:=by simp
   rw [this];exact hA2.more X
  have:=h1.view
  simpa using this
 have hK:=fun (X:Store)=>kept_set (σ:=σ) (k:=k) P' X
 have w0:=fun X=>hA.c0.kept hk (hK X)
 have w1:=fun X=>hA.c1.kept hk (hK X)
 have w2:=fun X=>hA.c2.kept hk (hK X)
 have w3:=fun X=>hA.c3.kept hk (hK X)
 have hgk:=fun (X:Store)=>get_lt (get_set hk P') X
 have kAc:=accepted_ok (G:=G) (p.came 0) (p.came 1) (p.came 2) (p.came 3) (p.sure 0:Nat) (p.sure 1:Nat) (p.sure 2:Nat) (p.sure 3:Nat) now' j (p.came j) (by
  match j,hj4 with
  |0,_=>exact .inl ⟨rfl,rfl⟩
  |1,_=>exact .inr (.inl ⟨rfl,rfl⟩)
  |2,_=>exact .inr (.inr (.inl ⟨rfl,rfl⟩))
  |3,_=>exact .inr (.inr (.inr ⟨rfl,rfl⟩))) (hP.ok j hj4) (by have:=hP.len j hj4;omega) bs hbo (by omega)
 simp [gset,gset0,sset]
 refine qc_any kNm (by simp) ?_
 simp [gset,gset0,sset]
 refine qc_any lplain_ok (by simp) ?_
 simp [gset,gset0,sset]
 refine qc_coe kAp (.cons (.pure _ (by simp [AV.pure])) (.cons (.pure _ (by simp)) (.cons (.pure _ (by simp [AV.pure,schC])) (.cons (hcoe0 _ _ _ _ _) .nil)))) ?_
 obtain ⟨s',e,hR,he⟩:∃(s':ShM) (e:Int),appendR s (pathOf j) bs=.tup [.agg (shC s'),.int .i64 e]∧((e=0∧(∀x∈bs,OkV x)∧PlayInv s' (addC p j bs now') q (a+1) (k'+1))∨(e=6∧(∀x∈bs,OkV x)∧s'=s)∨(e=1∧¬(∀x∈bs,OkV x)∧s'=s)):=by
  unfold appendR
  by_cases hv:∀x∈bs,OkV x
  ·rw [if_pos hv]
   by_cases h0:bs= []
   ·rw [if_pos h0]
    refine ⟨s,0,rfl,.inl ⟨rfl,hv, ?_⟩⟩
    have:addC p j bs now'=⟨p.came,p.sure,now'⟩:=by
     unfold addC
     rw [h0]
     congr 1
     funext i
     split
     ·rename_i e;rw [e];simp
     ·rfl
    rw [this]
    exact play_more (play_same hP _ _) (by omega) (by omega)
   ·rw [if_neg h0]
    by_cases hf:(bytesA (metOf s (pathOf j)) bs).length≤s.disk.quota-usedM s.disk
    ·rw [if_pos hf]
     exact ⟨_,0,rfl,.inl ⟨rfl,hv,play_append hP ha hj4 (fun x hx=>⟨hbo x hx,hv x hx⟩) h0 hbl hf now'⟩⟩
    ·rw [if_neg hf]
     exact ⟨s,6,rfl,.inr (.inl ⟨rfl,hv,rfl⟩)⟩
  ·rw [if_neg hv]
   exact ⟨s,1,rfl,.inr (.inr ⟨rfl,hv,rfl⟩)⟩
 rw [hR]
 simp [shC,gset,gset0,sset]
 refine ac_lent kAc (.cons ?_ (.cons (.pure _ (by simp)) (.cons ?_ .nil))) ?_
 ·refine .ptr k 0 42 (plC C0 C1 C2 C3 (p.sure 0:Nat) (p.sure 1:Nat) (p.sure 2:Nat) (p.sure 3:Nat) now') _ (by rw [hgk,hP']) rfl (by simp [plC]) rfl (fun i h h'=> ?_) (by simp [AV.one])
  match i,h with
  |0,_=>exact (w0 _).coe true
  |1,_=>exact (w1 _).coe true
  |2,_=>exact (w2 _).coe true
  |3,_=>exact (w3 _).coe true
  |4,_=>exact .pure _ (by simp [plC,AV.pure])
  |5,_=>exact .pure _ (by simp [plC,AV.pure])
  |6,_=>exact .pure _ (by simp [plC,AV.pure])
  |7,_=>exact .pure _ (by simp [plC,AV.pure])
  |8,_=>exact .pure _ (by simp [plC,AV.pure])
 ·exact hcoe _ _ _ _ _ true
 rintro r2 rfl
 refine ⟨by simp [rig], ?_⟩
 have hlow:=fun (C:AV) (h:LowC σ C)=>h.under (m:=σ.length) (Nat.le_refl _)
 have hPu:P'.under (σ.set k P').length=true:=by
  rw [hP']
  simp [Entry.under,plC,AV.under,hlow _ hA.c0.low,hlow _ hA.c1.low,hlow _ hA.c2.low,hlow _ hA.c3.low]
 have hKn:Kept σ (σ.set k P') k:=by have:=hK [];rwa [List.append_nil] at this
 have hAt:PlayAt (σ.set k P') k ⟨p.came,p.sure,now'⟩ C0 C1 C2 C3:=⟨by rw [get_set hk,hP'],hA.c0.kept hk hKn,hA.c1.kept hk hKn,hA.c2.kept hk hKn,hA.c3.kept hk hKn⟩
 rcases he with ⟨rfl,hv,hI⟩|⟨rfl,hv,rfl⟩|⟨rfl,hv,rfl⟩
 ·rw [decide_eq_true hv]
  have hgk':∀X,(σ.set k P'++X)[k]? =some (.var 42 [C0,C1,C2,C3,.int .i64 (p.sure 0:Nat),.int .i64 (p.sure 1:Nat),.int .i64 (p.sure 2:Nat),.int .i64 (p.sure 3:Nat),.int .i64 now']):=fun X=>by rw [hgk,hP'];rfl
  have wj:=fun X=>hcj.kept hk (hK X)
  have hcl:=hP.len j hj4
  have lcj:=arrsC_len (p.came j)
  have lbs:=arrsC_len bs
  have hst2:∀(y:Entry) (X:Store),(σ.set k P'++X).set k y=σ.set k y++X:=fun y X=>by rw [set_lt (get_set hk P'),List.set_set]
  have hgk2:∀(y:Entry) (X:Store),(σ.set k y++X)[k]? =some y:=fun y X=>get_lt (get_set hk y) X
  simp [hj4,hgk',hTD,oj,hj9,oneOf]
  refine ap_row [] (arrsC (p.came j)) false (by simp [gset,pre_get1]) (wj _).view (by decide) (arrsC_els _).1 (fun h=>by cases h) rfl (by rw [lcj];omega) (by rw [lcj];omega) ?_
  simp [gset,sset,pre_set1]
  refine ap_row (arrsC (p.came j)) (arrsC bs) false (by simp [gset,pre_get1]) (hviw _ _ _ _ _) (by decide) (arrsC_els _).1 (fun h=>by cases h) rfl (by rw [lcj,lbs];omega) (by rw [lcj,lbs];omega) ?_
  have harr:arrsC (p.came j)++arrsC bs=arrsC (p.came j++bs):=by simp [arrsC]
  simp [gset,sset,pre_set1,harr,hj4,hgk',hj9,hst2]
  rw [spl0 hj4,lcj,lbs]
  obtain ⟨R,hRr⟩:∃R,R=AV.row (σ.length+(tl.length+1+1+1+1+1)) ((p.came j).length+bs.length):=⟨_,rfl⟩
  obtain ⟨P2,hP2⟩:∃P2:Entry,P2=.var 42 (plC (if 0=j then R else C0) (if 1=j then R else C1) (if 2=j then R else C2) (if 3=j then R else C3) (p.sure 0:Nat) (p.sure 1:Nat) (p.sure 2:Nat) (p.sure 3:Nat) now'):=⟨_,rfl⟩
  rw [←hRr,←hP2]
  obtain ⟨S0,hS0⟩:∃S0:Entry,S0=.var 33 (shC s):=⟨_,rfl⟩
  obtain ⟨S1,hS1⟩:∃S1:Entry,S1=.var 33 (shC s'):=⟨_,rfl⟩
  have hS0':=hS0
  have hS1':=hS1
  have hA':A=.var 47 [.int .u8 act.kind,.int .u8 act.met,.lst (dotsC act.dots)]:=hAe
  simp only [shC] at hS0' hS1'
  rw [←hS0',←hS1',←hA',show (Entry.var 47 (actC act))=A from hAe.symm]
  have hKf:Kept σ (σ.set k P2++S0::A::S1::A::(tl++ [S1,.row 91 4 (arrsC (p.came j++bs)) true])) k:=kept_set P2 _
  have hfz:(σ.set k P2++S0::A::S1::A::(tl++ [S1,.row 91 4 (arrsC (p.came j++bs)) false])).set (σ.length+(tl.length+1+1+1+1+1)) (.row 91 4 (arrsC (p.came j++bs)) true)=σ.set k P2++S0::A::S1::A::(tl++ [S1,.row 91 4 (arrsC (p.came j++bs)) true]):=by
   simp [sset,pre_set1]
  have hcm:∀(i:Nat) (C:AV),CameOK σ C (p.came i)→CameOK (σ.set k P2++S0::A::S1::A::(tl++ [S1,.row 91 4 (arrsC (p.came j++bs)) true])) (if i=j then R else C) ((addC p j bs now').came i):=fun i C hC=>by
   show CameOK _ _ (if i=j then p.came j++bs else p.came i)
   split
   ·refine .inr ⟨_,by rw [hRr,List.length_append], ?_⟩
    simp [gset,pre_get1]
   ·exact hC.kept hk hKf
  have hlen:(σ.set k P2++S0::A::S1::A::(tl++ [S1,.row 91 4 (arrsC (p.came j++bs)) false])).length=σ.length+(tl.length+6):=by simp
  have hRu:R.under (σ.length+(tl.length+6))=true:=by rw [hRr];simp [AV.under]
  have hle6:σ.length≤σ.length+(tl.length+6):=by omega
  have hCu:∀(i:Nat) (C:AV),LowC σ C→(if i=j then R else C).under (σ.length+(tl.length+6))=true:=fun i C hC=>by
   split
   ·exact hRu
   ·exact hC.under hle6
  refine er_keep (σ.set k P2++S0::A::S1::A::(tl++ [S1,.row 91 4 (arrsC (p.came j++bs)) false])) (.tup [.agg (shC s'),.int .i64 0,.bool true]) ?_ [] (by simp) (by simp) (by simp [AV.under,shC]) (fun i e' he'=> ?_) (.inr ⟨σ.length+(tl.length+1+1+1+1+1),p.came j++bs,by simp [gset,pre_get1],s',addC p j bs now',0,(if 0=j then R else C0),(if 1=j then R else C1),(if 2=j then R else C2),(if 3=j then R else C3),rfl,by decide,hI, ?_, ?_,by show 1000≤now';omega,hnow.2⟩)
  ·simp [tupOf,gset,hS1,shC]
  ·rw [hlen]
   by_cases hi:i<σ.length
   ·rw [List.getElem?_append_left (by simpa using hi)] at he'
    by_cases hki:k=i
    ·subst hki
     rw [get_set hk] at he'
     cases he'
     right
     rw [hP2]
     simp [Entry.under,plC,AV.under]
     exact ⟨hCu 0 C0 hA.c0.low,hCu 1 C1 hA.c1.low,hCu 2 C2 hA.c2.low,hCu 3 C3 hA.c3.low⟩
    ·rw [List.getElem?_set_ne hki] at he'
     exact .inl he'
   ·rw [List.getElem?_append_right (by simpa using Nat.le_of_not_lt hi)] at he'
    right
    have hme:=List.mem_of_getElem? he'
    simp only [List.mem_cons,List.mem_append,List.not_mem_nil,or_false] at hme
    rcases hme with rfl|rfl|rfl|rfl|h1|rfl|rfl
    ·rw [hS0];simp [Entry.under,AV.under,shC]
    ·rw [hA'];simp [Entry.under,AV.under]
    ·rw [hS1];simp [Entry.under,AV.under,shC]
    ·rw [hA'];simp [Entry.under,AV.under]
    ·obtain ⟨l,rfl⟩:=hen e' h1
     exact row_under (arrsC_els l).2.1
    ·rw [hS1];simp [Entry.under,AV.under,shC]
    ·exact row_under (arrsC_els _).2.1
  ·rw [hfz]
   exact ⟨by rw [hgk2,hP2];rfl,hcm 0 C0 hA.c0,hcm 1 C1 hA.c1,hcm 2 C2 hA.c2,hcm 3 C3 hA.c3⟩
  ·rw [hfz]
   exact hKf
 ·have kSm:=sameShelf_ok (G:=G) hP.inv (by omega) hk'
  simp only [shC] at kSm
  rw [decide_eq_true hv]
  simp
  refine qc_same kSm (by simp [AV.pure]) (by simp) ?_
  simp [gset,gset0,sset,splice]
  refine er_setx hk (.tup [.agg (shC s'),.int .i64 6,.bool true]) (by simp [tupOf,gset,shC]) (by simp [AV.under,shC]) hPu (.inl ⟨s',_,6,C0,C1,C2,C3,rfl,by decide,play_more (play_same hP p.sure now') (by omega) (by omega),hAt,hKn,by show 1000≤now';omega,hnow.2⟩)
 ·have kSm:=sameShelf_ok (G:=G) hP.inv (by omega) hk'
  simp only [shC] at kSm
  rw [decide_eq_false hv]
  simp
  refine qc_same kSm (by simp [AV.pure]) (by simp) ?_
  simp [gset,gset0,sset,splice]
  refine er_setx hk (.tup [.agg (shC s'),.int .i64 1,.bool true]) (by simp [tupOf,gset,shC]) (by simp [AV.under,shC]) hPu (.inl ⟨s',_,1,C0,C1,C2,C3,rfl,by decide,play_more (play_same hP p.sure now') (by omega) (by omega),hAt,hKn,by show 1000≤now';omega,hnow.2⟩)
end Go.Proofs.YtdbhocoeolhjhaaGreatDoor
end
section
set_option maxHeartbeats 16000000
namespace Go.Proofs.YtdbhocoeolhjhaaGreatDoor
open Go.Abs Go.RowKit Go.Sf Go.Num
variable {G:Globs}
theorem do_ok (hT:Steps G) {σ:Store} {k:Nat} {s:ShM} {p:PlayM} {q a k':Nat} {C0 C1 C2 C3:AV} (hP:PlayInv s p q a k') (ha:a<69) (hk':k'≤100000) (hA:PlayAt σ k p C0 C1 C2 C3) (act:ActM) (hact:OkAct act) (hd:act.dots.length≤300) (hn1:1000≤p.now) (hn2:p.now≤600000):
  ACalls Tryz.prog n_isobarlaw21_play_do [.ptr k 0,.agg (shC s),.agg (actC act)] σ (DoR q a k' σ k p act.dots.length):=by
 by_cases h3:act.kind%5=3
 ·exact do_sync hP ha hk' hA act hact h3 hn1
 ·by_cases h4:act.kind%5=4
  ·exact do_comp hT hP ha hk' hA act hact h4 hn1
  ·exact do_append hT hP ha hk' hA act hact ⟨h3,h4⟩ hd hn1 hn2
def alPt:List ArrM:= [⟨100,5,101⟩]
theorem alPt_ok:∀x∈alPt,OkA x∧OkV x:=by
 intro x hx
 simp only [alPt,List.mem_singleton] at hx
 subst hx
 exact ⟨⟨by decide,by decide,by decide,by decide,⟨by decide,by decide⟩⟩,by unfold OkV;decide⟩
def alSh1:ShM:=appendS (newS 2000) (metOf (newS 2000) [97]) alPt
def alPl1:PlayM:=addC ⟨fun _=> [],fun _=>0,1000⟩ 0 alPt 1000
def alSh2:ShM:=compS alSh1 (metOf alSh1 [97]) (compB (metOf alSh1 [97]))
theorem alMet:metOf (newS 2000) [97]=freshM (newS 2000) [97]:=metOf_no (by simp [newS,hasK])
theorem alFit1:(bytesA (metOf (newS 2000) [97]) alPt).length≤(newS 2000).disk.quota-usedM (newS 2000).disk:=by
 rw [alMet]
 decide+kernel
theorem alInv1:PlayInv alSh1 alPl1 2000 1 1:=play_append (n:=0) (play_new (q:=2000) (by decide)) (by decide) (by decide) alPt_ok (by decide) (by decide) alFit1 1000
theorem alFit2:(compB (metOf alSh1 [97])).length≤alSh1.disk.quota-usedM alSh1.disk:=by
 decide+kernel
theorem alInv2:PlayInv alSh2 alPl1 2000 2 1:=play_comp (n:=0) alInv1 (by decide) (by decide) ((alInv1.has 0 (by decide)).2 (by decide)) alFit2
theorem alNms2:alSh2.disk.names.map (·.name)= [[49,46,50,46,99]]:=by
 decide+kernel
theorem alBas2:(metOf alSh2 [97]).base=2:=by
 decide+kernel
theorem alive_ok (hT:Steps G):PCalls Tryz.prog n_isobarlaw21_alive [] (fun r=>r=.bool true):=by
 refine pcalls_of_awp hmix c_isobarlaw21_alive rfl ?_
 have k1:=sNew_ok (G:=G) 2000 (by decide)
 have hI0:=(play_new (q:=2000) (by decide)).inv
 have k2:=sAppend_ok (G:=G) hT hI0 (by decide) (by decide) (p:= [97]) (by decide) alPt (fun x hx=>(alPt_ok x hx).1) (by decide)
 have k3:=sComp_ok (G:=G) hT alInv1.inv (by decide) (by decide) (p:= [97]) (by decide)
 have hh2:hasK kM alSh2.mets [97]:=(alInv2.has 0 (by decide)).2 (by decide)
 obtain ⟨hg,hpt⟩:=metOf_has alInv2.inv.srt hh2
 have k4:=sFind_has (G:=G) alSh2 [97] alInv2.inv.srt (by have:=alInv2.inv.len;omega) hg hpt
 have k5:=fun σ=>dlist_ok (G:=G) σ alSh2.disk alInv2.inv.size.right (alInv2.inv.size.fits (by decide) (by decide))
 have k6:=fold_ok (G:=G) alPt alPt_ok (by decide)
 have k7:=r14Same_ok (G:=G) (metOf alSh2 [97]).lad (alInv2.inv.met (p:= [97]) (by decide)).lad
 have hl:foldF newL alPt=(metOf alSh2 [97]).lad:=(alInv2.lad 0 (by decide)).symm
 have e1:appendR (newS 2000) [97] alPt=.tup [.agg (shC alSh1),.int .i64 0]:=by
  unfold appendR
  rw [if_pos (fun x hx=>(alPt_ok x hx).2),if_neg (by decide),if_pos alFit1]
  rfl
 have e2:compR alSh1 [97]=.tup [.agg (shC alSh2),.int .i64 0]:=by
  unfold compR
  have hh1:hasK kM alSh1.mets [97]:=(alInv1.has 0 (by decide)).2 (by decide)
  rw [if_pos hh1,if_pos alFit2]
  rfl
 rw [e1] at k2
 rw [e2] at k3
 rw [hl] at k6
 simp only [shC,diskC] at k1 k2 k3 k4 k5
 simp only [schC,alPt,arrsC,List.map,arrC] at k2 k6
 simp only [ladC] at k6 k7
 simp [a_isobarlaw21_alive]
 refine ac_same k1 (by simp) ?_
 rintro r rfl
 simp [shC]
 refine qc_any lplain_ok (by simp) ?_
 simp [splice,schC]
 refine qc_any k2 (by simp [AV.pure]) ?_
 simp [splice]
 refine ac_same k3 (by simp [AV.pure]) ?_
 rintro r rfl
 simp [splice]
 refine ac_same k4 (by simp [AV.pure]) ?_
 rintro r rfl
 simp [splice,metC]
 refine ac_eff (k5 _) ?_
 rintro r σ' ⟨rfl,rfl⟩
 have hnl:alSh2.disk.names.length=1:=by have:=congrArg List.length alNms2;simpa using this
 have hst:strsC (alSh2.disk.names.map (·.name))= [[.str [49,46,50,46,99]]]:=by rw [alNms2];rfl
 have hb2:=alBas2
 simp [splice,metC,hnl,hst,hb2]
 refine qc_any lplain_ok (by simp) ?_
 simp [splice,schC]
 refine qc_any k6 (by simp [AV.pure]) ?_
 simp
 refine qc_any k7 (by simp [AV.pure]) ?_
 simp
end Go.Proofs.YtdbhocoeolhjhaaGreatDoor
end
section
set_option maxHeartbeats 16000000
namespace Go.Proofs.YtdbhocoeolhjhaaGreatDoor
open Go.Abs Go.RowKit Go.Sf Go.Num
variable {G:Globs}
def shV (s:ShM):Entry:=.var 33 (shC s)
theorem PlayAt.more {σ:Store} {k:Nat} {p:PlayM} {C0 C1 C2 C3:AV} (h:PlayAt σ k p C0 C1 C2 C3) (t:Store):PlayAt (σ++t) k p C0 C1 C2 C3:=⟨get_lt h.at' t,h.c0.more t,h.c1.more t,h.c2.more t,h.c3.more t⟩
theorem PlayAt.kept {σ σ':Store} {k j:Nat} {p:PlayM} {C0 C1 C2 C3:AV} {t:TypeId} {c:List AV} (h:PlayAt σ k p C0 C1 C2 C3) (hj:σ[j]? =some (.var t c)) (hne:k≠j) (hK:Kept σ σ' j):PlayAt σ' k p C0 C1 C2 C3:=
 ⟨by rw [hK.get k (List.getElem?_eq_some_iff.1 h.at').1 hne];exact h.at',h.c0.kept hj hK,h.c1.kept hj hK,h.c2.kept hj hK,h.c3.kept hj hK⟩
theorem sumT_le {l:List ActM} (i:Nat):((l.take i).map fun a=>a.dots.length).sum≤(l.map fun a=>a.dots.length).sum:=by
 have e:l.map (fun a=>a.dots.length)=(l.take i).map (fun a=>a.dots.length)++(l.drop i).map fun a=>a.dots.length:=by rw [←List.map_append,List.take_append_drop]
 rw [e,List.sum_append];omega
theorem plays_ok (hT:Steps G) (l:List ActM) (hl:l.length≤1000000000000000) (hd:∀a∈l,a.dots.length≤1000000000000000) (ho:∀a∈l,OkAct a) (q:Nat) (hq:q≤65535):PCalls Tryz.prog n_isobarlaw21_ShelfPlays [.lst (actsC l),.int .u16 q] (fun r=>r=.bool true):=by
 refine pcalls_of_awp hmix c_isobarlaw21_ShelfPlays rfl ?_
 have hle:=actsC_len l
 have hwq:IntKind.i64.wrap (q:Int)=q:=wrap_i64 (by omega) (by omega)
 simp [a_isobarlaw21_ShelfPlays]
 refine ac_same (alive_ok hT) (by simp) ?_
 rintro r rfl
 simp
 refine ac_same (lgreat_ok l hl hd) (by simp [AV.pure]) ?_
 rintro r rfl
 by_cases hg:greatA l=true
 ·simp [hg]
 have hg':greatA l=false:=by simpa using hg
 have hn:l.length≤60:=by
  unfold greatA at hg'
  simp at hg';omega
 have ht:totalA l≤300:=by
  unfold greatA at hg'
  simp at hg';omega
 simp [hg',hwq]
 refine ac_same (sNew_ok q (by omega)) (by simp) ?_
 rintro r rfl
 simp [splice,shC]
 refine lp_startx (fun x f σ=>∃(i:Nat) (s:ShM) (p:PlayM) (C0 C1 C2 C3:AV) (tl:Store),x=l.length-i∧i≤l.length∧f 0=.lst (actsC l)∧f 1=.int .u16 q∧f 5=.ptr 0 0∧f 6=.int .i64 0∧f 7=.ptr 1 0∧f 8=.int .i64 i∧PlayInv s p q i i∧1000≤p.now∧p.now≤1000+30*((l.take i).map fun a=>a.dots.length).sum∧PlayAt (shV s::tl) 1 p C0 C1 C2 C3∧σ=shV s::tl) l.length ?_ ?_
 ·exact ⟨0,newS q,⟨fun _=> [],fun _=>0,1000⟩,.nils,.nils,.nils,.nils,[.var 42 (plC .nils .nils .nils .nils 0 0 0 0 1000)],by simp,by simp,by simp,by simp,by simp,by simp,by simp,by simp,play_new hq,by simp,by simp,⟨rfl,.inl ⟨rfl,rfl⟩,.inl ⟨rfl,rfl⟩,.inl ⟨rfl,rfl⟩,.inl ⟨rfl,rfl⟩⟩,by simp [shV,shC,plC]⟩
 rintro x f σ ⟨i,s,p,C0,C1,C2,C3,tl,rfl,hi,f0,f1,f5,f6,f7,f8,hP,hn1,hn2,hA,rfl⟩
 have hsum:=sumT_le (l:=l) i
 unfold totalA at ht
 simp [f0,f8,hle]
 refine cb_dec (fun hlt=> ?_) (fun hge=> ?_)
 ·have hlt':i<l.length:=by omega
  have hwi:IntKind.i64.wrap ((i:Int)+1)=((i+1:Nat):Int):=by rw [wrap_i64 (by omega) (by omega)];omega
  obtain ⟨a,ha⟩:∃a,l[i]? =some a:=⟨_,List.getElem?_eq_getElem hlt'⟩
  have hc:=actsC_get ha
  obtain ⟨hx1,hx2⟩:=List.getElem?_eq_some_iff.1 hc
  have hact:=ho a (List.mem_of_getElem? ha)
  have hsn:l.take (i+1)=l.take i++ [a]:=by rw [List.take_add_one,ha];rfl
  have hsum1:=sumT_le (l:=l) (i+1)
  rw [hsn,List.map_append,List.sum_append] at hsum1
  simp only [List.map_cons,List.map_nil,List.sum_cons,List.sum_nil] at hsum1
  have hdl:a.dots.length≤300:=by omega
  have kDo:=do_ok (G:=G) hT hP (by omega) (by omega) hA a hact hdl hn1 (by omega)
  have hSV:shV s=.var 33 (shC s):=rfl
  simp
  refine ⟨?_, ?_⟩
  ·simp [f0,f1,f5,f6,f7,f8,hc,hx2,hSV,shC,actC]
   refine ac_eff kDo ?_
   rintro r σ' ⟨s',p',e,D0,D1,D2,D3,rfl,he,hP',hA',hK',hm1,hm2⟩
   obtain ⟨t',rfl⟩:∃t',σ'=shV s::t':=by
    have h0:=hK'.get 0 (by simp) (by decide)
    match σ',h0 with
    |x::t',h0=>exact ⟨t',by simpa using h0⟩
   have hk0:(shV s::t')[0]? =some (.var 33 (shC s)):=rfl
   have kU:=dused_ok (G:=G) s'.disk (hP'.inv.size.fits (by omega) (by omega))
   have kR:=dright_ok (G:=G) s'.disk hP'.inv.size.right (hP'.inv.size.fits (by omega) (by omega))
   have hus:=hP'.inv.size.right.used
   rw [hP'.quota] at hus
   have he':¬e=22:=he
   have huq:¬(q:Int)<usedM s'.disk:=by omega
   simp only [diskC] at kU kR
   simp [tail_get,tail_set,splice,hSV,shC,he']
   refine ac_same kU (by simp [AV.pure]) ?_
   rintro r rfl
   simp [tail_get,tail_set,splice,hwq,f1,huq,hus]
   refine ac_same kR (by simp [AV.pure]) ?_
   rintro r rfl
   simp [tail_get,tail_set,splice,f8,f5,hwi]
   refine nx_intro (l.length-(i+1)) (by omega) ⟨i+1,s',p',D0,D1,D2,D3,t'++ [shV s'],rfl,by omega,by simp [f0],by simp [f1],by simp [f5],by simp [f6],by simp [f7],by simp,hP',hm1, ?_,hA'.kept hk0 (by decide) (kept_set (k:=0) (shV s') [shV s']),by simp [shV,shC]⟩
   rw [hsn,List.map_append,List.sum_append]
   simp only [List.map_cons,List.map_nil,List.sum_cons,List.sum_nil]
   omega
  ·simp [f0,f1,f5,f6,f7,f8,hc,hx2,hSV,shC,actC]
   refine ac_eff (do_ok (G:=G) hT hP (by omega) (by omega) (hA.more [_]) a hact hdl hn1 (by omega)) ?_
   rintro r σ' ⟨s',p',e,D0,D1,D2,D3,rfl,he,hP',hA',hK',hm1,hm2⟩
   obtain ⟨z,hz⟩:∃z:Entry,z=.var 33 [.int .i64 0,.nils,.nils,.nils,.nils,.int .i64 0,.nils,.int .i64 0,.int .i64 0,.bool false]:=⟨_,rfl⟩
   obtain ⟨t',rfl⟩:∃t',σ'=shV s::t':=by
    have h0:=hK'.get 0 (by simp) (by decide)
    match σ',h0 with
    |x::t',h0=>exact ⟨t',by simpa using h0⟩
   have htl:1≤tl.length:=by
    have:=(List.getElem?_eq_some_iff.1 hA.at').1
    simp at this;omega
   have hzt:t'[tl.length]? =some (.var 33 [.int .i64 0,.nils,.nils,.nils,.nils,.int .i64 0,.nils,.int .i64 0,.int .i64 0,.bool false]):=by
    have h0:=hK'.get (tl.length+1) (by simp) (by omega)
    simpa using h0
   have hzs:∀x:Entry,(t'.set tl.length x)[tl.length]? =some x:=fun x=>get_set hzt x
   have hk0:(shV s::t')[0]? =some (.var 33 (shC s)):=rfl
   have hk1:(shV s'::t')[tl.length+1]? =some (.var 33 [.int .i64 0,.nils,.nils,.nils,.nils,.int .i64 0,.nils,.int .i64 0,.int .i64 0,.bool false]):=by simpa using hzt
   have kU:=dused_ok (G:=G) s'.disk (hP'.inv.size.fits (by omega) (by omega))
   have kR:=dright_ok (G:=G) s'.disk hP'.inv.size.right (hP'.inv.size.fits (by omega) (by omega))
   have hus:=hP'.inv.size.right.used
   rw [hP'.quota] at hus
   have he':¬e=22:=he
   have huq:¬(q:Int)<usedM s'.disk:=by omega
   simp only [diskC] at kU kR
   simp [hzt,hzs,splice,hSV,shC,he']
   refine ac_same kU (by simp [AV.pure]) ?_
   rintro r rfl
   simp [hzt,hzs,splice,hwq,f1,huq,hus]
   refine ac_same kR (by simp [AV.pure]) ?_
   rintro r rfl
   simp [hzt,hzs,splice,f8,f5,hwi]
   have hA1:PlayAt (shV s'::t') 1 p' D0 D1 D2 D3:=by
    have:=hA'.kept hk0 (by decide) (kept_set (k:=0) (shV s') [])
    simpa using this
   have hA2:PlayAt (shV s'::t'.set tl.length (shV s')) 1 p' D0 D1 D2 D3:=by
    have:=hA1.kept hk1 (by omega) (kept_set (k:=tl.length+1) (shV s') [])
    simpa using this
   refine nx_intro (l.length-(i+1)) (by omega) ⟨i+1,s',p',D0,D1,D2,D3,t'.set tl.length (shV s'),rfl,by omega,by simp [f0],by simp [f1],by simp [f5],by simp [f6],by simp [f7],by simp,hP',hm1, ?_,hA2,by simp [shV,shC]⟩
   rw [hsn,List.map_append,List.sum_append]
   simp only [List.map_cons,List.map_nil,List.sum_cons,List.sum_nil]
   omega
 ·have hil:i=l.length:=by omega
  subst hil
  clear hn2
  simp [f5]
  refine lp_startx (fun x g σ=>∃(j:Nat) (tl:Store),x=4-j∧j≤4∧g 5=.ptr 0 0∧g 6=.int .i64 0∧g 7=.ptr 1 0∧g 12=.int .i64 j∧PlayAt (shV s::tl) 1 p C0 C1 C2 C3∧σ=shV s::tl) 4 ?_ ?_
  ·exact ⟨0,tl,by simp,by simp,by simp [f5],by simp [f6],by simp [f7],by simp,hA,rfl⟩
  clear hA f5 f6 f7 f8 f0 f1 tl
  rintro x g σ ⟨j,tl,rfl,hj,f5,f6,f7,f12,hA,rfl⟩
  have hSV:shV s=.var 33 (shC s):=rfl
  simp [f12]
  refine cb_dec (fun hlt=> ?_) (fun hge=> ?_)
  ·have hj4:j<4:=by omega
   have hwj:IntKind.u8.wrap (j:Int)=j:=by
    match j,hj4 with
    |0,_=>rfl
    |1,_=>rfl
    |2,_=>rfl
    |3,_=>rfl
   have hw8:IntKind.i64.wrap ((j:Int)+1)=((j+1:Nat):Int):=by rw [wrap_i64 (by omega) (by omega)];omega
   have kNm:=lname_ok (G:=G) j (by omega)
   obtain ⟨Cj,hcj,hTD⟩:=pick4 hA hj4
   have hk1:=hA.at'
   have oj:=hcj.low.one
   have hj9:j+1≤9:=by omega
   simp only [plC] at hk1
   have hk1':tl[0]? =some (.var 42 [C0,C1,C2,C3,.int .i64 (p.sure 0:Nat),.int .i64 (p.sure 1:Nat),.int .i64 (p.sure 2:Nat),.int .i64 (p.sure 3:Nat),.int .i64 p.now]):=by simpa using hk1
   obtain ⟨t,rfl⟩:∃t,tl=.var 42 [C0,C1,C2,C3,.int .i64 (p.sure 0:Nat),.int .i64 (p.sure 1:Nat),.int .i64 (p.sure 2:Nat),.int .i64 (p.sure 3:Nat),.int .i64 p.now]::t:=by
    match tl,hk1' with
    |x::t,h=>exact ⟨t,by simpa using h⟩
   have hlen:=hP.inv.len
   simp [f12,f5,f7,hwj,hSV,shC]
   refine qc_any kNm (by simp) ?_
   simp
   by_cases hh:hasK kM s.mets (pathOf j)
   ·obtain ⟨hg,hpt⟩:=metOf_has hP.inv.srt hh
    have kF:=sFind_has (G:=G) s (pathOf j) hP.inv.srt (by omega) hg hpt
    have hc0:p.came j≠ []:=(hP.has j hj4).1 hh
    simp only [shC] at kF
    refine qc_any kF (by simp [AV.pure]) ?_
    have vj:=fun X=>(hcj.more X).view
    simp only [shV,shC,List.cons_append] at vj
    have hne:¬arrsC (p.came j)= []:=fun h=>hc0 (by simpa [arrsC] using h)
    have kFo:=fold_ok (G:=G) (p.came j) (hP.ok j hj4) (by have:=hP.len j hj4;omega)
    have kSm:=r14Same_ok (G:=G) (metOf s (pathOf j)).lad (hP.inv.met (pathOf_mem j)).lad
    have hcl:=arrsC_len (p.came j)
    rw [←hP.lad j hj4] at kFo
    simp only [ladC] at kFo kSm
    have kSc:=sameSchema_ok (G:=G)
    simp [splice,metC,hTD,oj,hj9,hj4,oneOf,f7,f12,vj,hne,hcl,hc0]
    refine qc_any lplain_ok (by simp) ?_
    simp [f7,f12,hTD,oj,hj9,hj4,oneOf,splice]
    refine qc_coe kFo (.cons (.pure _ (by simp [AV.pure,schC])) (.cons (by have:=(hcj.more [.var 57 (metC (metOf s (pathOf j)))]).coe false;simpa [shV,shC,metC] using this) .nil)) ?_
    simp
    refine qc_any kSm (by simp [AV.pure]) ?_
    simp
    refine qc_any lplain_ok (by simp) ?_
    simp
    refine qc_any kSc (by simp [AV.pure,schC]) ?_
    simp [f12,hw8]
    refine nx_intro (4-(j+1)) (by omega) ⟨j+1,_,rfl,by omega,by simp [f5],by simp [f6],by simp [f7],by simp,hA.more [.var 57 (metC (metOf s (pathOf j)))],by simp [shV,shC,metC]⟩
   ·have kF:=sFind_no (G:=G) s (pathOf j) hP.inv.srt (by omega) hh
    have hc0:p.came j= []:=Classical.byContradiction fun h=>hh ((hP.has j hj4).2 h)
    simp only [shC] at kF
    refine qc_any kF (by simp [AV.pure]) ?_
    have vj:=fun X=>(hcj.more X).view
    rw [hc0] at vj
    have hz:arrsC []= []:=rfl
    simp only [hz,shV,shC,List.cons_append] at vj
    simp [splice,zeroM,hTD,oj,hj9,hj4,oneOf,f7,f12,vj,hw8]
    refine nx_intro (4-(j+1)) (by omega) ⟨j+1,_,rfl,by omega,by simp [f5],by simp [f6],by simp [f7],by simp,hA.more [.var 57 zeroM],by simp [shV,shC,zeroM]⟩
  ·simp [f6]
end Go.Proofs.YtdbhocoeolhjhaaGreatDoor
end
section
namespace Go.Abs
open Go.RowKit
def noKey:Key:=fun _ _=>none
def gIm [Globs]:Addr→Prop:=fun a=>a.spot=none∧∃p∈Globs.tab,a.block=p.1
def GlobsIn [Globs] (w:World):Prop:=GOK w.heap.size gIm w
end Go.Abs
end
section
namespace Go.Abs
open Go.RowKit
def oldIm (w:World):Addr→Prop:=fun a=>a.spot=none∧a.block<w.heap.size
theorem law_calls_old {G:Globs} {P:Program} {f:FuncId} {args:List AV} {vs:List Value} {w:World} (h:PCalls P f args (fun r=>r=.bool true)) (hg:GlobsIn w) (hv:IRL (oldIm w) w args vs):Calls P f vs.toArray w fun e w'=>e=.returned (.bool true)∧Below w.heap.size w w':=by
 have hG:GOK w.heap.size (oldIm w) w:=fun p hp=>by
  obtain ⟨h1,h2,h3⟩:=hg p hp
  refine ⟨h1,h2,h3.mono (fun a ha=> ?_) (fun _ _=>rfl)⟩
  obtain ⟨ha1,q,hq,ha2⟩:=ha
  exact ⟨ha1,by rw [ha2];exact (hg q hq).1⟩
 have hS:SRel w.heap.size noKey (oldIm w) [] w:=⟨Nat.le_refl _,fun id n v h=>by simp [noKey] at h,fun id e h=>by simp at h,fun i j e e' b _ h=>by simp at h,fun a h=>⟨h.2,h.1⟩,hG⟩
 refine (h w.heap.size noKey (oldIm w) w vs hS ⟨hv.1,fun j h h'=> .im _ _ (hv.2 j h h')⟩).mono ?_
 rintro e w' ⟨r,σ',v,κ',Im',rfl,⟨_,rfl⟩,_,hg,hr⟩
 exact ⟨by rw [hr.bool_inv],hg.below⟩
theorem iro_nil {Im:Addr→Prop} (w:World):IRL Im w [] []:=⟨rfl,fun j h=>by simp at h⟩
theorem iro_cons {Im:Addr→Prop} {w:World} {a:AV} {v:Value} {l:List AV} {vs:List Value} (h:IR Im w a v) (hl:IRL Im w l vs):IRL Im w (a::l) (v::vs):=by
 refine ⟨by simp [hl.1],fun j hj hj'=> ?_⟩
 cases j with
 |zero=>exact h
 |succ j=>exact hl.2 j (by simpa using hj) (by simpa using hj')
end Go.Abs
namespace Go.Proofs.YtdbhocoeolhjhaaGreatDoor
open Go.ChangeShapes Go.WideShapes Go.ChangeAt Go.RowKit Go.ChangeMaps Go.Abs Go.Sf
section
variable {H:Type} {enc:TypeId×Value→H} {w:World} {base:Nat} {spare:Nat→Bool} {held:Bool} {P:Program}
theorem spot_of {a:Addr} {n:Nat} {cs:List Value} (h:w.cells? base a (n+1)=some cs):a.spot=none:=by
 unfold World.cells? at h
 split at h
 ·obtain ⟨y,_,hy⟩:∃y,cs[0]? =some y∧w.cell? (a.add 0)=some y:=by
   have hl:=Lib.mapM_at h 0 0 (by simp)
   simpa using hl
  have e:a.add 0=a:=by simp [Addr.add]
  rw [e] at hy
  unfold World.cell? at hy
  split at hy
  ·split at hy
   ·cases hy
   ·rename_i hs;simpa using hs
  ·cases hy
 ·cases h
theorem spot_row {a:Addr} {len cap size:Nat} {elems rest:List (DataW H×List MemPlace)} {n:Nat} {e:TypeId} (hc:cap≠0) (hlen:elems.length=len)
  (hel:∀i,i<len→(w.cells? base (a.add (i*(size+1))) (size+1)).bind (DataW.trod enc P w base spare held n e)=elems[i]?)
  (hrl:rest.length=cap-len) (hre:∀j,j<cap-len→(w.cells? base (a.add ((len+j)*(size+1))) (size+1)).bind (DataW.trod enc P w base spare held n e)=rest[j]?):a.spot=none:=by
 have key:∃cs,w.cells? base (a.add (0*(size+1))) (size+1)=some cs:=by
  rcases Nat.eq_zero_or_pos len with h0|h0
  ·have h1:=hre 0 (by omega)
   obtain ⟨y,hy⟩:∃y,rest[0]? =some y:=⟨_,List.getElem?_eq_getElem (by omega)⟩
   rw [hy,Option.bind_eq_some_iff,h0,Nat.zero_add] at h1
   obtain ⟨cs,hcs,_⟩:=h1
   exact ⟨cs,hcs⟩
  ·have h1:=hel 0 h0
   obtain ⟨y,hy⟩:∃y,elems[0]? =some y:=⟨_,List.getElem?_eq_getElem (by omega)⟩
   rw [hy,Option.bind_eq_some_iff] at h1
   obtain ⟨cs,hcs,_⟩:=h1
   exact ⟨cs,hcs⟩
 obtain ⟨cs,hcs⟩:=key
 have e:a.add (0*(size+1))=a:=by simp [Addr.add]
 rw [e] at hcs
 exact spot_of hcs
theorem weightsAll_mem {e:TypeId} {d:DataW H} {q:Nat}:∀{ds:List (DataW H)},d∈ds→q∈d.weights P e→q∈DataW.weightsAll P e ds
 |d0::ds,h,hq=>by
  simp only [DataW.weightsAll,List.mem_append]
  rcases List.mem_cons.1 h with rfl|h
  ·exact .inl hq
  ·exact .inr (weightsAll_mem h hq)
theorem rows_cells {α:Type} {tS te:TypeId} {size bytes:Nat} (hu:P.underlying tS=some (.slice te)) (hce:P.cellsOf te=size+1) (hbe:P.bytesOf te=bytes) (C:α→List AV) (dflt:α) (good:α→DataW H→Prop)
  (hone:∀a,∀x∈C a,x.one=true) (hClen:∀a,(C a).length=size+1)
  (hel0:∀{n:Nat} {cs:List Value} {y:DataW H×List MemPlace},DataW.trod enc P w base spare held n te cs=some y→∃a,good a y.1∧∀j (h:j<(C a).length),∃c,cs[j]? =some c∧IR (oldIm w) w (C a)[j] c)
  (hsp:∀b,spare b=true) {n:Nat} {c:Value} {x:DataW H×List MemPlace} (hf:DataW.trod enc P w base spare held n tS [c]=some x):
  ∃l:List α,(∀a∈l,∃d,good a d∧∀q∈d.weights P te,q∈x.1.weights P tS)∧(l= []∨∃q∈x.1.weights P tS,l.length*bytes≤q)∧IR (oldIm w) w (.lst (l.map C)) c:=by
 rcases DataW.trod_slice hu hf with ⟨hcs,hx⟩|⟨a,len,cap,elems,rest,n,_,hcs,hx,hb,hl,hm,hlen,hel,hre,_⟩
 ·simp only [List.cons.injEq,and_true] at hcs
  subst hcs
  exact ⟨[],by simp,.inl rfl,.lnil none⟩
 ·simp only [List.cons.injEq,and_true] at hcs
  subst hcs
  obtain ⟨hrl,hre⟩:=hre (hsp _)
  rw [hce] at hel hre
  by_cases hcap:cap=0
  ·have:len=0:=by omega
   subst this;subst hcap
   exact ⟨[],by simp,.inl rfl,.lnil _⟩
  have hspot:a.spot=none:=spot_row (size:=size) hcap hlen hel hrl hre
  obtain ⟨b,o,sp⟩:=a
  simp only at hspot
  subst hspot
  have aa:∀x y:Nat,Addr.add ⟨b,x,none⟩ y=⟨b,x+y,none⟩:=fun x y=>by unfold Addr.add;split<;>simp_all
  have each:∀i,∃s:α,i<len→(∃y,elems[i]? =some y∧good s y.1)∧∀j (h:j<(C s).length),∃c,w.cell? ⟨b,o+(i*(size+1)+j),none⟩=some c∧IR (oldIm w) w (C s)[j] c:=by
   intro i
   by_cases hi:i<len
   ·have h1:=hel i hi
    obtain ⟨y,hy⟩:∃y,elems[i]? =some y:=⟨_,List.getElem?_eq_getElem (by omega)⟩
    rw [hy,Option.bind_eq_some_iff] at h1
    obtain ⟨cs,hc1,hc2⟩:=h1
    obtain ⟨s,hs,hir⟩:=hel0 hc2
    refine ⟨s,fun _=>⟨⟨y,hy,hs⟩,fun j hj=> ?_⟩⟩
    obtain ⟨c,e1,e2⟩:=hir j hj
    refine ⟨c, ?_,e2⟩
    unfold World.cells? at hc1
    split at hc1
    ·obtain ⟨c',e3,e4⟩:=Lib.mapM_at hc1 j j (by rw [hClen] at hj;simp [hj])
     rw [aa,aa,Nat.add_assoc] at e4
     rw [e1] at e3
     cases e3
     exact e4
    ·cases hc1
   ·exact ⟨dflt,fun h=>absurd h hi⟩
  obtain ⟨f,hfs⟩:=Classical.axiomOfChoice each
  have hdd:x.1=.slice (elems.map (·.1)) (rest.map (·.1)):=congrArg Prod.fst hx
  refine ⟨(List.range len).map f, ?_,.inr ?_, ?_⟩
  ·intro s hs
   simp only [List.mem_map,List.mem_range] at hs
   obtain ⟨i,hi,rfl⟩:=hs
   obtain ⟨y,hy,hg⟩:=(hfs i hi).1
   refine ⟨y.1,hg,fun q hq=> ?_⟩
   rw [hdd]
   simp only [DataW.weights,hu]
   exact List.mem_cons_of_mem _ (List.mem_append.2 (.inl (weightsAll_mem (d:=y.1) (List.mem_map.2 ⟨y,List.mem_of_getElem? hy,rfl⟩) hq)))
  ·rw [hdd]
   refine ⟨((elems.map (·.1)).length+(rest.map (·.1)).length)*P.bytesOf te, ?_, ?_⟩
   ·simp only [DataW.weights,hu]
    exact List.Mem.head _
   ·rw [hbe]
    refine Nat.mul_le_mul_right _ ?_
    simp;omega
  ·have hnl:(((List.range len).map f).map C).length=len:=by simp
   have hold:∀i j v,w.cell? ⟨b,o+(i*(size+1)+j),none⟩=some v→oldIm w ⟨b,o+(i*(size+1)+j),none⟩:=fun i j v h=>by
    refine ⟨rfl, ?_⟩
    rcases Nat.lt_or_ge b w.heap.size with h'|h'
    ·exact h'
    ·simp [World.cell?,Array.getElem?_eq_none h'] at h
   have:=IR.lst (Im:=oldIm w) (w:=w) (((List.range len).map f).map C) (size+1) b o cap
    (fun i j=>(w.cell? ⟨b,o+(i*(size+1)+j),none⟩).getD undef) (by rw [hnl];exact hl) hm
    (fun c hc=>by
     obtain ⟨s,_,rfl⟩:=List.mem_map.1 hc
     exact hClen s)
    (fun c hc x hx=>by
     obtain ⟨s,_,rfl⟩:=List.mem_map.1 hc
     exact hone s x hx)
    (fun k j hk hj=>by
     rw [hnl] at hk
     obtain ⟨c,hc,_⟩:=(hfs k hk).2 j (by rw [hClen];exact hj)
     exact ⟨hold k j _ hc,by rw [hc];rfl⟩)
    (fun k j hk hj=>by
     rw [hnl] at hk
     have e:(((List.range len).map f).map C)[k]=C (f k):=by simp
     have hj':j<(C (f k)).length:=by rw [←e];exact hj
     obtain ⟨c,hc,hir⟩:=(hfs k hk).2 j hj'
     simp only [hc,Option.getD_some,e]
     exact hir)
   rw [hnl] at this
   exact this
end
section
variable {H:Type} {enc:TypeId×Value→H} {w:World} {base:Nat} {spare:Nat→Bool} {held:Bool}
theorem u8_sizeS:Tryz.prog.cellsOf 5=1:=by kernel_rfl
theorem i64_sizeS:Tryz.prog.cellsOf 2=1:=by kernel_rfl
theorem dot_size:Tryz.prog.cellsOf 163=2+1:=by kernel_rfl
theorem dot_bytes:Tryz.prog.bytesOf 163=16:=by kernel_rfl
theorem dots_size:Tryz.prog.cellsOf 45=1:=by kernel_rfl
theorem act_size:Tryz.prog.cellsOf 47=2+1:=by kernel_rfl
theorem act_bytes:Tryz.prog.bytesOf 47=32:=by kernel_rfl
theorem u8n_of {n:Int} (h:(Lit.int .u8 n).wf=true):∃k:Nat,n=k∧k<256:=by
 have h1:IntKind.u8.min=0:=rfl
 have h2:IntKind.u8.max=255:=rfl
 simp only [Lit.wf,Bool.and_eq_true,decide_eq_true_eq] at h
 exact ⟨n.toNat,by omega,by omega⟩
theorem u16n_of {n:Int} (h:(Lit.int .u16 n).wf=true):∃k:Nat,n=k∧k≤65535:=by
 have h1:IntKind.u16.min=0:=rfl
 have h2:IntKind.u16.max=65535:=rfl
 simp only [Lit.wf,Bool.and_eq_true,decide_eq_true_eq] at h
 exact ⟨n.toNat,by omega,by omega⟩
theorem i64n_of {n:Int} (h:(Lit.int .i64 n).wf=true):i64 n:=by
 have h1:IntKind.i64.min= -9223372036854775808:=rfl
 have h2:IntKind.i64.max=9223372036854775807:=rfl
 simp only [Lit.wf,Bool.and_eq_true,decide_eq_true_eq] at h
 exact ⟨by omega,by omega⟩
set_option maxRecDepth 100000 in
theorem dot_cells {n:Nat} {cs:List Value} {y:DataW H×List MemPlace} (hf:DataW.trod enc Tryz.prog w base spare held n 163 cs=some y):
  ∃a:DotM,OkDot a∧∀j (h:j<(dotC a).length),∃c,cs[j]? =some c∧IR (oldIm w) w (dotC a)[j] c:=by
 obtain ⟨xs,n,rfl,hx,hl,hxl,hall⟩:=DataW.trod_struct Tryz.underlying163 hf
 have hx2:xs.length=3:=hxl
 obtain ⟨x0,x1,x2,rfl⟩:∃x0 x1 x2,xs= [x0,x1,x2]:=by
  match xs,hx2 with
  | [a,b,c],_=>exact ⟨a,b,c,rfl⟩
 have hl2:cs.length=3:=by rw [hl,dot_size]
 obtain ⟨c0,c1,c2,rfl⟩:∃c0 c1 c2,cs= [c0,c1,c2]:=by
  match cs,hl2 with
  | [a,b,c],_=>exact ⟨a,b,c,rfl⟩
 have h0:DataW.trod enc Tryz.prog w base spare held n 5 [c0]=some x0:=by simpa [u8_sizeS,Value.cells] using hall 0 _ rfl
 have h1:DataW.trod enc Tryz.prog w base spare held n 5 [c1]=some x1:=by simpa [u8_sizeS,Value.cells] using hall 1 _ rfl
 have h2:DataW.trod enc Tryz.prog w base spare held n 2 [c2]=some x2:=by simpa [i64_sizeS,Value.cells] using hall 2 _ rfl
 obtain ⟨m0,e0,_,w0⟩:=DataW.trod_int Tryz.underlying5 h0
 obtain ⟨m1,e1,_,w1⟩:=DataW.trod_int Tryz.underlying5 h1
 obtain ⟨m2,e2,_,w2⟩:=DataW.trod_int Tryz.underlying2 h2
 simp only [List.cons.injEq,and_true] at e0 e1 e2
 subst e0 e1 e2
 obtain ⟨k0,rfl,b0⟩:=u8n_of w0
 obtain ⟨k1,rfl,b1⟩:=u8n_of w1
 refine ⟨⟨k0,k1,m2⟩,⟨b0,b1,i64n_of w2⟩,fun j hj=> ?_⟩
 have hj':j<3:=hj
 match j,hj' with
 |0,_=>exact ⟨_,rfl,.int _ _⟩
 |1,_=>exact ⟨_,rfl,.int _ _⟩
 |2,_=>exact ⟨_,rfl,.int _ _⟩
set_option maxRecDepth 100000 in
theorem dots_cells (hsp:∀b,spare b=true) {n:Nat} {c:Value} {x:DataW H×List MemPlace} (hf:DataW.trod enc Tryz.prog w base spare held n 45 [c]=some x):
  ∃l:List DotM,(∀a∈l,OkDot a)∧(l= []∨∃q∈x.1.weights Tryz.prog 45,l.length*16≤q)∧IR (oldIm w) w (.lst (dotsC l)) c:=by
 obtain ⟨l,h1,h2,h3⟩:=rows_cells (good:=fun a _=>OkDot a) Tryz.underlying45 dot_size dot_bytes dotC ⟨0,0,0⟩ (fun a x hx=>by simp [dotC] at hx;rcases hx with rfl|rfl|rfl<;>rfl) (fun a=>rfl) (fun h=>dot_cells h) hsp hf
 exact ⟨l,fun a ha=>(h1 a ha).elim fun d h=>h.1,h2,h3⟩
def InAct (a:ActM) (d:DataW H):Prop:=OkAct a∧(a.dots= []∨∃q∈d.weights Tryz.prog 47,a.dots.length*16≤q)
set_option maxRecDepth 100000 in
theorem act_cells (hsp:∀b,spare b=true) {n:Nat} {cs:List Value} {y:DataW H×List MemPlace} (hf:DataW.trod enc Tryz.prog w base spare held n 47 cs=some y):
  ∃a:ActM,InAct a y.1∧∀j (h:j<(actC a).length),∃c,cs[j]? =some c∧IR (oldIm w) w (actC a)[j] c:=by
 obtain ⟨xs,n,rfl,hx,hl,hxl,hall⟩:=DataW.trod_struct Tryz.underlying47 hf
 have hx2:xs.length=3:=hxl
 obtain ⟨x0,x1,x2,rfl⟩:∃x0 x1 x2,xs= [x0,x1,x2]:=by
  match xs,hx2 with
  | [a,b,c],_=>exact ⟨a,b,c,rfl⟩
 have hl2:cs.length=3:=by rw [hl,act_size]
 obtain ⟨c0,c1,c2,rfl⟩:∃c0 c1 c2,cs= [c0,c1,c2]:=by
  match cs,hl2 with
  | [a,b,c],_=>exact ⟨a,b,c,rfl⟩
 have h0:DataW.trod enc Tryz.prog w base spare held n 5 [c0]=some x0:=by simpa [u8_sizeS,Value.cells] using hall 0 _ rfl
 have h1:DataW.trod enc Tryz.prog w base spare held n 5 [c1]=some x1:=by simpa [u8_sizeS,Value.cells] using hall 1 _ rfl
 have h2:DataW.trod enc Tryz.prog w base spare held n 45 [c2]=some x2:=by simpa [dots_size,Value.cells] using hall 2 _ rfl
 obtain ⟨m0,e0,_,w0⟩:=DataW.trod_int Tryz.underlying5 h0
 obtain ⟨m1,e1,_,w1⟩:=DataW.trod_int Tryz.underlying5 h1
 simp only [List.cons.injEq,and_true] at e0 e1
 subst e0 e1
 obtain ⟨k0,rfl,b0⟩:=u8n_of w0
 obtain ⟨k1,rfl,b1⟩:=u8n_of w1
 obtain ⟨l,hl1,hl2,hl3⟩:=dots_cells hsp h2
 have hww:∀q∈x2.1.weights Tryz.prog 45,q∈y.1.weights Tryz.prog 47:=fun q hq=>by
  have hdd:y.1=.agg ([x0,x1,x2].map (·.1)):=congrArg Prod.fst hx
  rw [hdd]
  simp only [DataW.weights,Tryz.underlying47]
  exact DataW.weights_mem_each (j:=2) rfl rfl q hq
 refine ⟨⟨k0,k1,l⟩,⟨⟨b0,b1,hl1⟩,hl2.imp id fun ⟨q,hq,hq2⟩=>⟨q,hww q hq,hq2⟩⟩,fun j hj=> ?_⟩
 have hj':j<3:=hj
 match j,hj' with
 |0,_=>exact ⟨_,rfl,.int _ _⟩
 |1,_=>exact ⟨_,rfl,.int _ _⟩
 |2,_=>exact ⟨_,rfl,hl3⟩
set_option maxRecDepth 100000 in
theorem open_acts (hsp:∀b,spare b=true) {r:Reach} {b0:Nat} {v:Value} {d:DataW H} {ps:List MemPlace} (hval:Value.okWide Tryz.prog w r b0 22 v) (hd:DataW.Trod enc Tryz.prog w base spare held 22 v d ps):
  ∃l:List ActM,(∀a∈l,OkAct a)∧(l= []∨∃q∈d.weights Tryz.prog 22,l.length*32≤q)∧(∀a∈l,a.dots= []∨∃q∈d.weights Tryz.prog 22,a.dots.length*16≤q)∧IR (oldIm w) w (.lst (actsC l)) v:=by
 obtain ⟨fuel,hf⟩:=hd
 obtain ⟨a0,len,cap,rfl⟩:=okWide_slice Tryz.underlying22 hval
 have hf':DataW.trod enc Tryz.prog w base spare held fuel 22 [.slice a0 len cap]=some (d,ps):=by simpa [Value.cells] using hf
 obtain ⟨l,h1,h2,h3⟩:=rows_cells (good:=InAct) Tryz.underlying22 act_size act_bytes actC ⟨0,0,[]⟩ (fun a x hx=>by simp [actC] at hx;rcases hx with rfl|rfl|rfl<;>rfl) (fun a=>rfl) (fun h=>act_cells hsp h) hsp hf'
 exact ⟨l,fun a ha=>(h1 a ha).elim fun d h=>h.1.1,h2,fun a ha=>(h1 a ha).elim fun d h=>h.1.2.imp id fun ⟨q,hq,hq2⟩=>⟨q,h.2 q hq,hq2⟩,h3⟩
theorem acts_len {l:List ActM} {W:List Nat} (h:l= []∨∃q∈W,l.length*32≤q) (hW:∀q∈W,q≤reachBytes):l.length≤1000000000000000:=by
 rcases h with rfl|⟨q,hq,h⟩
 ·simp
 ·have:=hW q hq
  have h2:reachBytes=140737488351232:=rfl
  omega
theorem dots_len {l:List ActM} {W:List Nat} (h:∀a∈l,a.dots= []∨∃q∈W,a.dots.length*16≤q) (hW:∀q∈W,q≤reachBytes):∀a∈l,a.dots.length≤1000000000000000:=fun a ha=>by
 rcases h a ha with h|⟨q,hq,h⟩
 ·rw [h];simp
 ·have:=hW q hq
  have h2:reachBytes=140737488351232:=rfl
  omega
end
end Go.Proofs.YtdbhocoeolhjhaaGreatDoor
end
section
namespace Go.Proofs.YtdbhocoeolhjhaaGreatDoor
open Go.ChangeShapes Go.WideShapes Go.ChangeAt Go.RowKit Go.ChangeMaps Go.Abs Go.Sf
theorem laidAt {P:Program} {w:World} {n:String} {d:DataW Unit}:∀{l:List (String×DataW Unit)},laidMet P l w→(n,d)∈l→∃r,laidMet P ((n,d)::r) w
 | [],_,hm=>by cases hm
 |x::l,h,hm=>by
  rcases List.mem_cons.1 hm with e|e
  ·subst e;exact ⟨l,h⟩
  ·exact laidAt h.tail e
theorem gok_one {P:Program} {w:World} {n:String} {g:Nat} {cs:Array Value} {avs:List AV} {Im:Addr→Prop} (hg:P.globalNamed n=some g) (hv:w.var? P n=some cs) (hlen:cs.size=avs.length)
  (hone:∀c∈avs,c.one=true) (hr:∀j (h:j<avs.length),IR Im w (avs[j]) ((cs[j]?).getD (.bool false))) (hIm:∀j,Im ⟨g,j,none⟩):
  g<w.heap.size∧(∃cs t fz,w.heap[g]? =some (.cells cs t fz)∧cs.size=avs.length)∧IR Im w (.rptr avs) (.pointer (some ⟨g,0,none⟩)):=by
 have h0:∃t fz,w.heap[g]? =some (.cells cs t fz):=by
  unfold World.var? at hv
  simp only [hg,Option.bind_some] at hv
  split at hv
  ·rename_i c t fz hh
   cases hv
   exact ⟨t,fz,hh⟩
  ·cases hv
 obtain ⟨t,fz,hh⟩:=h0
 refine ⟨?_,⟨cs,t,fz,hh,hlen⟩, ?_⟩
 ·rcases Nat.lt_or_ge g w.heap.size with h|h
  ·exact h
  ·rw [Array.getElem?_eq_none h] at hh;cases hh
 ·refine .rptr avs g 0 (fun j=>(cs[j]?).getD (.bool false)) hone (fun j hj=>⟨?_, ?_⟩) hr
  ·simpa using hIm j
  ·have:j<cs.size:=by omega
   simp [World.cell?,hh,this]
abbrev gStp:Nat:=2
instance sfGlobs:Globs:=⟨[(gStp,stepsC)]⟩
theorem steps_sf:Steps sfGlobs:=rfl
theorem gin_sf {l : List (String × DataW Unit)} {w : World} (h : laidMet Tryz.prog l w) (h1 : ("isobar/crc.steps", Rows.laid_isobar_crc_steps) ∈ l) : GlobsIn w := by
 intro p hp
 have hI:∀g,(∃p∈Globs.tab,g=p.1)→∀j,gIm ⟨g,j,none⟩:=fun g hg j=>⟨rfl,hg⟩
 rcases hp with _|⟨_,hp⟩
 ·obtain ⟨r,h⟩:=laidAt h h1
  have e:(Rows.laid_isobar_crc_steps:DataW Unit)=Lib.tabData .u32 stepsT:=by kernel_rfl
  rw [e] at h
  have:=Lib.tabIs_of_head (g:=gStp) (by kernel_rfl) (by kernel_rfl) Tryz.underlying364 Tryz.underlying286 (by kernel_rfl) (by kernel_rfl) h
  refine gok_one (n := "isobar/crc.steps") (by kernel_rfl) this (by simp [stepsC]) (by simp [AV.one, stepsC]) ?_ (hI _ ⟨_, List.Mem.head _, rfl⟩)
  intro j hj
  have hj':j<stepsT.length:=by simpa [stepsC] using hj
  simp [hj',stepsC]
  exact .int _ _
 ·cases hp
end Go.Proofs.YtdbhocoeolhjhaaGreatDoor
end
section
namespace Go.Proofs.YtdbhocoeolhjhaaGreatDoor
open Go.ChangeShapes Go.WideShapes Go.ChangeAt Go.RowKit Go.ChangeMaps Go.Abs
theorem Tryz.own:ownKnob Tryz.prog.godebug=none:=by kernel_rfl
theorem Tryz.laidOut:laidOutB Tryz.prog=true:=by kernel_rfl
set_option maxRecDepth 1000000 in
theorem splays_met (os:Os) (args:Array Value):laidMet Tryz.prog Rows.shelfPlaysRow.laid ((World.laidAll Tryz.prog os Rows.shelfPlaysRow.laid).forCall (fun _ _=>0) ⟨#[],args,[]⟩).memory:=
 laidMet_laidAll args (by kernel_rfl) (by kernel_rfl)
set_option maxRecDepth 100000 in
theorem splays_lifted (os:Os) (started:os.Started) (H:Type) (enc:TypeId×Value→H):
  ReturnsInHanded {} Tryz.checked os 3 .any (fun w args=>(Rows.shelfPlaysSpec.pre enc Tryz.prog Tryz.f3 Rows.shelfPlaysRow.domain false w args∧laidMet Tryz.prog Rows.shelfPlaysRow.laid w)∧sizedMet enc Tryz.prog Tryz.f3 (OpenSpec.ofChange Rows.shelfPlaysSpec) false w args)
   (Rows.shelfPlaysSpec.post enc Tryz.prog Tryz.f3 false true false false):=by
 refine returns_shaped_sz (C:=Tryz.checked) (X:=fun w _=>laidMet Tryz.prog Rows.shelfPlaysRow.laid w) (fun _ _ _ hh h=>h.of_heap hh) Tryz.own started (by kernel_rfl) Tryz.func3
  (witness_zip (enc:=enc) (C:=Tryz.checked) (os:=os) (X:=fun w _=>laidMet Tryz.prog Rows.shelfPlaysRow.laid w) (World.laidAll Tryz.prog os Rows.shelfPlaysRow.laid) #[.slice none 0 0,.int .u16 0] 8 (World.laidAll_os _ _ _) (by kernel_rfl) (by kernel_rfl) (by kernel_rfl) (by kernel_rfl) (by kernel_rfl) (splays_met os _)) ?_
 intro W base args ds gs before hshp hval0 hW hX hsz
 have hval:∀(j:Nat) t v,Tryz.f3.params[j]? =some t→args[j]? =some v→Value.okWide Tryz.prog W .any base t v:=hval0
 have hW':=hW
 obtain ⟨p,q,hA0,hV,rfl,hfz,hnd⟩:=hW
 have hA:DataW.TrodAll enc Tryz.prog W 0 (fun _=>true) true Tryz.f3.params.toList args.toList ds p:=hA0
 rw [Tryz.params3] at hA hval
 obtain ⟨v0,v1,d0,d1,pl0,pl1,rfl,rfl,rfl,h0,h1⟩:=trodAll_two hA
 obtain ⟨rfl,rfl⟩:=trodVars_none hV
 simp only [List.append_nil] at hW'
 have hlt0:∀x∈pl0,x.block<W.heap.size:=fun x hx=>by simpa using hW'.lt x (by simp [hx])
 have hlt1:∀x∈pl1,x.block<W.heap.size:=fun x hx=>by simpa using hW'.lt x (by simp [hx])
 have h0k:=h0
 obtain ⟨l0,ho0,hq0,hr0,hir0⟩:=open_acts (fun _=>rfl) (hval 0 _ v0 rfl rfl) h0
 have hW0:∀q∈d0.weights Tryz.prog 22,q≤reachBytes:=fun q hq=>of_decide_eq_true (List.all_eq_true.1 hsz q (DataW.weights_mem_each (j:=0) (by rw [Tryz.params3];rfl) rfl q hq))
 have hl0:=acts_len hq0 hW0
 have hd0:=dots_len hr0 hW0
 have h1k:=h1
 obtain ⟨n1,rfl,_,_,wn1⟩:=open_int Tryz.underlying23 (hval 1 _ v1 rfl rfl) h1
 obtain ⟨k1,rfl,wk1⟩:=u16n_of wn1
 clear hA0 hval0
 have hgin:=(gin_sf hX (.tail _ (.tail _ (.tail _ (.tail _ (List.Mem.head _))))))
 refine (law_calls_old (plays_ok (G:=sfGlobs) steps_sf l0 hl0 hd0 ho0 k1 wk1) hgin (iro_cons hir0 (iro_cons (.int _ _) (iro_nil W)))).mono fun e W' ⟨he,hb⟩=> ?_
 subst he
 refine ⟨_,rfl,_,_,_,[],pl0++pl1,[],hW', ?_, ?_,rfl,hb.frame _,fun h=>by cases h⟩
 ·exact trodAll_mk1 (shut_bool Tryz.underlying4 true)
 ·exact trodAll_mk2 (Below.trod Tryz.laidOut (by kernel_rfl) (of_decide_eq_true (by kernel_rfl)) h0k hb hlt0) (Below.trod Tryz.laidOut (by kernel_rfl) (of_decide_eq_true (by kernel_rfl)) h1k hb hlt1)
end Go.Proofs.YtdbhocoeolhjhaaGreatDoor
end
section
namespace Go.Proofs.YtdbhocoeolhjhaaGreatDoor
open Go.ChangeShapes Go.WideShapes Go.ChangeAt Go.RowKit Go.ChangeMaps Go.Abs
theorem splays_row:Rows.ShelfPlaysSaid:=
 OpenClaim.holds_of_wide 3 Tryz.f3 rfl rfl rfl rfl rfl rfl rfl ⟨rfl,rfl,rfl,rfl,rfl⟩ rfl rfl rfl rfl rfl (by kernel_rfl) Tryz.func3 joined_facts
  (of_decide_eq_true (by kernel_rfl)) (by unfold Func.isWrapper;first|(rw [if_pos (by decide+kernel)];kernel_rfl)|(rw [if_neg (by decide+kernel)];exact ⟨rfl,rfl⟩))
  (fun os started H enc _=>splays_lifted os started H enc)
end Go.Proofs.YtdbhocoeolhjhaaGreatDoor
end
