import Derived.Test.YtdbhocoeolhjhaaGreatDoorBn4
set_option maxHeartbeats 4000000
set_option linter.unusedSimpArgs false
set_option linter.unusedVariables false
set_option linter.constructorNameAsVariable false
namespace Go.Sf
section
variable {α:Type}{key:α->Txt}
theorem z4U (l:List α)(x:α):(insK key l x).Perm (x::l):=by have:=List.perm_middle (a:=x) (l₁:=l.take (posK key l (key x))) (l₂:=l.drop (posK key l (key x)));rwa[ya2]at this
theorem z9S {l:List α}{s:Txt}(hs:Srt key l)(h:hasK key l s):∃x,l[posK key l s]? =some x/\key x=s/\l.Perm (x::delK key l s):=by
 obtain⟨x,a,c⟩:=(zdU hs).1 h;have b:=(yaa.1 a).1;refine⟨x,a,c, ?_⟩;have e:l=l.take (posK key l s)++x::l.drop (posK key l s+1):=by
  conv=>lhs;rw[<-ya2 (posK key l s) l]
  rw[ybd b,(yaa.1 a).2]
 conv=>lhs;rw[e]
 exact List.perm_middle
end
theorem zgD {l:List NameM}(hs:Srt kN l){n:NameM}(h:n∈l):idOf l n.name=n.id:=by
 induction l with
 |nil=>simp at h
 |cons x l b=>
  unfold idOf;split;.rename_i a;rw[znK hs (x:=x) (y:=n) (by simp) h a]
  .rename_i a;rcases ybe.1 h with rfl|h
   .exact absurd rfl a
   .exact b (List.Pairwise.of_cons hs) h
theorem zzE {l:List NameM}(hs:Srt kN l){s:Txt}(h:hasK kN l s):∃n∈l,n.name=s/\n.id=idOf l s:=by obtain⟨n,a,rfl⟩:=h;exact⟨n,a,rfl,(zgD hs a).symm⟩
def modF (fs:List FileM)(id:Nat)(g:FileM->FileM):List FileM:=fs.map λf=>if f.id=id then g f else f
def zar (d:DiskM)(s:Txt):DiskM:={d with files:=d.files++ [⟨d.next,[],0⟩],names:=insK kN d.names ⟨s,d.next⟩,moves:=d.moves++ [⟨1,s,[],d.next⟩],next:=d.next+1}
def za3 (d:DiskM)(s b:Txt):DiskM:={d with files:=modF d.files (idOf d.names s) λf=>{f with bytes:=f.bytes++b}}
def zcJ (d:DiskM)(s:Txt):DiskM:={d with files:=modF d.files (idOf d.names s) λf=>{f with sure:=f.bytes.length}}
def zbx (d:DiskM):DiskM:={d with kept:=d.names,moves:= [],files:=d.files.filter λf=>decide (∃n∈d.names,n.id=f.id)}
def zbR (d:DiskM)(s t:Txt):DiskM:={d with names:=insK kN (zfS (delK kN d.names s) t) ⟨t,idOf d.names s⟩,moves:=d.moves++ [⟨3,s,t,0⟩]}
def zcF (d:DiskM)(s:Txt):DiskM:={d with names:=delK kN d.names s,moves:=d.moves++ [⟨2,s,[],0⟩]}
theorem zit {l:List NameM}{ms:List MoveM}{m:MoveM}:replay l (ms++ [m])=(replay l ms).bind λl'=>zfh l' m:=by
 induction ms generalizing l with
 |nil=>simp[replay]
 |cons x ms a=>
  simp only[ybp,replay];cases zfh l x with
  |none=>rfl
  |some l'=>simpa using a
theorem zkx {l:List NameM}{x:NameM}(h:Listed l)(hn:¬hasK kN l x.name)(ho:okS x.name)(hi:x.id∉l.map (·.id)):Listed (insK kN l x):=by
 refine⟨zk4 h.srt hn,λn a=> ?_, ?_⟩
 .rcases zaH.1 a with rfl|a;.exact ho
  .exact h.ok n a
 .have:=(z4U (key:=kN) l x).map (·.id);refine this.nodup_iff.2 ?_;rw[yce,yef];exact⟨hi,h.ids⟩
theorem znZ {l l':List NameM}(h:Listed l)(hs:l'.Sublist l):Listed l':=⟨h.srt.sublist hs,λn a=>h.ok n (hs.subset a),h.ids.sublist (hs.map _)⟩
theorem zkA {l:List NameM}(h:Listed l)(s:Txt):Listed (delK kN l s):=znZ h (zhc l s)
theorem zqg (l:List NameM)(s:Txt):(zfS l s).Sublist l:=by
 unfold zfS;split;.exact zhc l s
 .exact List.Sublist.refl _
theorem zuU {l:List NameM}(hs:Srt kN l)(s:Txt):¬hasK kN (zfS l s) s:=by
 unfold zfS;split;.rename_i c;rintro⟨x,a,b⟩;exact((zcA hs c).1 a).2 b
 .assumption
theorem zkm {l:List NameM}(hs:Srt kN l){s:Txt}{n:NameM}:n∈zfS l s↔n∈l/\n.name≠s:=by
 unfold zfS;split;.rename_i a;exact zcA hs a
 .rename_i a;exact⟨λh=>⟨h,λe=>a ⟨n,h,e⟩⟩,λh=>h.1⟩
theorem RightM.idlt {d:DiskM}(h:RightM d){i:Nat}(hi:i∈idsM d):1<=i/\i<d.next:=by obtain⟨f,a,rfl⟩:=(h.same i).1 hi;have:=h.filed.2 f a;exact⟨this.1,this.2.1⟩
theorem zmg (ms:List MoveM)(m:MoveM):zaP (ms++ [m])=zaP ms++(if m.kind=1 then [m.id]else []):=by unfold zaP;by_cases h:m.kind=1<;>simp[h]
theorem zpq {d:DiskM}{s:Txt}(h:RightM d)(ho:okS s)(hn:¬hasK kN d.names s)(hf:d.files.length<256)(hx:d.next<1099511627776):RightM (zar d s):=by
 have g:idsM (zar d s)=idsM d++ [d.next]:=by simp only[idsM,zar,zmg,if_pos,yax]
 have l:d.next∉idsM d:=λc=>by have:=(h.idlt c).2;omega
 refine⟨h.quota, ?_, ?_, ?_,h.kept, ?_,⟨?_,λf c=> ?_⟩, ?_, ?_,λi=> ?_,λn c=> ?_, ?_⟩;.show 1<=d.next+1;omega
 .show d.next+1<=_;omega
 .show(d.files++ [_]).length<=256;simp;omega
 .exact zkx h.names hn ho (λc=>by obtain⟨n,m,e⟩:=yar.1 c;have:=(h.idlt (h.nids n m)).2;simp only at e;omega)
 .show(d.files++ [_]).Pairwise _;rw[ydk];refine⟨h.filed.1,by simp,λa o b k=> ?_⟩;simp at k;subst k;exact(h.filed.2 a o).2.1
 .have p:f∈d.files++ [⟨d.next,[],0⟩]:=c;show 1<=f.id/\f.id<d.next+1/\_;rcases yai.1 p with c|c
  .have:=h.filed.2 f c;exact⟨this.1,by omega,this.2.2⟩
  .simp at c;subst c;exact⟨h.next1,by simp,by simp⟩
 .show replay d.kept (d.moves++ [_])=_;rw[zit,h.replay];simp only[yd8,zfh,if_pos ho,if_pos];rw[if_neg (by
   rintro(j|j|j);.exact hn j
   .exact j rfl
   .have:=h.next1;simp at j;omega)]
  rfl
 .rw[g,yb7];exact⟨h.ids,by simp,λa o b k e=>by simp at k;subst k;subst e;exact l o⟩
 .rw[g,yai,h.same i];show _↔∃f∈d.files++ [_],f.id=i;simp only[yai,ybr];constructor
  .rintro(⟨f,hf,e⟩|rfl);.exact⟨f,.inl hf,e⟩
   .exact⟨_,.inr rfl,rfl⟩
  .rintro⟨f,hf|rfl,e⟩;.exact .inl ⟨f,hf,e⟩
   .exact .inr e.symm
 .rw[g];rcases zaH.1 c with rfl|c
  .simp
  .exact yai.2 (.inl (h.nids n c))
 .have:=h.used;show(((d.files++ [_]).map _).sum)<=d.quota;simpa[zaW,zbH]using this
theorem z6H (fs:List FileM)(id:Nat)(g:FileM->FileM)(hg:∀f,(g f).id=f.id):(modF fs id g).map (·.id)=fs.map (·.id):=by
 simp only[modF,yd0];refine yd3 λf _=> ?_;show(if f.id=id then g f else f).id=f.id;split;.exact hg f
 .rfl
theorem zAl {fs gs:List FileM}(h:gs.map (·.id)=fs.map (·.id))(hp:fs.Pairwise λa b=>a.id<b.id):gs.Pairwise λa b=>a.id<b.id:=by have c:(fs.map (·.id)).Pairwise (· < ·):=yb0.2 hp;rw[<-h]at c;exact yb0.1 c
theorem zvM {d:DiskM}{id:Nat}{g:FileM->FileM}(h:RightM d)(hg:∀f,(g f).id=f.id)(hsu:∀f∈d.files,(g f).sure<=(g f).bytes.length)(hu:zbH (modF d.files id g)<=d.quota):RightM {d with files:=modF d.files id g}:=by
 have j:=z6H d.files id g hg;have c:∀i,(∃f∈modF d.files id g,f.id=i)↔∃f∈d.files,f.id=i:=λi=>by
  have l:(∃f∈modF d.files id g,f.id=i)↔i∈(modF d.files id g).map (·.id):=by simp
  have m:(∃f∈d.files,f.id=i)↔i∈d.files.map (·.id):=by simp
  rw[l,m,j]
 refine⟨h.quota,h.next1,h.next2, ?_,h.kept,h.names,⟨zAl j h.filed.1,λf k=> ?_⟩,h.replay,h.ids,λi=> ?_,h.nids,hu⟩;.show(modF d.files id g).length<=256;simpa[modF]using h.nfiles
 .obtain⟨a,b,rfl⟩:=yar.1 k;have e:=h.filed.2 a b;show 1<=(if a.id=id then g a else a).id/\(if a.id=id then g a else a).id<d.next/\_;split;.rw[hg];exact⟨e.1,e.2.1,hsu a b⟩
  .exact e
 .show i∈idsM d↔_;rw[c,h.same]
theorem zz1:∀(fs:List FileM) (id:Nat) (b:Txt),(fs.map (·.id)).Nodup->zbH (modF fs id λf=>{f with bytes:=f.bytes++b})<=zbH fs+b.length/\((∃f∈fs,f.id=id)->zbH (modF fs id λf=>{f with bytes:=f.bytes++b})=zbH fs+b.length)/\((¬∃f∈fs,f.id=id)->zbH (modF fs id λf=>{f with bytes:=f.bytes++b})=zbH fs)
 | [],_,_,_=>by simp[zbH,modF]
 |f::fs,id,b,hn=>by
  rw[yce,yef]at hn;obtain⟨n,l,k⟩:=zz1 fs id b hn.2;have m:∀g,zbH (modF (f::fs) id g)=((if f.id=id then g f else f).bytes.length)+zbH (modF fs id g):=λg=>by simp[zbH,modF]
  have i:zbH (f::fs)=f.bytes.length+zbH fs:=by simp[zbH]
  rw[m,i];by_cases d:f.id=id;.have j:¬∃c∈fs,c.id=id:=λ⟨c,a,e⟩=>hn.1 (yar.2 ⟨c,a,by rw[e,d]⟩);rw[if_pos d,k j];refine⟨by simp;omega,λ_=>by simp;omega,λh=>absurd ⟨f,by simp,d⟩ h⟩
  .rw[if_neg d];refine⟨by omega, ?_,λh=> ?_⟩
   .rintro⟨c,a,e⟩;rcases ybe.1 a with rfl|a
    .exact absurd e d
    .rw[l ⟨c,a,e⟩];omega
   .rw[k λ⟨c,a,e⟩=>h ⟨c,yb1 _ a,e⟩]
theorem zvG {d:DiskM}{s b:Txt}(h:RightM d)(hb:b.length<=d.quota-zaW d):RightM (za3 d s b):=by
 have c:=(zz1 d.files (idOf d.names s) b h.filed.ids).1;have e:=h.used;refine zvM h (λ_=>rfl) (λf a=> ?_) ?_;.have:=(h.filed.2 f a).2.2;show f.sure<=(f.bytes++b).length;simp;omega
 .have:zbH d.files=zaW d:=rfl;omega
theorem zqT (d:DiskM)(s:Txt):zaW (zcJ d s)=zaW d:=by show zbH (modF _ _ _)=zbH _;unfold zbH modF;rw[yd0];congr 1;refine yd3 λf _=> ?_;show(if f.id=_ then _ else f).bytes.length=_;split<;>rfl
theorem zos {d:DiskM}{s:Txt}(h:RightM d):RightM (zcJ d s):=zvM h (λ_=>rfl) (λf a=>yaf _) (by have:=zqT d s;have:=h.used;simp only[zaW,zcJ]at*;omega)
theorem zl4 (p:FileM->Bool):∀fs:List FileM,zbH (fs.filter p)<=zbH fs
 | []=>by simp[zbH]
 |f::fs=>by
  have:=zl4 p fs;have b:∀g a,zbH (g::a)=g.bytes.length+zbH a:=λg a=>by simp[zbH]
  rw[List.filter_cons];split;.rw[b,b];omega
  .rw[b];omega
theorem zmS {d:DiskM}(h:RightM d):RightM (zbx d):=by
 have a:idsM (zbx d)=d.names.map (·.id):=by simp[idsM,zbx,zaP]
 refine⟨h.quota,h.next1,h.next2, ?_,h.names,h.names,⟨h.filed.1.filter _,λf c=>h.filed.2 f (ybf.1 c).1⟩,rfl,by rw[a];exact h.names.ids,λi=> ?_,λn b=> ?_, ?_⟩;.exact ybu (ycs _ _) h.nfiles
 .rw[a];show _↔∃f∈d.files.filter _,f.id=i;constructor;.intro g;obtain⟨n,b,rfl⟩:=yar.1 g;obtain⟨f,c,e⟩:=(h.same _).1 (h.nids n b);exact⟨f,ybf.2 ⟨c,by simp;exact⟨n,b,e.symm⟩⟩,e⟩
  .rintro⟨f,c,rfl⟩;have:=(ybf.1 c).2;simp only[decide_eq_true_eq]at this;obtain⟨n,b,e⟩:=this;exact yar.2 ⟨n,b,e⟩
 .rw[a];exact yar.2 ⟨n,b,rfl⟩
 .exact ybu (zl4 _ _) h.used
theorem z0M {d:DiskM}{ns:List NameM}{m:MoveM}(hk:m.kind≠1):idsM {d with names:=ns,moves:=d.moves++ [m]}=idsM d:=by simp[idsM,zmg,hk]
theorem zji {d:DiskM}{s:Txt}(h:RightM d)(ho:okS s)(hh:hasK kN d.names s):RightM (zcF d s):=by have a:idsM (zcF d s)=idsM d:=z0M (by simp);refine⟨h.quota,h.next1,h.next2,h.nfiles,h.kept,zkA h.names s,h.filed, ?_,by rw[a];exact h.ids,λi=>by rw[a];exact h.same i,λn b=>by rw[a];exact h.nids n ((zhc _ _).subset b),h.used⟩;show replay d.kept (d.moves++ [_])=_;rw[zit,h.replay];simp[zfh,ho,hh,zcF]
theorem zwf {d:DiskM}{s t:Txt}(h:RightM d)(ho:okS s)(hh:hasK kN d.names s)(hot:okS t)(hne:t≠s):RightM (zbR d s t):=by
 have a:idsM (zbR d s t)=idsM d:=z0M (by simp);obtain⟨x,l,m,o⟩:=z9S h.names.srt hh;have c:=yad l;have e:idOf d.names s=x.id:=by rw[<-m];exact zgD h.names.srt c
 have f:=(o.map (·.id)).nodup_iff.1 h.names.ids;rw[yce,yef]at f;have g:=zkA h.names s;have b:(zfS (delK kN d.names s) t).Sublist (delK kN d.names s):=zqg _ _;refine⟨h.quota,h.next1,h.next2,h.nfiles,h.kept, ?_,h.filed, ?_,by rw[a];exact h.ids,λi=>by rw[a];exact h.same i,λn j=> ?_,h.used⟩;.refine zkx (znZ g b) (zuU g.srt t) hot (λk=> ?_);simp only at k;rw[e]at k;exact f.1 ((b.map _).subset k)
 .show replay d.kept (d.moves++ [_])=_;rw[zit,h.replay];simp[zfh,ho,hh,hot,hne,zbR]
 .rw[a];rcases zaH.1 j with rfl|j
  .show idOf d.names s∈_;rw[e];exact h.nids x c
  .exact h.nids n ((zhc _ _).subset (b.subset j))
theorem z5r {q:Nat}(hq:q<=1073741824):RightM ⟨q,[],[],[],[],1⟩:=by refine⟨hq,by simp,by simp,by simp,⟨by simp[Srt],by simp,by simp⟩,⟨by simp[Srt],by simp,by simp⟩,⟨by simp,by simp⟩,rfl,by simp[idsM,zaP],λi=>by simp[idsM,zaP],by simp,by simp[zaW,zbH]⟩
end Go.Sf
namespace Go.Sf
open Go.Abs
def kvs (ids:List Nat):List (AV×AV):=ids.map λ(i:Nat)=>(AV.int .i64 (i:Int),AV.bool true)
theorem zyh (ids:List Nat):(kvs ids).length=ids.length:=by simp[kvs]
theorem z9x (ids:List Nat)(i:Nat):kvs (ids++ [i])=kvs ids++ [(AV.int .i64 (i:Int),AV.bool true)]:=by simp[kvs]
theorem zuY {ids:List Nat}{i:Nat}(h:i∉ids)(p:Nat):zaQ 0 (.int .i64 i) (kvs ids) p=some none:=by
 induction ids generalizing p with
 |nil=>rfl
 |cons x ids d=>
  have f:¬x=i:=λe=>h (by simp[e]);have:=d (λb=>h (by simp[b])) (p+1);simp only[kvs,yce,zaQ];simp only[kvs]at this;have c:¬(x:Int)=(i:Int):=by omega
  have a:¬(i:Int)=(x:Int):=by omega
  simp[eq1,a,this]
theorem ztn {ids:List Nat}{i:Nat}(h:i∉ids):zd2 0 (.int .i64 i) (.bool true) (kvs ids)=some (kvs (ids++ [i])):=by rw[zd2,zuY h,z9x];rfl
theorem zDb {kv:List (AV×AV)}{tl:zaa}{t:TypeId}{c:List AV}:zbr (.mp kv::(tl++ [.var t c]))=zbr tl:=by simp[zbr,Entry.isItr]
theorem zEk {tl:zaa}{t:TypeId}{c:List AV}:zbr (tl++ [.var t c])=zbr tl:=by simp[zbr,Entry.isItr]
def NoI (tl:zaa):Prop:=zbr tl=true
theorem NoI.nil:NoI []:=rfl
theorem NoI.var {tl:zaa}(h:NoI tl)(t:TypeId)(c:List AV):NoI (tl++ [.var t c]):=by unfold NoI;rw[zEk];exact h
theorem NoI.eq {tl:zaa}(h:NoI tl):zbr tl=true:=h
theorem w01:IntKind.i64.wrap 1=1:=by decide
theorem z42 {ids:List Nat}{i:Nat}(h:i∈ids)(p:Nat):∃q,zaQ 0 (.int .i64 i) (kvs ids) p=some (some (q,.bool true)):=by
 induction ids generalizing p with
 |nil=>simp at h
 |cons x ids e=>
  simp only[kvs,yce,zaQ];by_cases c:x=i;.subst c;simp[eq1]
  .obtain⟨q,b⟩:=e (by rcases ybe.1 h with h|h;exact absurd h.symm c;exact h) (p+1);simp only[kvs]at b;have d:¬(x:Int)=(i:Int):=(by omega);have a:¬(i:Int)=(x:Int):=(by omega);simp[eq1,a,b]
end Go.Sf
namespace Go.Proofs.YtdbhocoeolhjhaaGreatDoor
open Go.Abs Go.RowKit Go.Sf
variable {G:Globs}
theorem zoA (l:List NameM)(s:Txt)(hs:Srt kN l)(hl:l.length<=1000000):PT 76 [.lst (zam l),.str s] (λr=>r=.lst (zam (zfS l s))):=by
 refine pwP zsx ?_;simp[zkR];refine zad (zj3 l s hs (by omega)) ?_;by_cases b:hasK kN l s
 .obtain⟨x,c,g⟩:=(zdU hs).1 b;have a:=(yaa.1 c).1;have e:IntKind.i64.wrap ((posK kN l s:Int)+1)=(posK kN l s:Int)+1:=wI (by omega);simp[b];refine zai (z5N (zam l) (zdp l) (by rw[za2];omega)) ?_;rintro r σ (⟨d,rfl,rfl⟩|⟨rfl,rfl⟩);.have:=congrArg List.length d;rw[za2]at this;simp at this;rw[this]at a;simp at a
  simp[e];refine zai (z6K (id:=0) (els:=zam l) (i:=posK kN l s) (by simp) (by rw[za2];exact a)) ?_;rintro r σ ⟨rfl,rfl⟩;rw[z1u];have f:(zam l).length-1=(zam (delK kN l s)).length:=by have:=zz4 hs b;rw[za2,za2];omega
  rw[f];simp[zqv,zfS,b]
 .simp[b,zfS]
def z8r (m:MoveM):Prop:=m.name.length<=1000000/\m.dst.length<=1000000/\m.kind<=1000000/\m.id<=1000000000000000
theorem zuR (l l':List NameM)(m:MoveM)(hs:Srt kN l)(hl:l.length<=1000000)(hd:zfh l m=some l')(hm:z8r m):PT 35 [.lst (zam l),.agg (zdn m)] (λr=>r=.tup [.lst (zam l'),.bool true]):=by
 refine pwP zyI ?_;obtain⟨k,b,a,id⟩:=m;obtain⟨u,v,w,y⟩:=hm;simp only at u v w y;simp[zqV,zdn];refine zad (zj3 l b hs (by omega)) ?_;have f:okS b:=by
  unfold zfh at hd;split at hd;.assumption
  .cases hd
 simp;refine zad (zkh b (by omega)) ?_;simp[f];unfold zfh at hd;simp only at hd;rw[if_pos f]at hd;split at hd
 .rename_i e;subst e;split at hd;.cases hd
  rename_i c;simp only[yab]at hd;subst hd;have d:¬hasK kN l b:=λh=>c (.inl h);have g:a= []:=Classical.byContradiction λh=>c (.inr (.inl h));have i:¬((id:Int)<1):=λh=>c (.inr (.inr (by omega)));subst g;simp[d,i];refine zad (zzy l b id hs (by omega)) ?_;simp
 split at hd
 .rename_i q e;subst e;split at hd;.cases hd
  rename_i c;simp only[yab]at hd;subst hd;have d:hasK kN l b:=Classical.byContradiction λh=>c (.inl h);have g:a= []:=Classical.byContradiction λh=>c (.inr (.inl h));have i:id=0:=Classical.byContradiction λh=>c (.inr (.inr h));subst g;subst i;simp[d];refine zad (zoA l b hs (by omega)) ?_;simp[zfS,d]
 split at hd
 .rename_i q B e;subst e;split at hd;.cases hd
  rename_i c;simp only[yab]at hd;subst hd;have d:hasK kN l b:=Classical.byContradiction λh=>c (.inl h);have g:okS a:=Classical.byContradiction λh=>c (.inr (.inl h));have i:¬a=b:=λh=>c (.inr (.inr (.inl h)));have C:id=0:=Classical.byContradiction λh=>c (.inr (.inr (.inr h)));subst C;obtain⟨x,p,e⟩:=(zdU hs).1 d;have D:=(yaa.1 p).1;have s:=yad p;have t:idOf l b=x.id:=by rw[<-e];exact zgD hs s
  have j:=zcL p;obtain⟨z,A⟩:=yaa.1 j;have n:Srt kN (delK kN l b):=zgj hs;have E:=zz4 hs d;simp[d];refine zad (zkh a (by omega)) ?_;simp[g,i];refine zaX (r:=.lst (zam (delK kN l b))) ((zoA l b hs (by omega)).mono λr h=>by rw[h];simp[zfS,d]) (by simp) ?_;simp;refine zaX (zoA (delK kN l b) a n (by omega)) (by simp) ?_;simp[j,zcD];have o:=zqg (delK kN l b) a;refine zaX (zzy (zfS (delK kN l b) a) a x.id (n.sublist o) (by have:=o.length_le;omega)) (by simp) ?_;simp[t]
 .cases hd
theorem zhO {α:Type}{l:List α}{i:Nat}{n:α}(h:l[i]? =some n):l.take (i+1)=l.take i++ [n]:=by rw[ybh,h];rfl
theorem zqr {l:List Nat}(h:l.Nodup){i x:Nat}(hx:l[i]? =some x):x∉l.take i:=λd=>by obtain⟨j,a,e⟩:=yaz.1 d;rw[yan]at a;rw[yck]at e;obtain⟨b,c⟩:=yaa.1 hx;have:=(ya9.1 h);exact ybm.1 this j i (by omega) b (by omega) (by rw[e,c])
theorem z10 (l:List NameM)(h:Listed l)(hl:l.length<=1000000):PT 33 [.lst (zam l)] (λr=>r=.bool true):=by
 refine pwP zvg ?_;simp[znJ];have B:=za2 l;obtain⟨ids,c⟩:∃ids,ids=l.map (·.id):=⟨_,rfl⟩;have j:ids.Nodup:=by rw[c];exact h.ids
 refine zac (λx f σ=>∃(i:Nat) (g:zaa),x=l.length-i/\i<=l.length/\f 0=.lst (zam l)/\f 3=.map 0/\f 7=.lst (zam l)/\f 8=.int .i64 l.length/\f 9=.int .i64 i/\NoI g/\σ=.mp (kvs (ids.take i))::g) l.length ?_ ?_;.exact⟨0,[],by simp,by simp,by simp,by simp,by simp,by simp[B],by simp,NoI.nil,by simp[kvs]⟩
 rintro x f σ ⟨i,g,U,W,y,u,z,A,v,b,rfl⟩;simp[A,v];refine zap (λR=> ?_) (λS=> ?_)
 .have k:i<l.length:=by omega
  have C:=wS i (by omega);obtain⟨n,t⟩:=gE k;have I:=zcL t;obtain⟨K,L⟩:=yaa.1 I;have D:=yad t;have m:=h.ok n D;have a:ids[i]? =some n.id:=by rw[c,yca,t];rfl
  have E:=zuY (zqr j a) 0;have o:=zhO a;simp[z,v,I,zcD,splice];refine zb3 (r:=.bool true) ((zkh n.name (by have:=m.2;omega)).mono λr T=>by rw[T];simp[m]) ?_;by_cases H:i=0;.subst H;have p:zaQ 0 (.int .i64 n.id) (kvs []) 0=some none:=rfl;have F:zd2 0 (.int .i64 n.id) (.bool true) (kvs [])=some (kvs [n.id]):=ztn (ids:= []) (by simp);simp[u,v,p,F,zDb,b.eq, -zaQ, -zd2, -zbr, -Entry.isItr];refine nx_i ⟨1,g++ [.var 101 [.str n.name,.int .i64 n.id]],rfl,by omega,by simp[y],by simp[u],by simp[z],by simp[A],by simp[w01],b.var _ _, ?_⟩;rw[o];simp
  .have G:IntKind.i64.wrap ((i:Int)-1)=((i-1:Nat):Int):=wE (by omega);obtain⟨w,e⟩:∃w,l[i-1]? =some w:=⟨l[i-1]'(by omega),yah (by omega)⟩;have q:=zcL e;obtain⟨M,O⟩:=yaa.1 q;have s:w.name<n.name:=(by obtain⟨P,rfl⟩:=yaa.1 t;obtain⟨Q,rfl⟩:=yaa.1 e;exact ybm.1 h.srt _ _ Q P (by omega));have J:(0:Int)<i:=(by omega);have d:0<i:=(by omega);simp[y,u,v,zcD,E,d,G,q,z0n,s,ztn (zqr j a),zDb,b.eq, -zaQ, -zd2, -zbr, -Entry.isItr];refine nx_i ⟨i+1,g++ [.var 101 [.str n.name,.int .i64 n.id]],rfl,by omega,by simp[y],by simp[u],by simp[z],by simp[A],by simp[C],b.var _ _, ?_⟩;rw[o]
 .simp
structure Fits (d:DiskM):Prop where
 nfiles:d.files.length<=1000000
 nnames:d.names.length<=1000000
 nkept:d.kept.length<=1000000
 nmoves:d.moves.length<=500000
 bytes:∀f∈d.files,f.bytes.length<=1000000000
 moves:∀m∈d.moves,z8r m
theorem zlD (l:Txt):(byteEls l).length=l.length:=by simp[byteEls]
theorem z4W (d:DiskM)(h:Filed d.next d.files)(hq:d.quota<=1000000000000)(hx:d.next<=1000000000000000)(hl:Fits d):PT 34 [.agg (zag d)] (λr=>r=.bool true):=by
 refine pwP zxr ?_;simp[zpw,zag];have q:=zbh d.files;have Q:=hl.nfiles;refine zac (λx f σ=>∃(i:Nat) (j:zaa),x=d.files.length-i/\i<=d.files.length/\f 1=.ptr 0 0/\f 6=.lst (zau d.files)/\f 7=.int .i64 d.files.length/\f 8=.int .i64 i/\σ=.var 30 (zag d)::j) d.files.length ?_ ?_;.exact⟨0,[],by simp,by simp,by simp,by simp,by simp[q],by simp,by simp[zag]⟩
 rintro x f σ ⟨i,j,hx,Y,k,l,o,p,rfl⟩;simp[o,p];refine zap (λO=> ?_) (λP=> ?_)
 .have c:i<d.files.length:=by omega
  have s:=wS i (by omega);obtain⟨n,m⟩:=gE c;have t:=zcK m;obtain⟨F,G⟩:=yaa.1 t;have u:=yad m;obtain⟨U,W,X⟩:=h.2 n u;have z:¬((n.id:Int)<1):=by omega
  have A:¬((d.next:Int)<=n.id):=by omega
  have B:¬((n.sure:Int)<0):=by omega
  have C:¬((n.bytes.length:Int)<n.sure):=by omega
  have R:¬(d.next<=n.id):=by omega
  have S:¬(n.bytes.length<n.sure):=by omega
  have T:¬n.id<1:=by omega
  by_cases y:i=0;.subst y;simp[k,l,p,t,zbv,zag,splice,z,A,B,C,zlD,w01];exact nx_i ⟨1,j++ [.var 97 (zbv n)],rfl,by omega,by simp[k],by simp[l],by simp[o],by simp,by simp[zbv]⟩
  .have v:IntKind.i64.wrap ((i:Int)-1)=((i-1:Nat):Int):=wE (by omega);obtain⟨g,b⟩:∃g,d.files[i-1]? =some g:=⟨d.files[i-1]'(by omega),yah (by omega)⟩;have e:=zcK b;obtain⟨H,I⟩:=yaa.1 e;have D:g.id<n.id:=(by obtain⟨J,K⟩:=yaa.1 m;obtain⟨L,M⟩:=yaa.1 b;rw[<-K,<-M];exact ybm.1 h.1 _ _ L J (by omega));have E:(0:Int)<i:=(by omega);have a:0<i:=(by omega);have w:¬(n.id<=g.id):=(by omega);simp[k,l,p,t,zbv,zag,splice,z,A,B,C,zlD,a,v,e,w,s];exact nx_i ⟨i+1,j++ [.var 97 (zbv n)],rfl,by omega,by simp[k],by simp[l],by simp[o],by simp,by simp[zbv]⟩
 .simp
theorem zDd (l:List NameM)(hl:l.length<=1000000):PT 36 [.lst (zam l),.lst (zam l)] (λr=>r=.bool true):=by
 refine pwP zeM ?_;simp[zcq];have b:=za2 l;refine zac (λx f σ=>∃(i:Nat),x=l.length-i/\i<=l.length/\f 0=.lst (zam l)/\f 1=.lst (zam l)/\f 12=.int .i64 l.length/\f 13=.int .i64 i/\σ= []) l.length ?_ ?_;.exact⟨0,by simp,by simp,by simp,by simp,by simp[b],by simp⟩
 rintro x f σ ⟨i,s,t,d,e,g,h,rfl⟩;simp[g,h];refine zap (λp=> ?_) (λq=> ?_)
 .have a:i<l.length:=by omega
  have c:=wS i (by omega);obtain⟨n,k⟩:=gE a;have j:=zcL k;obtain⟨m,o⟩:=yaa.1 j;simp[d,e,h,j,zcD,zil,c];exact nx_i ⟨i+1,rfl,by omega,by simp[d],by simp[e],by simp[g],by simp,rfl⟩
 .simp
theorem z2I (fs:List FileM):∀{i:Nat} {n:FileM},fs[i]? =some n->zbH (fs.take (i+1))=zbH (fs.take i)+n.bytes.length:=λ{i n} h=>by rw[zhO h];simp[zbH]
theorem z4G:∀(fs:List FileM),(∀f∈fs,f.bytes.length<=1000000000)->zbH fs<=fs.length*1000000000
 | [],_=>by simp[zbH]
 |f::fs,h=>by
  have b:=z4G fs λg a=>h g (by simp[a]);have c:=h f (by simp);have:zbH (f::fs)=f.bytes.length+zbH fs:=by simp[zbH]
  rw[this,ybg];omega
theorem ztW (d:DiskM)(hl:Fits d):PT 11 [.agg (zag d)] (λr=>r=.int .i64 (zaW d)):=by
 refine pwP zzv ?_;simp[zrf,zag];have e:=zbh d.files;have A:=hl.nfiles;refine zac (λx f σ=>∃(i:Nat) (c:zaa),x=d.files.length-i/\i<=d.files.length/\f 3=.int .i64 (zbH (d.files.take i))/\f 7=.lst (zau d.files)/\f 8=.int .i64 d.files.length/\f 9=.int .i64 i/\σ=.var 30 (zag d)::c) d.files.length ?_ ?_;.exact⟨0,[],by simp,by simp,by simp[zbH],by simp,by simp[e],by simp,by simp[zag]⟩
 rintro x f σ ⟨i,c,C,v,m,o,p,q,rfl⟩;simp[p,q];refine zap (λw=> ?_) (λy=> ?_)
 .have a:i<d.files.length:=by omega
  have g:=wS i (by omega);obtain⟨n,b⟩:=gE a;have s:=zcK b;obtain⟨t,u⟩:=yaa.1 s;have h:=yad b;have D:=hl.bytes n h;have B:=z4G (d.files.take i) λf z=>hl.bytes f (yao z);rw[yan,ybt v]at B;have j:=z2I d.files b;have k:IntKind.i64.wrap ((zbH (d.files.take i):Int)+n.bytes.length)=(zbH (d.files.take (i+1)):Int):=by rw[j,wI (by omega)];omega
  simp[m,o,q,s,zbv,zag,splice,zlD,g,k];exact nx_i ⟨i+1,c++ [.var 97 (zbv n)],rfl,by omega,by simp,by simp[o],by simp[p],by simp,by simp[zbv]⟩
 .have l:i=d.files.length:=by omega
  subst l;simp[m,zaW]
end Go.Proofs.YtdbhocoeolhjhaaGreatDoor
namespace Go.Sf
open Go.Abs
theorem zi0 {l r:List NameM}:∀{ms:List MoveM} {i:Nat} {m:MoveM},replay l ms=some r->ms[i]? =some m->∃li li',replay l (ms.take i)=some li/\zfh li m=some li'/\replay l (ms.take (i+1))=some li':=λ{ms i m} h hm=>by
 have e:ms=ms.take i++(m::ms.drop (i+1)):=by
  conv=>lhs;rw[<-ya2 i ms]
  obtain⟨j,e⟩:=yaa.1 hm;rw[ybd j,e]
 have c:∀(a b:List MoveM) (l:List NameM),replay l (a++b)=(replay l a).bind λd=>replay d b:=by
  intro a
  induction a with
  |nil=>intro b l;rfl
  |cons x a k=>
   intro b l;simp only[ybp,replay];cases zfh l x with
   |none=>rfl
   |some d=>simpa using k b d
 rw[e,c]at h;cases f:replay l (ms.take i)with
 |none=>rw[f]at h;cases h
 |some li=>
  rw[f]at h;simp only[yd8,replay]at h;cases g:zfh li m with
  |none=>rw[g]at h;cases h
  |some li'=>have:ms.take (i+1)=ms.take i++ [m]:=(by rw[ybh,hm];rfl);refine⟨li,li',rfl,g, ?_⟩;rw[this,zit,f];exact g
theorem ztI {l r:List NameM}:∀{ms:List MoveM},Srt kN l->replay l ms=some r->Srt kN r/\r.length<=l.length+ms.length:=λ{ms}=>by
 induction ms generalizing l with
 |nil=>intro a h;simp[replay]at h;subst h;exact⟨a,by simp⟩
 |cons x ms d=>
  intro a h;simp only[replay]at h;cases b:zfh l x with
  |none=>rw[b]at h;cases h
  |some f=>rw[b]at h;simp only[yd8]at h;have c:=d (z8Q a b) h;have e:=z7o a b;exact⟨c.1,by simp only[ybg];omega⟩
theorem zrg {ms:List MoveM}{i:Nat}{m:MoveM}(h:ms[i]? =some m):zaP (ms.take (i+1))=zaP (ms.take i)++(if m.kind=1 then [m.id]else []):=by
 have:ms.take (i+1)=ms.take i++ [m]:=by rw[ybh,h];rfl
 rw[this,zmg]
theorem zvW {ms:List MoveM}{i:Nat}{m:MoveM}(h:ms[i]? =some m):∃r,zaP ms=zaP (ms.take i)++((if m.kind=1 then [m.id]else [])++r):=by
 refine⟨zaP (ms.drop (i+1)), ?_⟩;have e:ms=ms.take (i+1)++ms.drop (i+1):=(ya2 _ _).symm;have c:∀a b,zaP (a++b)=zaP a++zaP b:=λa b=>by simp[zaP]
 conv=>lhs;rw[e]
 rw[c,zrg h,yax]
end Go.Sf
namespace Go.Proofs.YtdbhocoeolhjhaaGreatDoor
open Go.Abs Go.RowKit Go.Sf
variable {G:Globs}
theorem zj1 (d:DiskM)(h:RightM d)(hl:Fits d):PT 12 [.agg (zag d)] (λr=>r=.bool true):=by
 refine pwP zxl ?_;have q1:=h.quota;have q2:=h.next1;have q3:=h.next2;have q4:=h.nfiles;have q5:=h.nkept;have k1:¬((d.quota:Int)<0):=by omega
 have k2:¬((1073741824:Int)<d.quota):=by omega
 have k3:¬((d.next:Int)<1):=by omega
 have k4:¬((1099511627776:Int)<d.next):=by omega
 have k5:¬((256:Int)<d.files.length):=by omega
 have k6:¬((256:Int)<d.kept.length):=by omega
 have az:¬(1073741824<d.quota):=by omega
 have a0:¬(1099511627776<d.next):=by omega
 have a1:¬(256<d.files.length):=by omega
 have a2:¬(256<d.kept.length):=by omega
 have a3:¬(d.next<1):=by omega
 have ax:d.next≠0:=by omega
 have F:=zbh d.files;have ah:=za2 d.kept;have an:=ztK d.moves;simp[zp7,zag,k1,k2,k3,k4,k5,k6,F,ah];refine zad (z10 d.kept h.kept hl.nkept) ?_;simp;refine zad (z4W d h.filed (by omega) (by omega) hl) ?_;simp;obtain⟨b,g⟩:∃b,b=d.kept.map (·.id):=⟨_,rfl⟩;have w:=h.ids;unfold idsM at w;rw[<-g]at w;have ao:b.Nodup:=(yb7.1 w).1;have k:=h.count;unfold idsM at k;rw[<-g]at k;refine zac (λx f σ=>∃(i:Nat) (e:zaa),x=d.kept.length-i/\i<=d.kept.length/\f 1=.ptr 0 0/\f 3=.map 1/\f 55=.lst (zam d.kept)/\f 56=.int .i64 d.kept.length/\f 57=.int .i64 i/\NoI e/\σ=.var 30 (zag d):: .mp (kvs (b.take i))::e) d.kept.length ?_ ?_;.exact⟨0,[],by simp,by simp,by simp,by simp,by simp,by simp[ah],by simp,NoI.nil,by simp[zag,kvs]⟩
 rintro x f σ ⟨i,e,hx,hi,j,o,W,X,Y,p,rfl⟩;simp[X,Y];refine zap (λag=> ?_) (λE=> ?_)
 .have l:i<d.kept.length:=by omega
  have y:=wS i (by omega);obtain⟨n,hn⟩:=gE l;have H:=zcL hn;obtain⟨ad,ae⟩:=yaa.1 H;have O:b[i]? =some n.id:=by rw[g,yca,hn];rfl
  have aq:=zhO O;have I:∀(a:Entry) (kv:List (AV×AV)) (t:TypeId) (c:List AV),a.isItr=false->zbr (a:: .mp kv::(e++ [.var t c]))=true:=λa kv t c ha=>by have:=(p.var t c).eq;simp only[zbr,List.all_cons,ha]at this⊢;simp[Entry.isItr]at this⊢;exact this
  have s:=I (.var 30 (zag d)) (kvs (b.take i)) 101 (zcD n) rfl;simp only[zag,zcD]at s;simp[o,W,Y,H,zcD,zag,splice,ztn (zqr ao O),s,y, -zaQ, -zd2, -zbr, -Entry.isItr];refine nx_i ⟨i+1,e++ [.var 101 (zcD n)],rfl,by omega,by simp[j],by simp[o],by simp[W],by simp[X],by simp,p.var _ _, ?_⟩;rw[aq];simp[zcD]
 have z:i=d.kept.length:=by omega
 have ai:b.length=d.kept.length:=by rw[g];simp
 rw[z,<-ai,yav];simp[j,zag,an];have a4:=hl.nmoves;refine zac (λx f σ=>∃(i:Nat) (e:zaa) (li:List NameM),x=d.moves.length-i/\i<=d.moves.length/\f 1=.ptr 0 0/\f 3=.map 1/\f 6=.lst (zam li)/\f 68=.lst (zaI d.moves)/\f 69=.int .i64 d.moves.length/\f 70=.int .i64 i/\NoI e/\replay d.kept (d.moves.take i)=some li/\σ=.var 30 (zag d):: .mp (kvs (b++zaP (d.moves.take i)))::e) d.moves.length ?_ ?_;.exact⟨0,e,d.kept,by simp,by simp,by simp[j],by simp[o],by simp,by simp,by simp,by simp,p,by simp[replay],by simp[zag,zaP]⟩
 clear W X Y j o hx E hi z;rintro x f σ ⟨i,e,li,hx,hi,j,o,h6,A,D,u,p,v,rfl⟩;simp[D,u];refine zap (λag=> ?_) (λE=> ?_)
 .have l:i<d.moves.length:=by omega
  have y:=wS i (by omega);obtain⟨m,hm⟩:=gE l;have H:=z1b hm;obtain⟨ad,ae⟩:=yaa.1 H;have ar:=yad hm;obtain⟨ay,T,U,ak,af⟩:=zi0 h.replay hm;rw[v]at U;simp only[yab]at U;subst U;obtain⟨al,am⟩:=ztI h.kept.srt v;rw[yan,ybt hi]at am;have B:=zrg hm;obtain⟨rr,C⟩:=zvW hm;have I:∀(a:Entry) (kv:List (AV×AV)) (t:TypeId) (c:List AV),a.isItr=false->zbr (a:: .mp kv::(e++ [.var t c]))=true:=λa kv t c ha=>by have:=(p.var t c).eq;simp only[zbr,List.all_cons,ha]at this⊢;simp[Entry.isItr]at this⊢;exact this
  have s:=I (.var 30 (zag d)) (kvs (b++zaP (d.moves.take i))) 103 (zdn m) rfl;simp only[zag,zdn]at s;have J:=zuR (G:=G) li T m al (by omega) ak (hl.moves m ar);by_cases hk:m.kind=1
  .rw[if_pos hk]at B C;have P:m.id∉b++zaP (d.moves.take i):=λZ=>by rw[C]at w;rw[<-yax]at w;exact(yb7.1 w).2.2 _ Z _ (by simp) rfl
   have Q:(b++zaP (d.moves.take i)).length+1<=d.files.length:=(by rw[<-k,C];simp;omega);simp only[yag]at Q;have aa:(m.kind:Int)=1:=(by omega);have au:=zuY P 0;simp[o,h6,A,u,H,zdn,zag,splice,hk,au, -zaQ, -zd2, -zbr, -Entry.isItr];have aj:zdn m= [.int .i64 1,.str m.name,.str m.dst,.int .i64 m.id]:=(by simp[zdn,hk]);rw[aj]at J;refine zad J ?_;have R:=ztn P;rw[yax,<-B]at R;have S:=I (.var 30 (zag d)) (kvs (b++zaP (d.moves.take i))) 103 [.int .i64 1,.str m.name,.str m.dst,.int .i64 m.id] rfl;simp only[zag]at S;have ab:¬((d.files.length:Int)<((b++zaP (d.moves.take (i+1))).length:Nat)):=(by rw[B];simp only[yag,List.length_singleton];omega);have av:¬(d.files.length<(b++zaP (d.moves.take (i+1))).length):=(by omega);simp[j,o,u,znx,R,S,y,zyh,F, -List.length_append,ab, -zaQ, -zd2, -zbr, -Entry.isItr];refine nx_i ⟨i+1,e++ [.var 103 (zdn m)],T,rfl,by omega,by simp[j],by simp[o],by simp,by simp[A],by simp[D],by simp,p.var _ _,af, ?_⟩;simp[aj]
  .rw[if_neg hk,ybi]at B;have aa:¬((m.kind:Int)=1):=by omega
   simp[h6,A,u,H,zdn,zag,splice,aa, -zaQ, -zd2, -zbr, -Entry.isItr];simp only[zdn]at J;refine zad J ?_;have Q:(b++zaP (d.moves.take i)).length<=d.files.length:=by rw[<-k,C];simp
   have ab:¬((d.files.length:Int)<((b++zaP (d.moves.take i)).length:Nat)):=(by omega);have av:¬(d.files.length<(b++zaP (d.moves.take i)).length):=(by omega);simp[j,o,u,znx,aa,y,zyh,F, -List.length_append,ab, -zaQ, -zd2, -zbr, -Entry.isItr];refine nx_i ⟨i+1,e++ [.var 103 (zdn m)],T,rfl,by omega,by simp[j],by simp[o],by simp,by simp[A],by simp[D],by simp,p.var _ _,af, ?_⟩;rw[B];simp[zdn]
 have z:i=d.moves.length:=by omega
 rw[z,yav]at v;rw[z,yav];rw[h.replay]at v;simp only[yab]at v;subst v;simp[j,h6,zag];have a5:=hl.nnames;refine zad (zDd d.names (by omega)) ?_;have aw:(b++zaP d.moves).length=d.files.length:=k;simp[j,o,F,zyh, -List.length_append,aw];clear A D u h6 E z hi hx;refine zac (λx f σ=>∃(i:Nat) (e:zaa),x=d.files.length-i/\i<=d.files.length/\f 1=.ptr 0 0/\f 3=.map 1/\f 118=.lst (zau d.files)/\f 119=.int .i64 d.files.length/\f 120=.int .i64 i/\σ=.var 30 (zag d):: .mp (kvs (b++zaP d.moves))::e) d.files.length ?_ ?_;.exact⟨0,e,by simp,by simp,by simp[j],by simp[o],by simp,by simp,by simp,by simp[zag]⟩
 clear j o;rintro x f σ ⟨i,e,hx,hi,j,o,K,L,M,rfl⟩;simp[L,M];refine zap (λag=> ?_) (λE=> ?_)
 .have l:i<d.files.length:=by omega
  have y:=wS i (by omega);obtain⟨n,hn⟩:=gE l;have H:=zcK hn;obtain⟨ad,ae⟩:=yaa.1 H;have Z:n.id∈b++zaP d.moves:=by have:=(h.same n.id).2 ⟨n,yad hn,rfl⟩;unfold idsM at this;rw[g];exact this
  obtain⟨q,hq⟩:=z42 Z 0;simp[o,K,M,H,zbv,zag,splice,hq,y, -zaQ, -zd2, -zbr, -Entry.isItr];refine nx_i ⟨i+1,e++ [.var 97 (zbv n)],rfl,by omega,by simp[j],by simp[o],by simp[K],by simp[L],by simp,by simp[zbv]⟩
 .have hu:=h.used;simp[j,zag];refine zb3 (ztW d hl) ?_;simp[j,hu]
end Go.Proofs.YtdbhocoeolhjhaaGreatDoor
namespace Go.Sf
open Go.Abs
def posF:List FileM->Nat->Nat
 | [],_=>0
 |f::fs,i=>if f.id<i then posF fs i+1 else 0
theorem z2T:∀(l:List FileM) (s:Nat),posF l s<=l.length
 | [],_=>yaf _
 |x::l,s=>by unfold posF;have:=z2T l s;split<;>simp<;>omega
theorem zzb:∀{l:List FileM} {s:Nat} {i:Nat} {x:FileM},i<posF l s->l[i]? =some x->x.id<s
 | [],_,_,_,h,_=>by simp[posF]at h
 |y::l,s,i,x,h,hx=>by
  unfold posF at h;split at h
  .rename_i a;cases i with
   |zero=>simp at hx;subst hx;exact a
   |succ i=>exact zzb (l:=l) (i:=i) (by omega) (by simpa using hx)
  .omega
theorem zyb:∀{l:List FileM} {s:Nat} {i:Nat} {x:FileM},(l.Pairwise λa b=>a.id<b.id)->posF l s<=i->l[i]? =some x->¬x.id<s
 | [],_,_,_,_,_,hx=>by simp at hx
 |y::l,s,i,x,hs,h,hx=>by
  rw[yet]at hs;unfold posF at h;split at h
  .cases i with
   |zero=>omega
   |succ i=>exact zyb (l:=l) (i:=i) hs.2 (by omega) (by simpa using hx)
  .rename_i c;cases i with
   |zero=>simp at hx;subst hx;exact c
   |succ i=>have d:x∈l:=yad (by simpa using hx);have:=hs.1 x d;omega
theorem zAI {l:List FileM}{f:FileM}(hs:l.Pairwise λa b=>a.id<b.id)(hf:f∈l):l[posF l f.id]? =some f:=by
 obtain⟨j,d,rfl⟩:=yaz.1 hf;have e:l[j]? =some l[j]:=yah d;have g:posF l l[j].id<=j:=Classical.byContradiction λh=>by have:=zzb (l:=l) (i:=j) (s:=l[j].id) (by omega) e;omega
 rcases Nat.lt_or_eq_of_le g with c|c;.have k:l[posF l l[j].id]? =some (l[posF l l[j].id]'(by omega)):=yah (by omega);have m:=zyb hs (yaf _) k;have n:=ybm.1 hs _ _ (by omega) d c;omega
 .rw[c];exact e
theorem z4t {l:List FileM}(hs:l.Pairwise λa b=>a.id<b.id){i:Nat}{f:FileM}(hf:l[i]? =some f)(g:FileM->FileM):l.set i (g f)=modF l f.id g:=by
 obtain⟨k,rfl⟩:=yaa.1 hf;refine List.ext_getElem (by simp[modF]) λj d m=> ?_;simp only[modF,yc6];rw[List.getElem_set];split;.rename_i e;subst e;simp
 .rename_i e;rw[List.length_set]at d;have:¬l[j].id=l[i].id:=λh=>by
   rcases Nat.lt_or_gt_of_ne e with c|c;.have:=ybm.1 hs _ _ k d c;omega
   .have:=ybm.1 hs _ _ d k c;omega
  rw[if_neg this]
theorem RightM.file {d:DiskM}(h:RightM d){s:Txt}(hh:hasK kN d.names s):∃f,d.files[posF d.files (idOf d.names s)]? =some f/\f.id=idOf d.names s:=by obtain⟨n,b,g,a⟩:=zzE h.names.srt hh;obtain⟨f,c,e⟩:=(h.same n.id).1 (h.nids n b);have:=zAI h.filed.1 c;rw[e,a]at this;exact⟨f,this,by rw[e,a]⟩
end Go.Sf
namespace Go.Proofs.YtdbhocoeolhjhaaGreatDoor
open Go.Abs Go.RowKit Go.Sf
variable {G:Globs}
theorem z6e (f:FileM)(i:Nat):PT 110 [.agg (zbv f),.int .i64 i] (λr=>r=.int .i64 (Lib.compareInt f.id i)):=by refine pwP zuu ?_;simp[zm0,zbv];refine zad (zuw f.id i) ?_;simp
theorem z8A (d:DiskM)(s:Txt)(h:RightM d)(hl:Fits d)(ho:okS s)(hh:¬hasK kN d.names s):PT 55 [.agg (zag d),.str s] (λr=>r=.tup [.int .i64 0,.int .i64 4]):=by refine pwP zq3 ?_;simp[zlN,zag];refine zad (zj1 d h hl) ?_;simp;refine zad (zkh s (by have:=ho.2;omega)) ?_;simp[ho];refine zad (zj3 d.names s h.names.srt (by have:=hl.nnames;omega)) ?_;simp[hh]
theorem zjt (d:DiskM)(s:Txt)(h:RightM d)(hl:Fits d)(ho:okS s)(hh:hasK kN d.names s):PT 55 [.agg (zag d),.str s] (λr=>r=.tup [.int .i64 (posF d.files (idOf d.names s)),.int .i64 0]):=by
 refine pwP zq3 ?_;simp[zlN,zag];refine zad (zj1 d h hl) ?_;simp;refine zad (zkh s (by have:=ho.2;omega)) ?_;simp[ho];refine zad (zj3 d.names s h.names.srt (by have:=hl.nnames;omega)) ?_;obtain⟨x,j,k⟩:=(zdU h.names.srt).1 hh;have f:=yad j;have g:idOf d.names s=x.id:=by rw[<-k];exact zgD h.names.srt f
 have b:=zcL j;obtain⟨l,m⟩:=yaa.1 b;simp[hh,b,zcD];have t:=z2T d.files x.id;have u:=bsFi (G:=G) (zau d.files) (zec d.files) (by rw[zbh];have:=hl.nfiles;omega) (.int .i64 x.id) (by simp[AV.pure]) 110 zub (posF d.files x.id) (by rw[zbh];exact t) (λi=>match d.files[i]? with|some n=>Lib.compareInt n.id x.id|none=>0) (λi c o=>by obtain⟨n,a,rfl⟩:=z16 o;simp only[a];exact z6e n x.id) (λi p=>by
   obtain⟨n,a⟩:∃n,d.files[i]? =some n:=⟨d.files[i]'(by omega),yah (by omega)⟩;simp only[a];have:=zzb p a;unfold Lib.compareInt;split;.omega
   .split<;>omega)
  (λi q e=>by
   rw[zbh]at e;obtain⟨n,a⟩:∃n,d.files[i]? =some n:=⟨d.files[i]'e,yah e⟩;simp only[a];have:=zyb h.filed.1 q a;unfold Lib.compareInt;split;.omega
   .split<;>omega)
 refine zb3 u ?_;simp[g]
theorem zqJ (d:DiskM)(m:MoveM)(l':List NameM)(hs:Srt kN d.names)(hd:zfh d.names m=some l')(hl:Fits d)(hm:z8r m):PT 169 [.agg (zag d),.agg (zdn m)] (λr=>r=.agg (zag {d with names:=l',moves:=d.moves++ [m]})):=by
 refine pwP zvw ?_;have i:=hl.nnames;have j:=hl.nmoves;simp[zpy,zag,zdn];have a:=zuR (G:=G) d.names l' m hs (by omega) hd hm;simp only[zdn]at a;refine zad a ?_;simp;have b:=ztK d.moves;refine⟨?_, ?_, ?_⟩
 all_goals
  refine zai (zB0 (zaI d.moves) (ztO d.moves) (by omega)) ?_;rintro r σ (⟨e,rfl,rfl⟩|⟨rfl,rfl⟩);.have c:d.moves= []:=(by simpa[zaI]using e);simp;refine zf6 true [zdn m] (by simp[zdn,view]) (by decide) (by simp[zdn]) (λ_=> .inl (by simp[zgp,zdn])) (by simp) (by simp) ?_;simp[c,zaI]
  .simp;refine zbJ (zaI d.moves) [zdn m] false (by simp) (by simp[zdn,view]) (by decide) (by simp[zdn]) (λh=>by cases h) rfl (by simp[b];omega) (by simp[b];omega) ?_;have f:zaI d.moves++ [zdn m]=zaI (d.moves++ [m]):=by simp[zaI]
   have g:(zaI d.moves).length+1=(zaI (d.moves++ [m])).length:=(by simp[zaI]);simp only[f,g,ybg,yc1,ybl];simp[z52]
theorem z0O (d:DiskM)(s:Txt)(h:RightM d)(hl:Fits d)(ho:okS s)(hh:¬hasK kN d.names s)(hf:d.files.length<256)(hx:d.next<1099511627776):PT 98 [.agg (zag d),.str s] (λr=>r=.tup [.agg (zag (zar d s)),.int .i64 0]):=by
 refine pwP zu9 ?_;have a:=zbh d.files;have f:¬((256:Int)<=d.files.length):=by omega
 have g:¬((1099511627776:Int)<=d.next):=by omega
 have i:¬(256<=d.files.length):=by omega
 have j:¬(1099511627776<=d.next):=by omega
 have c:=wS d.next (by omega);simp[zmV,zag];refine zad (z8A d s h hl ho hh) ?_;simp[f,g,a];have n:=(zpq h ho hh hf hx).replay;have k:zfh d.names ⟨1,s,[],d.next⟩=some (insK kN d.names ⟨s,d.next⟩):=by
  have:¬(d.next<1):=by have:=h.next1;omega
  simp[zfh,ho,hh,this]
 refine zad (zqJ d ⟨1,s,[],d.next⟩ _ h.names.srt k hl ⟨by have:=ho.2;simp only;omega,by simp,by simp,by simp only;omega⟩) ?_;simp[zag];refine zai (zul (zau d.files) (zec d.files) (by omega)) ?_;rintro r σ (⟨e,rfl,rfl⟩|⟨rfl,rfl⟩)
 .have b:d.files= []:=by simpa[zau]using e
  simp;refine zf6 true [[.int .i64 d.next,.lst [],.int .i64 0]] (by simp[view]) (by decide) (by simp) (λ_=> .inl (by simp[zgp])) (by simp) (by simp) ?_;simp[c];simp[zar,b,zau,zbv,byteEls]
 .simp;refine zbJ (zau d.files) [[.int .i64 d.next,.lst [],.int .i64 0]] false (by simp) (by simp[view]) (by decide) (by simp) (λh=>by cases h) rfl (by simp[a];omega) (by simp[a];omega) ?_;have l:zau d.files++ [[.int .i64 d.next,.lst [],.int .i64 0]]=zau (d.files++ [⟨d.next,[],0⟩]):=by simp[zau,zbv,byteEls]
  have m:(zau d.files).length+1=(zau (d.files++ [⟨d.next,[],0⟩])).length:=by simp[zau]
  simp only[l,m,ybg,yc1,ybl];simp[zwA,c,zar]
theorem z54 (d:DiskM)(i:Nat)(f:FileM)(hi:i<d.files.length)(hl:Fits d):PT 167 [.agg (zag d),.int .i64 i,.agg (zbv f)] (λr=>r=.agg (zag {d with files:=d.files.set i f})):=by
 refine pwP z1G ?_;have k:=zbh d.files;have l:=hl.nfiles;simp[zt6,zag,zbv];refine zai (zul (zau d.files) (zec d.files) (by omega)) ?_;rintro r σ (⟨j,rfl,rfl⟩|⟨rfl,rfl⟩)
 .have b:d.files= []:=by simpa[zau]using j
  rw[b]at hi;simp at hi
 .obtain⟨g,e⟩:=gE hi;have m:=zcK e;obtain⟨h,a⟩:=yaa.1 m;have n:(zau d.files).set i [.int .i64 f.id,.lst (byteEls f.bytes),.int .i64 f.sure]=zau (d.files.set i f):=by simp[zau,zbv,List.map_set]
  have o:(zau d.files).length=(zau (d.files.set i f)).length:=by simp[zau]
  have c:i<(zau d.files).length:=by omega
  simp[c,a,zbv,splice,n];rw[o];simp[zwA]
theorem zBT (q:Nat)(hq:q<=1073741824):PT 29 [.int .i64 q] (λr=>r=.tup [.agg (zag ⟨q,[],[],[],[],1⟩),.int .i64 0]):=by
 refine pwP z1N ?_;have a:¬((q:Int)<0):=by omega
 have b:¬((1073741824:Int)<q):=by omega
 have c:¬(1073741824<q):=by omega
 simp[ztB,a,b,zag,zau,zam,zaI]
theorem z1x (d:DiskM)(s b:Txt)(h:RightM d)(hl:Fits d)(ho:okS s)(hh:hasK kN d.names s)(hb:b.length<=d.quota-zaW d)(hbl:b.length<=1000000000):PT 100 [.agg (zag d),.str s,.lst (byteEls b)] (λr=>r=.tup [.agg (zag (za3 d s b)),.int .i64 0]):=by
 refine pwP zuz ?_;have t:=h.used;have u:=h.quota;obtain⟨g,c,a⟩:=h.file hh;have l:=(yaa.1 c).1;have e:=zcK c;obtain⟨j,k⟩:=yaa.1 e;have m:=hl.bytes g (yad c);simp[znk,zag];refine zad (zjt d s h hl ho hh) ?_;simp;refine zb3 (ztW d hl) ?_;have n:IntKind.i64.wrap ((d.quota:Int)-(zaW d:Nat))=((d.quota-zaW d:Nat):Int):=wE (by omega);have o:¬(((d.quota-zaW d:Nat):Int)<b.length):=by omega
 have p:¬(d.quota-zaW d<b.length):=by omega
 simp[n,zae,o,e,zbv,splice];refine zad (znO g.bytes b (by omega) (by omega)) ?_;simp[splice];have q:=z4t h.filed.1 c (λf=>{f with bytes:=f.bytes++b});have i:=z54 (G:=G) d (posF d.files (idOf d.names s)) {g with bytes:=g.bytes++b} l hl;simp only[zag,zbv]at i;refine zad i ?_;simp[za3,<-a];rw[<-q,a]
theorem z7k (d:DiskM)(s:Txt)(h:RightM d)(hl:Fits d)(ho:okS s)(hh:hasK kN d.names s):PT 95 [.agg (zag d),.str s] (λr=>r=.tup [.agg (zag (zcJ d s)),.int .i64 0]):=by refine pwP zxD ?_;obtain⟨g,b,a⟩:=h.file hh;have k:=(yaa.1 b).1;have c:=zcK b;obtain⟨i,j⟩:=yaa.1 c;simp[zr5,zag];refine zad (zjt d s h hl ho hh) ?_;simp[c,zbv,splice,zae];have l:=z4t h.filed.1 b (λf=>{f with sure:=f.bytes.length});have e:=z54 (G:=G) d (posF d.files (idOf d.names s)) {g with sure:=g.bytes.length} k hl;simp only[zag,zbv]at e;refine zad e ?_;simp[zcJ,<-a];rw[<-l,a]
theorem z28 (d:DiskM)(s:Txt)(h:RightM d)(hl:Fits d)(ho:okS s)(hh:hasK kN d.names s):PT 108 [.agg (zag d),.str s] (λr=>r=.tup [.agg (zag (zcF d s)),.int .i64 0]):=by
 refine pwP zus ?_;simp[zny,zag];refine zad (zjt d s h hl ho hh) ?_;simp;have a:zfh d.names ⟨2,s,[],0⟩=some (delK kN d.names s):=by simp[zfh,ho,hh]
 have kM:=zqJ (G:=G) d ⟨2,s,[],0⟩ _ h.names.srt a hl ⟨by have:=ho.2;simp only;omega,by simp⟩;simp only[zag,zdn]at kM;refine zad kM ?_;simp[zcF]
theorem z2z (d:DiskM)(s t:Txt)(h:RightM d)(hl:Fits d)(ho:okS s)(hh:hasK kN d.names s)(hot:okS t)(hne:t≠s):PT 102 [.agg (zag d),.str s,.str t] (λr=>r=.tup [.agg (zag (zbR d s t)),.int .i64 0]):=by
 refine pwP zuN ?_;simp[zmD,zag];refine zad (zjt d s h hl ho hh) ?_;simp;refine zad (zkh t (by have:=hot.2;omega)) ?_;have a:¬s=t:=λe=>hne e.symm;simp[hot,a];have b:zfh d.names ⟨3,s,t,0⟩=some (insK kN (zfS (delK kN d.names s) t) ⟨t,idOf d.names s⟩):=by simp[zfh,ho,hh,hot,hne]
 have kM:=zqJ (G:=G) d ⟨3,s,t,0⟩ _ h.names.srt b hl ⟨by have:=ho.2;simp only;omega,by have:=hot.2;simp only;omega,by simp⟩;simp only[zag,zdn]at kM;refine zad kM ?_;simp[zbR]
def zaV (l:List Txt):List (List AV):=l.map λs=> [AV.str s]
theorem zdz (l:List Txt):(zaV l).length=l.length:=by simp[zaV]
theorem zuJ (σ:zaa)(d:DiskM)(h:RightM d)(hl:Fits d):AT 20 [.agg (zag d)] σ (λr σ'=>r=.tup [.row (σ.length+1) d.names.length,.int .i64 0]/\σ'=σ++ [.var 30 (zag d),.row 9 1 (zaV (d.names.map (·.name))) false]):=by
 refine pwA zxZ ?_;have t:=za2 d.names;have P:=hl.nnames;simp[zru,zag];refine zad (zj1 d h hl) ?_;simp[t];refine zuW d.names.length rfl rfl (by omega) (by omega) (by decide) rfl ?_;simp[t];obtain⟨b,k⟩:∃b,b=d.names.map (·.name):=⟨_,rfl⟩;have A:b.length=d.names.length:=by rw[k];simp
 rw[<-k];refine zac (λx f σ'=>∃(i:Nat) (v:zaa),x=d.names.length-i/\i<=d.names.length/\f 3=.int .i64 0/\f 4=.row (σ.length+1) d.names.length/\f 15=.lst (zam d.names)/\f 16=.int .i64 d.names.length/\f 17=.int .i64 i/\σ'=σ++ .var 30 (zag d):: .row 9 1 (zaV (b.take i)++List.replicate (d.names.length-i) [.str []]) false::v) d.names.length ?_ ?_;.exact⟨0,[],by simp,by simp,by simp,by simp,by simp,by simp,by simp,by simp[zaV,zag]⟩
 rintro x f σ' ⟨i,v,S,T,M,z,m,o,p,rfl⟩;simp[o,p];refine zap (λq=> ?_) (λO=> ?_)
 .have g:i<d.names.length:=by omega
  have B:=wS i (by omega);obtain⟨n,H⟩:=gE g;have w:=zcL H;obtain⟨I,J⟩:=yaa.1 w;have C:b[i]? =some n.name:=by rw[k,yca,H];rfl
  have l:(zaV (b.take i)).length=i:=by rw[zdz,yan];omega
  obtain⟨R,u⟩:∃R,R=zaV (b.take i)++List.replicate (d.names.length-i) [AV.str []]:=⟨_,rfl⟩;have D:R.length=d.names.length:=by rw[u,yag,l,List.length_replicate];omega
  have E:R[i]? =some [.str []]:=by rw[u,yam (by omega),l,yc2,List.getElem?_replicate,if_pos (by omega)]
  have F:R.set i [.str n.name]=zaV (b.take (i+1))++List.replicate (d.names.length-(i+1)) [.str []]:=by
   rw[u,yct _ _ (by omega),l,yc2];have:d.names.length-i=(d.names.length-(i+1))+1:=by omega
   rw[this,ydq,List.set_cons_zero,zhO C];simp[zaV]
  obtain⟨K,y⟩:=yaa.1 E;rw[<-u];simp[z,m,p,w,zcD,D,y,g,splice,F,B];refine nx_i ⟨i+1,v++ [.var 101 (zcD n)],rfl,by omega,by simp[M],by simp[z],by simp[m],by simp[o],by simp, ?_⟩;simp[zcD]
 .have G:i=d.names.length:=by omega
  subst G;have Q:zaV (b.take d.names.length)++List.replicate (d.names.length-d.names.length) [AV.str []]=zaV b:=by rw[<-A,yav];simp
  rw[Q];simp[z];refine zbi (σ++ [.var 30 (zag d),.row 9 1 (zaV b) false]) (.tup [.row (σ.length+1) d.names.length,.int .i64 0]) (by simp[zaK]) v (by simp) (by simp) (by simp[AV.under]) (λi e a=> ?_) ⟨rfl,by simp[zag]⟩;rcases ydm i σ.length with q|s
  .rw[yap q]at a;exact .inl a
  .rw[yam s]at a;right;obtain⟨j,L⟩:∃j,j=i-σ.length:=⟨_,rfl⟩;rw[<-L]at a
   match j,a with
   |0,a=>simp at a;subst a;simp[Entry.under,zag,AV.under]
   |1,a=>simp at a;subst a;refine zaD λc w=> ?_;obtain⟨n,_,rfl⟩:=yar.1 w;simp[AV.pure]
   |j+2,a=>simp at a
theorem zyM {σ:zaa}{k j:Nat}{ids:List Nat}(hk:σ[k]? =some (.var 99 [.map j]))(hj:σ[j]? =some (.mp (kvs ids)))(f:FileM):AT 179 [.agg (zbv f),.ptr k 0] σ (λr σ'=>r=.bool (!decide (f.id∈ids))/\σ'=σ):=by
 refine pwA zp9 ?_;have g:=(yaa.1 hk).1;have h:=(yaa.1 hj).1;have l:∀(e:Entry),(σ++ [e])[k]? =some (.var 99 [.map j]):=λe=>by rw[yap g];exact hk
 have m:∀(e:Entry),(σ++ [e])[j]? =some (.mp (kvs ids)):=λe=>by rw[yap h];exact hj
 have fin:∀(b:Bool) (d:Abs.Frame) (e:Entry),d 3=.bool b->b=(!decide (f.id∈ids))->er σ (λr σ'=>r=.bool (!decide (f.id∈ids))/\σ'=σ) (.mk _) [(3,none)] d (.mk _) (σ++ [e]):=λb d e n o=>by refine zbi σ (.bool b) (by simp[zaK,n]) [e] rfl (by simp) (by simp[AV.under]) (λi e p=> .inl p) ⟨by rw[o],rfl⟩
 by_cases a:f.id∈ids;.obtain⟨q,c⟩:=z42 a 0;simp[zfT,zbv,l,m,c, -zaQ];exact fin false _ _ (by simp) (by simp[a])
 .have c:=zuY a 0;simp[zfT,zbv,l,m,c, -zaQ];exact fin true _ _ (by simp) (by simp[a])
theorem zoV {pre:zaa}{k j:Nat}{ids:List Nat}(hk:pre[k]? =some (.var 99 [.map j]))(hj:pre[j]? =some (.mp (kvs ids)))(fs:List FileM)(p:List AV->Bool)(hp:∀f,p (zbv f)= !decide (f.id∈ids)):Asks Tryz.prog pre 179 [.ptr k 0] .agg p (zau fs):=λc d X K e=>by obtain⟨f,_,rfl⟩:=yar.1 d;have a:=(yaa.1 hk).1;have b:=(yaa.1 hj).1;refine .inr (.inr ((zyM (σ:=pre++X) (by rw[yap a];exact hk) (by rw[yap b];exact hj) f).mono ?_));rintro r σ' ⟨rfl,rfl⟩;rw[<-hp];exact e
def zrj:AV->AV
 | .nils=> .lst []
 |v=>v
theorem z05 {σ:zaa}{m k:Nat}:∀{els:List (List AV)},(∀c∈els,∀x∈c,x.pure=true)->(els.mapM λ(c:List AV)=>c.mapM (fz σ m k))=some (els.map λc=>c.map zrj)
 | [],_=>rfl
 |c::els,h=>by
  have f:∀(l:List AV),(∀x∈l,x.pure=true)->l.mapM (fz σ m k)=some (l.map zrj):=by
   intro l
   induction l with
   |nil=>intro _;rfl
   |cons x l g=>intro h;rw[ych,g (λy b=>h y (yb1 _ b))];have a:=h x (by simp);cases x<;>first|(simp[AV.pure]at a;done)|(cases k<;>simp[fz,a,zrj])
  rw[ych,f c (h c (by simp)),z05 (λd e=>h d (yb1 _ e))];rfl
theorem znN (fs:List FileM):((zau fs).map λc=>c.map zrj)=zau fs:=by simp[zau,zbv,zrj]
def idC:List AV->Nat
 | .int _ n::_=>n.toNat
 |_=>0
theorem zqj (f:FileM):idC (zbv f)=f.id:=by simp[idC,zbv]
theorem znA (fs:List FileM)(p:FileM->Bool)(q:List AV->Bool)(h:∀f,q (zbv f)=p f):(zau fs).filter q=zau (fs.filter p):=by simp only[zau,List.filter_map];congr 1;exact List.filter_congr λf _=>h f
theorem zzk (d:DiskM)(h:RightM d)(hl:Fits d):PT 115 [.agg (zag d),.lst (zam d.names)] (λr=>r=.agg (zag (zbx d))):=by
 refine pwP zkS ?_;have P:=za2 d.names;have ah:=hl.nnames;have Q:=zbh d.files;have ai:=hl.nfiles;simp[zh4,zag];obtain⟨ids,e⟩:∃ids,ids=d.names.map (·.id):=⟨_,rfl⟩;have R:ids.Nodup:=by rw[e];exact h.names.ids
 refine zac (λx f σ=>∃(i:Nat) (p:zaa),x=d.names.length-i/\i<=d.names.length/\f 1=.lst (zam d.names)/\f 2=.ptr 0 0/\f 4=.ptr 1 0/\f 5=.ptr 3 0/\f 9=.lst (zam d.names)/\f 10=.int .i64 d.names.length/\f 11=.int .i64 i/\NoI p/\σ=.var 30 (zag d):: .var 30 [.int .i64 0,.nils,.nils,.nils,.nils,.int .i64 0]:: .mp (kvs (ids.take i)):: .var 99 [.map 2]::p) d.names.length ?_ ?_;.exact⟨0,[],by simp,by simp,by simp,by simp,by simp,by simp,by simp,by simp[P],by simp,NoI.nil,by simp[zag,kvs]⟩
 rintro x f σ ⟨i,p,hx,hi,J,s,F,H,h9,u,v,w,rfl⟩;simp[u,v];refine zap (λaf=> ?_) (λag=> ?_)
 .have z:i<d.names.length:=by omega
  have S:=wS i (by omega);obtain⟨n,hn⟩:=gE z;have I:=zcL hn;obtain⟨ad,ae⟩:=yaa.1 I;have l:ids[i]? =some n.id:=by rw[e,yca,hn];rfl
  have T:=zhO l;have U:∀(a b c:Entry) (kv:List (AV×AV)) (t:TypeId) (M:List AV),a.isItr=false->b.isItr=false->c.isItr=false->zbr (a::b:: .mp kv::c::(p++ [.var t M]))=true:=λa b c kv t M ha hb O=>by have:=(w.var t M).eq;simp only[zbr,List.all_cons,ha,hb,O]at this⊢;simp[Entry.isItr]at this⊢;exact this
  have o:=U (.var 30 (zag d)) (.var 30 [.int .i64 0,.nils,.nils,.nils,.nils,.int .i64 0]) (.var 99 [.map 2]) (kvs (ids.take i)) 101 (zcD n) rfl rfl rfl;simp only[zag,zcD]at o;simp[H,h9,v,I,zcD,zag,splice,ztn (zqr R l),o,S, -zaQ, -zd2, -zbr, -Entry.isItr];refine nx_i ⟨i+1,p++ [.var 101 (zcD n)],rfl,by omega,by simp[J],by simp[s],by simp[F],by simp[H],by simp[h9],by simp[u],by simp,w.var _ _, ?_⟩;rw[T];simp[zcD]
 .have W:i=d.names.length:=by omega
  have A:ids.length=d.names.length:=by rw[e];simp
  rw[W,<-A,yav];have B:∀c∈zam d.names,∀x∈c,x≠ .nils:=λc I=>by obtain⟨n,_,rfl⟩:=yar.1 I;simp[zcD]
  simp[J];refine zad (zqf (zam d.names) (zdp _) (by omega) B) ?_;simp[J];refine zad (zqf (zam d.names) (zdp _) (by omega) B) ?_;simp[s,zag,splice];refine zai (zul (zau d.files) (zec d.files) (by omega)) ?_;rintro r σ (⟨h0,rfl,rfl⟩|⟨rfl,rfl⟩)
  .simp[H];refine zai (zwa 179 [.ptr 3 0]) ?_;rintro r σ ⟨rfl,rfl⟩;have Y:d.files= []:=by simpa[zau]using h0
   simp[s,F,splice];simp[zbx,Y,zau,zaI]
  .simp[H];obtain⟨pre,g⟩:∃pre:zaa,pre=.var 30 [.int .i64 d.quota,.lst (zau d.files),.lst (zam d.names),.lst (zam d.names),.nils,.int .i64 d.next]:: .var 30 [.int .i64 0,.nils,.nils,.nils,.nils,.int .i64 0]:: .mp (kvs ids):: .var 99 [.map 2]::p:=⟨_,rfl⟩;have Z:pre.length=p.length+1+1+1+1:=by rw[g];rfl
   have kA:=zoV (G:=G) (pre:=pre) (k:=3) (j:=2) (ids:=ids) (by rw[g];rfl) (by rw[g];rfl) d.files (λc=> !decide (idC c∈ids)) (λf=>by rw[zqj]);have kD:=z9Y (G:=G) pre (zau d.files) (zec d.files) (by omega) (λc=> !decide (idC c∈ids)) 179 [.ptr 3 0] ziU kA;have C:((zau d.files).filter λn=> !!decide (idC n∈ids))=zau (zbx d).files:=(by rw[znA d.files (λf=>decide (∃n∈d.names,n.id=f.id)) _ (λf=>by rw[zqj,e];simp)];rfl);rw[C,Z,g]at kD;refine zai kD ?_;rintro r σ ⟨X,rfl,q,y,K⟩;replace K:=K.imp_right (And.imp_right wkD);have D:∀(σ:zaa) (m k:Nat),(X.mapM λ(c:List AV)=>c.mapM (fz σ m k))=some (X.map λc=>c.map zrj):=λσ m k=>z05 y.2.1;have ab:X.length=d.files.length:=(by rw[q,Q]);rcases K with ⟨rfl,rfl⟩|⟨rfl,L⟩
   .simp[s,F,splice,D,q];rw[znN];simp[zbx,zaI]
   .have E:∀a∈X,a.length=3:=y.1;have aa:(X.map λc=>c.map zrj).take (zau (zbx d).files).length=zau (zbx d).files:=(by rw[<-ydh,L,znN]);simp[s,F,splice,D,q];rw[if_pos E,aa];simp[zbx,zaI]
theorem zxX (d:DiskM)(h:RightM d)(hl:Fits d):PT 103 [.agg (zag d)] (λr=>r=.tup [.agg (zag (zbx d)),.int .i64 0]):=by refine pwP zs3 ?_;simp[zlk,zag];refine zad (zj1 d h hl) ?_;simp;refine zad (zzk d h hl) ?_;simp[zag]
end Go.Proofs.YtdbhocoeolhjhaaGreatDoor
namespace Go.Sf
open Go.Abs Go.Num
structure MetM where
 id:Nat
 path:Txt
 lad:LadM
 base:Nat
 last:Nat
 count:Nat
structure ShM where
 disk:DiskM
 mets:List MetM
 next:Nat
 left:Int
 down:Bool
abbrev kM:MetM->Txt:=MetM.path
def metC (m:MetM):List AV:= [.int .i64 m.id,.str m.path,.lst rungsC,.int .i64 1,.int .i64 500000,.int .i64 1,.int .i64 500000,.lst (zak m.lad),.int .i64 m.base,.int .i64 m.last,.int .i64 m.count]
def zcw (l:List MetM):List (List AV):=l.map metC
def shC (s:ShM):List AV:= [.int .i64 s.disk.quota,.lst (zau s.disk.files),.lst (zam s.disk.names),.lst (zam s.disk.kept),.lst (zaI s.disk.moves),.int .i64 s.disk.next,.lst (zcw s.mets),.int .i64 s.next,.int .i64 s.left,.bool s.down]
theorem zch (l:List MetM):(zcw l).length=l.length:=by simp[zcw]
theorem zm5 {l:List MetM}{i:Nat}{m:MetM}(h:l[i]? =some m):(zcw l)[i]? =some (metC m):=by simp[zcw,h]
theorem z32 {l:List MetM}{i:Nat}{c:List AV}(h:(zcw l)[i]? =some c):∃m,l[i]? =some m/\c=metC m:=by simp only[zcw,yca,yae]at h;obtain⟨m,a,b⟩:=h;exact⟨m,a,b.symm⟩
theorem znp (l:List MetM):Els 11 (zcw l):=by refine⟨λc a=> ?_,λc a=> ?_,λc a=> ?_⟩<;>obtain⟨n,_,rfl⟩:=yar.1 a<;>simp[metC,AV.pure,AV.one]
theorem zu3 (σ:zaa)(m k:Nat)(l:List MetM):((zcw l).mapM λ(c:List AV)=>c.mapM (fz σ m k))=some (zcw l):=zfV (znp l).2.1 (λc a=>by obtain⟨n,_,rfl⟩:=yar.1 a;simp[metC])
theorem z48 (l:List MetM)(x:MetM):(zcw l).take (posK kM l x.path)++metC x::(zcw l).drop (posK kM l x.path)=zcw (insK kM l x):=by simp[zcw,insK]
def zby (s:ShM)(m:MetM):ShM:=if hasK kM s.mets m.path then{s with mets:=s.mets.set (posK kM s.mets m.path) m}else{s with mets:=insK kM s.mets m,next:=max s.next (m.id+1)}
def kindP:Txt:= [46,112]
def kindC:Txt:= [46,99]
def zdv:Txt:= [46,116]
def zaj (id seq:Nat)(kind:Txt):Txt:=Lib.decDigits id++ [46]++Lib.decDigits seq++kind
def P4:List Txt:= [[97],[98],[97,46,99],[100,46,101,46,102]]
def numT (s:Txt):Nat:=s.foldl (λn b=>n*10+(b.toNat-48)) 0
def z9K (s:Txt):Nat×Nat×Txt:=let a:=s.takeWhile (· ≠46)
 let r:=(s.dropWhile (· ≠46)).drop 1
 (numT a,numT (r.takeWhile (· ≠46)),r.dropWhile (· ≠46))
theorem zsV:∀n<100,(∀c∈Lib.decDigits n,c≠46)/\numT (Lib.decDigits n)=n/\Lib.decDigits n≠ []/\(Lib.decDigits n).length<=2:=by decide+kernel
theorem z3T {r:Txt}:∀{a:Txt},(∀c∈a,c≠46)->(a++46::r).takeWhile (· ≠46)=a/\(a++46::r).dropWhile (· ≠46)=46::r
 | [],_=>by simp
 |c::a,h=>by
  have b:=h c (by simp);obtain⟨d,e⟩:=z3T (r:=r) (a:=a) λx f=>h x (by simp[f]);simp only[ybp];constructor;.rw[List.takeWhile_cons_of_pos (by simpa using b),d]
  .rw[List.dropWhile_cons_of_pos (by simpa using b),e]
theorem zAd:∀k∈ [kindP,kindC,zdv],∃c,k=46::c/\c.length=1:=by intro k a;simp at a;rcases a with rfl|rfl|rfl<;>exact⟨_,rfl,rfl⟩
theorem zwj (id:Nat)(hi:id<71)(q:Nat)(hq:q<70)(k:Txt)(hk:k∈ [kindP,kindC,zdv]):z9K (zaj id q k)=(id,q,k):=by
 obtain⟨c,rfl,_⟩:=zAd k hk;obtain⟨a,b,_,_⟩:=zsV id (by omega);obtain⟨d,f,_,_⟩:=zsV q (by omega);obtain⟨g,h⟩:=z3T (r:=Lib.decDigits q++46::c) a;obtain⟨i,j⟩:=z3T (r:=c) d;have e:zaj id q (46::c)=Lib.decDigits id++46::(Lib.decDigits q++46::c):=by simp[zaj]
 unfold z9K;rw[e];simp only[g,h,List.drop_one,List.tail_cons,i,j,b,f]
theorem zbI {i j q r:Nat}{k l:Txt}(hi:i<71)(hj:j<71)(hq:q<70)(hr:r<70)(hk:k∈ [kindP,kindC,zdv])(hl:l∈ [kindP,kindC,zdv])(h:zaj i q k=zaj j r l):i=j/\q=r/\k=l:=by have a:=zwj i hi q hq k hk;have b:=zwj j hj r hr l hl;rw[h,b]at a;simpa[eq_comm]using a
theorem ztb (id:Nat)(hi:id<71)(q:Nat)(hq:q<70)(k:Txt)(hk:k∈ [kindP,kindC,zdv]):zaj id q k≠ []/\(zaj id q k).length<=96:=by obtain⟨c,rfl,a⟩:=zAd k hk;obtain⟨_,_,b,d⟩:=zsV id (by omega);obtain⟨_,_,_,e⟩:=zsV q (by omega);refine⟨by simp[zaj], ?_⟩;simp only[zaj,yag,ybg,yc1,a];omega
theorem zcz (id:Nat)(hi:id<71)(q:Nat)(hq:q<70)(k:Txt)(hk:k∈ [kindP,kindC,zdv]):okS (zaj id q k):=ztb id hi q hq k hk
theorem z5v {r:Txt}:∀{a b:Txt},(∀c∈a,c≠46)->(∀c∈b,c≠46)->Lib.hasPrefix (a++46::r) (b++ [46])=decide (a=b)
 | [],[],_,_=>by simp[Lib.hasPrefix]
 | [],d::b,_,hb=>by have:=hb d (by simp);simp[Lib.hasPrefix,List.isPrefixOf,this]
 |c::a,[],ha,_=>by have:=ha c (by simp);simp[Lib.hasPrefix,List.isPrefixOf,Ne.symm this]
 |c::a,d::b,ha,hb=>by
  have:=z5v (r:=r) (a:=a) (b:=b) (λx e=>ha x (by simp[e])) (λx e=>hb x (by simp[e]));simp only[Lib.hasPrefix,ybp,List.isPrefixOf]at this⊢;rw[this];by_cases h:c=d;.subst h;simp
  .simp[h,Ne.symm h]
theorem zkz (id:Nat)(hi:id<71)(q:Nat)(hq:q<70)(k:Txt)(hk:k∈ [kindP,kindC,zdv])(j:Nat)(hj:j<71):Lib.hasPrefix (zaj id q k) (Lib.decDigits j++ [46])=decide (id=j):=by
 obtain⟨a,b,_,_⟩:=zsV id (by omega);obtain⟨c,d,_,_⟩:=zsV j (by omega);have e:zaj id q k=Lib.decDigits id++46::(Lib.decDigits q++k):=by simp[zaj]
 rw[e,z5v a c];by_cases h:id=j;.subst h;simp
 .have:Lib.decDigits id≠Lib.decDigits j:=λe=>h (by rw[<-b,<-d,e]);simp[h,this]
end Go.Sf
namespace Go.Sf
def zB2:List Abs.AV:= [.int .i64 0,.str [],.lst [],.int .i64 0,.int .i64 0,.int .i64 0,.int .i64 0,.lst [],.int .i64 0,.int .i64 0,.int .i64 0]
end Go.Sf
namespace Go.Proofs.YtdbhocoeolhjhaaGreatDoor
open Go.Abs Go.RowKit Go.Sf Go.Num
variable {G:Globs}
theorem z0D (m:MetM):PT 43 [.agg (metC m)] (λr=>r=.agg (zbS m.path)):=by refine pwP zwX ?_;simp[zp6,metC,zbS,splice]
theorem zu2:∀i<100,(Lib.decDigits i).length<=2:=by decide+kernel
theorem zk0 (i q:Nat)(k:Txt)(hi:i<100)(hq:q<100)(hk:k.length<=1000):PT 47 [.int .i64 i,.int .i64 q,.str k] (λr=>r=.str (zaj i q k)):=by
 refine pwP zwK ?_;have e:=zu2 i hi;have f:=zu2 q hq;have a:(Lib.decDigits i).length<=9223372036854775806:=by omega
 have g:(Lib.decDigits i).length+(1+(Lib.decDigits q).length)<=9223372036854775807:=by omega
 have b:(Lib.decDigits i).length+((Lib.decDigits q).length+1)<=9223372036854775807:=by omega
 have c:(Lib.decDigits i).length+1+(Lib.decDigits q).length<=9223372036854775807:=by omega
 have d:(Lib.decDigits i).length+((Lib.decDigits q).length+1)+k.length<=9223372036854775807:=by omega
 have h:(Lib.decDigits i).length+((Lib.decDigits q).length+k.length+1)<=9223372036854775807:=by omega
 simp[zoW];refine zad (zxH i hi) ?_;simp[a];refine zad (zxH q hq) ?_;simp[c,d,zaj]
theorem z1R (m:MetM)(s:Txt):PT 78 [.agg (metC m),.str s] (λr=>r=.int .i64 (Lib.compareBytes m.path s)):=by refine pwP zqA ?_;simp[zjB,metC];refine zad (zt9 _ _) ?_;simp
theorem znj (s:ShM)(p:Txt)(hs:Srt kM s.mets)(hl:s.mets.length<=1000000):PT 37 [.agg (shC s),.str p] (λr=>r=.tup [.int .i64 (posK kM s.mets p),.bool (decide (hasK kM s.mets p))]):=by
 refine pwP ztR ?_;simp[zn7,shC];have t:=zlR (key:=kM) s.mets p;have u:=bsMt (G:=G) (zcw s.mets) (znp s.mets) (by rw[zch];omega) (.str p) (by simp[AV.pure]) 78 zqC (posK kM s.mets p) (by rw[zch];exact t) (λi=>match s.mets[i]? with|some n=>Lib.compareBytes n.path p|none=>0) (λi c m=>by obtain⟨n,a,rfl⟩:=z32 m;simp only[a];exact z1R n p) (λi o=>by obtain⟨n,a⟩:∃n,s.mets[i]? =some n:=⟨s.mets[i]'(by omega),yah (by omega)⟩;simp only[a];exact(zqQ _ _).2 (zqK o a)) (λi q j=>by rw[zch]at j;obtain⟨n,a⟩:∃n,s.mets[i]? =some n:=⟨s.mets[i]'j,yah j⟩;simp only[a];have:=zqM hs q a;exact Int.not_lt.1 λh=>this ((zqQ _ _).1 h));refine zad u ?_;simp;rw[zch];by_cases f:hasK kM s.mets p;.obtain⟨n,a,l⟩:=(zdU hs).1 f;have:=(yaa.1 a).1;have v:=(zmp n.path p).2 l;obtain⟨g,d⟩:=yaa.1 a;simp[f,this,v,d]
 .by_cases b:posK kM s.mets p<s.mets.length;.obtain⟨n,a⟩:∃n,s.mets[posK kM s.mets p]? =some n:=⟨s.mets[posK kM s.mets p]'b,yah b⟩;have k:n.path≠p:=λe=>f ((zdU hs).2 ⟨n,a,e⟩);have:¬Lib.compareBytes n.path p=0:=λe=>k ((zmp _ _).1 e);obtain⟨g,d⟩:=yaa.1 a;simp[f,b,this,d]
  .simp[f,b]
theorem z03 (s:ShM)(p:Txt)(hd:s.down=false)(hs:Srt kM s.mets)(hl:s.mets.length<=1000000)(hh:¬hasK kM s.mets p):PT 13 [.agg (shC s),.str p] (λr=>r=.tup [.agg zB2,.int .i64 15]):=by refine pwP zpg ?_;have a:=znj (G:=G) s p hs hl;simp only[shC,hd]at a;simp[zjy,shC,hd];refine zad a ?_;simp[hh,splice,zB2]
theorem zq7 (s:ShM)(p:Txt)(hd:s.down=false)(hs:Srt kM s.mets)(hl:s.mets.length<=1000000){m:MetM}(hm:s.mets[posK kM s.mets p]? =some m)(hh:m.path=p):PT 13 [.agg (shC s),.str p] (λr=>r=.tup [.agg (metC m),.int .i64 0]):=by refine pwP zpg ?_;have b:=znj (G:=G) s p hs hl;have a:hasK kM s.mets p:=(zdU hs).2 ⟨m,hm,hh⟩;have c:=zm5 hm;obtain⟨d,e⟩:=yaa.1 c;simp only[shC,hd]at b;simp[zjy,shC,hd];refine zad b ?_;simp[a,c,metC,splice]
theorem z5m (s:ShM)(p:Txt)(hl:s.mets.length<64):PT 66 [.agg (shC s),.str p,.agg schC] (λr=>r=.tup [.agg (metC ⟨s.next,p,newL,0,0,0⟩),.int .i64 0]):=by
 refine pwP zvh ?_;have k:=zrH (G:=G);have c:=z95 (G:=G) rungsC (by refine⟨?_, ?_, ?_⟩<;>simp[rungsC,AV.pure,AV.one]) (by simp[rungsC]) (by simp[rungsC]);have a:¬(64<=(s.mets.length:Int)):=by omega
 have b:¬(64<=s.mets.length):=by omega
 simp only[schC,ladC]at k;simp[znC,shC,schC];refine zad k ?_;simp[splice,zch,a];refine zad c ?_;simp[splice,metC]
theorem zzP (d:DiskM)(h:RightM d)(hl:Fits d)(n:Nat)(hn:n<=1000000000)(more:Bool)(hf:d.files.length<256):PT 45 [.agg (zag d),.int .i64 n,.bool more] (λr=>r=.int .i64 (if n<=d.quota-zaW d then 0 else 6)):=by
 refine pwP zv7 ?_;have c:=ztW (G:=G) d hl;have j:=h.quota;have k:=h.used;have e:IntKind.i64.wrap ((d.quota:Int)-zaW d)=((d.quota-zaW d:Nat):Int):=wE (by omega);have g:¬(256<=(d.files.length:Int)):=by omega
 have i:¬(256<=d.files.length):=by omega
 simp only[zag]at c;simp[zpm,zag];refine zb3 c ?_;by_cases f:n<=d.quota-zaW d
 .have a:¬((d.quota-zaW d:Nat):Int)<n:=by omega
  have b:¬(d.quota-zaW d)<n:=by omega
  cases more<;>simp[e,f,a,zbh,g]
 .have a:((d.quota-zaW d:Nat):Int)<n:=by omega
  have b:(d.quota-zaW d)<n:=by omega
  simp[e,f,a]
theorem z0f (s:ShM)(m:MetM)(hs:Srt kM s.mets)(hl:s.mets.length<=1000)(hx:s.next<=1000000)(hi:m.id<=1000000):PT 64 [.agg (shC s),.agg (metC m)] (λr=>r=.agg (shC (zby s m))):=by
 refine pwP zwD ?_;have y:=znj (G:=G) s m.path hs (by omega);have C:=zlR (key:=kM) s.mets m.path;have D:=zch s.mets;have d:=wS m.id (by omega);have e:(if(s.next:Int)<m.id+1 then(m.id:Int)+1 else s.next)=((max s.next (m.id+1):Nat):Int):=by split<;>omega
 have E:=zlR (key:=kM) (insK kM s.mets m) m.path;simp only[shC]at y;simp[zpz,shC,metC];refine zad y ?_;simp;refine zai (zCn (zcw s.mets) (znp s.mets) (by omega)) ?_;rintro r σ (⟨B,rfl,rfl⟩|⟨rfl,rfl⟩)
 .have f:s.mets= []:=by simpa[zcw]using B
  have o:¬hasK kM s.mets m.path:=by rw[f];simp[hasK]
  simp[o,splice];have F:posK kM s.mets m.path=0:=by rw[f];rfl
  rw[F];refine zai (z7F (jd:=3) (T2:=57) (c:=metC m) (by simp[metC]) rfl (by simp[metC,AV.pure])) ?_;rintro r σ ⟨rfl,rfl⟩;have j:zby s m={s with mets:= [m],next:=max s.next (m.id+1)}:=by
   unfold zby
   rw[if_neg o,f];rfl
  rw[j];simp[metC,splice,d,zcw,e]
 .by_cases q:hasK kM s.mets m.path
  .obtain⟨n,h,J⟩:=(zdU hs).1 q;have H:=(yaa.1 h).1;have k:=zm5 h;obtain⟨l,a⟩:=yaa.1 k;have z:(zcw s.mets).set (posK kM s.mets m.path) (metC m)=zcw (s.mets.set (posK kM s.mets m.path) m):=(by simp[zcw,List.map_set]);have I:(zcw s.mets).length=(zcw (s.mets.set (posK kM s.mets m.path) m)).length:=(by simp[zcw]);have j:zby s m={s with mets:=s.mets.set (posK kM s.mets m.path) m}:=by
    unfold zby
    rw[if_pos q]
   simp only[metC]at z;have p:posK kM s.mets m.path<(zcw s.mets).length:=by omega
   rw[j];simp[q,splice,a,p,metC,z];rw[I];simp[zu3]
  .simp[q,splice];have j:zby s m={s with mets:=insK kM s.mets m,next:=max s.next (m.id+1)}:=by
    unfold zby
    rw[if_neg q]
   have A:(zcw s.mets).length+1=(zcw (insK kM s.mets m)).length:=(by rw[zch,zch,zkw]);have k:=z48 s.mets m;simp only[metC]at k;have v:(insK kM s.mets m)[posK kM s.mets m.path]? =some m:=(by unfold insK;rw[yam (by rw[yan];exact Nat.min_le_left _ _),yan,ybt C,yc2];rfl);have g:=zm5 v;obtain⟨l,a⟩:=yaa.1 g;have b:(zcw (insK kM s.mets m)).set (posK kM s.mets m.path) (metC m)=zcw (insK kM s.mets m):=(by rw[<-a,ycu]);simp only[metC]at b;by_cases x:posK kM s.mets m.path<s.mets.length;.refine zai (z8p (id:=3) (jd:=4) (T2:=57) (els:=zcw s.mets) (c:=metC m) (i:=posK kM s.mets m.path) (by simp) (by simp[metC]) (by omega) (by rw[zch];exact x) (by rw[zch];omega)) ?_;rintro r σ ⟨rfl,rfl⟩;simp only[metC];rw[k,A,j];simp[splice,d,e,l,a,metC,b,zu3]
   .have w:posK kM s.mets m.path=s.mets.length:=(by omega);have h:=zch s.mets;rw[w,<-h,yav,ydx]at k;rw[w,<-h];refine zai (z7i (id:=3) (jd:=4) (T2:=57) (els:=zcw s.mets) (c:=metC m) (by simp) (by simp[metC]) (znp _) rfl (by simp[metC,AV.pure]) (by rw[zch];omega)) ?_;rintro r σ ⟨rfl,rfl⟩;simp only[metC];rw[k,A,j];rw[w,<-h]at g b;obtain⟨t,u⟩:=yaa.1 g;simp[splice,d,e,t,u,metC,b,zu3]
end Go.Proofs.YtdbhocoeolhjhaaGreatDoor
namespace Go.Sf
open Go.Abs
def wkC (s:ShM):List AV:= [.int .i64 s.disk.quota,.lst (zau s.disk.files),.lst (zam s.disk.names),.lst (zam s.disk.kept),.lst (zaI s.disk.moves),.int .i64 s.disk.next,.lst (zcw s.mets),.int .i64 s.next,.int .i64 s.left,.bool s.down,.int .i64 (if s.down then 22 else 0)]
def opS (D:DiskM)(x:ShM):ShM:=if x.down then x else if x.left=0 then{x with down:=true}else{x with disk:=D,left:=if 0<x.left then x.left-1 else x.left}
def za7 (x:ShM):Prop:= -1<=x.left/\x.left<=1000
theorem zdd {x:ShM}(h:za7 x)(D:DiskM):za7 (opS D x):=by
 unfold opS za7 at*;split;.exact h
 .split;.exact h
  .show -1<=(if 0<x.left then x.left-1 else x.left)/\(if 0<x.left then x.left-1 else x.left)<=1000;split<;>omega
end Go.Sf
namespace Go.Proofs.YtdbhocoeolhjhaaGreatDoor
open Go.Abs Go.RowKit Go.Sf Go.Num
variable {G:Globs}
theorem zaN {σ:zaa}{k:Nat}{e:Entry}(h:σ[k]? =some e)(l:zaa):(σ++l)[k]? =some e:=by rw[yap (yaa.1 h).1];exact h
theorem zaR {σ:zaa}{k:Nat}{e:Entry}(h:σ[k]? =some e)(x:Entry):(σ.set k x)[k]? =some x:=by simp[(yaa.1 h).1]
theorem ziS {σ:zaa}{k:Nat}{e:Entry}(h:σ[k]? =some e)(l:zaa)(x:Entry):(σ++l).set k x=σ.set k x++l:=by rw[List.set_append_left _ _ (yaa.1 h).1]
theorem zqw {σ:zaa}{k:Nat}{e x:Entry}{R:AV->zaa->Prop}{t:Tg R}{res:List (Nat×Option (Bool×Nat))}{f:Abs.Frame}{tf:Tg f}(hk:σ[k]? =some e)(r:AV)(hr:(res.mapM (zee (σ.set k x) f)).map zaK=some r) (hru:r.under (σ.set k x).length=true)
  (hu:x.under (σ.set k x).length=true) (hR:R r (σ.set k x)):er σ R t res f tf (σ.set k x):=by
 refine zbi (σ.set k x) r hr [] (by simp) (by simp) hru (λi c a=> ?_) hR;by_cases b:k=i;.subst b;rw[zaR hk]at a;cases a;exact .inr hu
 .rw[yaj b]at a;exact .inl a
theorem ziw {σ ext:zaa}{k:Nat}{e x:Entry}{R:AV->zaa->Prop}{t:Tg R}{res:List (Nat×Option (Bool×Nat))}{f:Abs.Frame}{tf:Tg f}(hk:σ[k]? =some e)(r:AV)(hr:(res.mapM (zee (σ.set k x++ext) f)).map zaK=some r) (hru:r.under (σ.set k x).length=true)
  (hu:x.under (σ.set k x).length=true) (hR:R r (σ.set k x)):er σ R t res f tf (σ.set k x++ext):=by
 refine zbi (σ.set k x) r hr ext rfl (by simp) hru (λi c a=> ?_) hR;by_cases b:k=i;.subst b;rw[zaR hk]at a;cases a;exact .inr hu
 .rw[yaj b]at a;exact .inl a
theorem zez {σ ext:zaa}{R:AV->zaa->Prop}{t:Tg R}{res:List (Nat×Option (Bool×Nat))}{f:Abs.Frame}{tf:Tg f}(r:AV)(hr:(res.mapM (zee (σ++ext) f)).map zaK=some r) (hru:r.under σ.length=true) (hR:R r σ):er σ R t res f tf (σ++ext):=zbi σ r hr ext rfl (yaf _) hru (λ_ _ h=> .inl h) hR
theorem zth {σ:zaa}{k:Nat}(x:ShM)(hL:za7 x)(g:Nat)(capt:List AV)(D':DiskM)(hb:zaL Tryz.prog g=true)(hk:σ[k]? =some (.var 127 (wkC x)))
  (hc:x.down=false->∀y:ShM,y.disk=x.disk->AT g (.agg (zag x.disk)::capt) (σ.set k (.var 127 (wkC y))) (λr σ'=>r=.tup [.agg (zag D'),.int .i64 0]/\σ'=σ.set k (.var 127 (wkC y)))):
  AT 93 [.ptr k 0,.fn (.func g) [] capt] σ (λr σ'=>r=.tup []/\σ'=σ.set k (.var 127 (wkC (opS D' x)))):=by
 refine pwA zmA ?_;have d:=zaR hk;obtain⟨j,l⟩:=hL;have c:σ.set k (.var 127 (wkC x))=σ:=by obtain⟨m,n⟩:=yaa.1 hk;rw[<-n,ycu]
 cases a:x.down with
 |true=>
  have e:opS D' x=x:=by unfold opS;rw[if_pos a]
  rw[e,c];simp[zcb,hk,wkC,a];exact zbi σ (.tup []) (by simp[zaK]) [] (by simp) (yaf _) (by simp[AV.under]) (λ_ _ h=> .inl h) ⟨rfl,rfl⟩
 |false=>
  by_cases f:x.left=0;.have e:opS D' x={x with down:=true}:=(by unfold opS;rw[if_neg (by simp[a]),if_pos f]);rw[e];simp[zcb,hk,d,wkC,a,f,splice];exact zqw hk (.tup []) (by simp[zaK]) (by simp[AV.under]) (by simp[Entry.under,AV.under]) ⟨rfl,by simp[f]⟩
  .by_cases i:0<x.left;.have e:opS D' x={x with disk:=D',left:=x.left-1}:=(by unfold opS;rw[if_neg (by simp[a]),if_neg f,if_pos i]);have o:IntKind.i64.wrap (x.left-1)=x.left-1:=wI (by omega);have b:=hc a {x with left:=x.left-1} rfl;simp only[zag,wkC,a,ycr,if_false]at b;rw[e];simp[zcb,hk,d,wkC,a,f,i,o,splice];refine zvX hb ?_;refine zai b ?_;rintro r σ' ⟨rfl,rfl⟩;simp[d,splice];exact zqw hk (.tup []) (by simp[zaK]) (by simp[AV.under]) (by simp[Entry.under,AV.under]) ⟨rfl,by simp[a]⟩
   .have e:opS D' x={x with disk:=D'}:=(by unfold opS;rw[if_neg (by simp[a]),if_neg f,if_neg i]);have b:=hc a x rfl;rw[c]at b;simp only[zag]at b;rw[e];simp[zcb,hk,wkC,a,f,i];refine zvX hb ?_;refine zai b ?_;rintro r σ' ⟨rfl,rfl⟩;simp[hk,d,wkC,splice,a];exact zqw hk (.tup []) (by simp[zaK]) (by simp[AV.under]) (by simp[Entry.under,AV.under]) ⟨rfl,by simp[a]⟩
theorem z8h {P:Program}{f:FuncId}{args:List AV}{σ:zaa}{R:AV->Prop}(h:PCalls P f args R)(ha:args.all AV.pure=true):ACalls P f args σ (λr σ'=>R r/\σ'=σ):=λa κ e w g b c=>ztX b c (.inl ⟨args,R,zju ha,h,λr d=>⟨d,rfl⟩⟩)
theorem zyf {σ:zaa}{j:Nat}{n:Txt}(d:DiskM)(hj:σ[j]? =some (.var 9 [.str n]))(h:RightM d)(hl:Fits d)(ho:okS n)(hh:¬hasK kN d.names n)(hf:d.files.length<256)(hx:d.next<1099511627776):
  AT 97 [.agg (zag d),.ptr j 0] σ (λr σ'=>r=.tup [.agg (zag (zar (d) n)),.int .i64 0]/\σ'=σ):=by
 refine pwA ziM ?_;have a:=z0O (G:=G) d n h hl ho hh hf hx;simp only[zag]at a;have b:=zaN hj;simp[ze2,zag,b];refine zad a ?_;simp[splice];exact zez (.tup [.agg (zag (zar (d) n)),.int .i64 0]) (by simp[zaK,zag]) (by simp[AV.under,zag]) ⟨by simp[zag],rfl⟩
theorem z3O {σ:zaa}{j:Nat}{n:Txt}(d:DiskM)(hj:σ[j]? =some (.var 9 [.str n]))(h:RightM d)(hl:Fits d)(ho:okS n)(hh:hasK kN d.names n):
  AT 94 [.agg (zag d),.ptr j 0] σ (λr σ'=>r=.tup [.agg (zag (zcJ (d) n)),.int .i64 0]/\σ'=σ):=by
 refine pwA zjY ?_;have a:=z7k (G:=G) d n h hl ho hh;simp only[zag]at a;have b:=zaN hj;simp[zfD,zag,b];refine zad a ?_;simp[splice];exact zez (.tup [.agg (zag (zcJ (d) n)),.int .i64 0]) (by simp[zaK,zag]) (by simp[AV.under,zag]) ⟨by simp[zag],rfl⟩
theorem zyT {σ:zaa}{j:Nat}{n:Txt}(d:DiskM)(hj:σ[j]? =some (.var 9 [.str n]))(h:RightM d)(hl:Fits d)(ho:okS n)(hh:hasK kN d.names n):
  AT 107 [.agg (zag d),.ptr j 0] σ (λr σ'=>r=.tup [.agg (zag (zcF (d) n)),.int .i64 0]/\σ'=σ):=by
 refine pwA zi1 ?_;have a:=z28 (G:=G) d n h hl ho hh;simp only[zag]at a;have b:=zaN hj;simp[zeg,zag,b];refine zad a ?_;simp[splice];exact zez (.tup [.agg (zag (zcF (d) n)),.int .i64 0]) (by simp[zaK,zag]) (by simp[AV.under,zag]) ⟨by simp[zag],rfl⟩
theorem z9p {σ:zaa}{j i:Nat}{n:Txt}{b:Txt}(d:DiskM)(hj:σ[j]? =some (.var 9 [.str n]))(hi:σ[i]? =some (.var 70 [.lst (byteEls b)])) (h:RightM d) (hl:Fits d) (ho:okS n) (hh:hasK kN d.names n) (hb:b.length<=d.quota-zaW d) (hbl:b.length<=1000000000):
  AT 99 [.agg (zag d),.ptr j 0,.ptr i 0] σ (λr σ'=>r=.tup [.agg (zag (za3 (d) n b)),.int .i64 0]/\σ'=σ):=by
 refine pwA zkJ ?_;have a:=z1x (G:=G) d n b h hl ho hh hb hbl;simp only[zag]at a;have c:=zaN hj;have e:=zaN hi;simp[zgd,zag,c,e];refine zad a ?_;simp[splice];exact zez (.tup [.agg (zag (za3 (d) n b)),.int .i64 0]) (by simp[zaK,zag]) (by simp[AV.under,zag]) ⟨by simp[zag],rfl⟩
theorem zyQ {σ:zaa}{j i:Nat}{n:Txt}{t:Txt}(d:DiskM)(hj:σ[j]? =some (.var 9 [.str n]))(hi:σ[i]? =some (.var 9 [.str t]))(h:RightM d)(hl:Fits d)(ho:okS n)(hh:hasK kN d.names n)(hot:okS t)(hne:t≠n):
  AT 101 [.agg (zag d),.ptr j 0,.ptr i 0] σ (λr σ'=>r=.tup [.agg (zag (zbR (d) n t)),.int .i64 0]/\σ'=σ):=by
 refine pwA ziK ?_;have a:=z2z (G:=G) d n t h hl ho hh hot hne;simp only[zag]at a;have b:=zaN hj;have c:=zaN hi;simp[ze7,zag,b,c];refine zad a ?_;simp[splice];exact zez (.tup [.agg (zag (zbR (d) n t)),.int .i64 0]) (by simp[zaK,zag]) (by simp[AV.under,zag]) ⟨by simp[zag],rfl⟩
theorem zuB {σ:zaa}{k:Nat}{e y a:Entry}(hk:σ[k]? =some e):((σ++ [a]).set k y)[σ.length]? =some a:=by rw[ziS hk,yam (by simp)];simp
theorem zpY {σ:zaa}{k:Nat}{e y a b:Entry}(hk:σ[k]? =some e):((σ++ [a,b]).set k y)[σ.length]? =some a/\((σ++ [a,b]).set k y)[σ.length+1]? =some b:=by constructor<;>rw[ziS hk,yam (by simp)]<;>simp
theorem zoK {σ:zaa}{k:Nat}{n:Txt}(x:ShM)(hL:za7 x)(hk:σ[k]? =some (.var 127 (wkC x)))(h:x.down=false->RightM x.disk/\Fits x.disk/\okS n/\¬hasK kN x.disk.names n/\x.disk.files.length<256/\x.disk.next<1099511627776):
  AT 48 [.ptr k 0,.str n] σ (λr σ'=>r=.tup []/\σ'=σ.set k (.var 127 (wkC (opS (zar x.disk n) x)))):=by
 refine pwA zjC ?_;simp[zfF];have i:=zth (G:=G) (σ:=σ++ [.var 9 [.str n]]) x hL 97 [.ptr (σ.length) 0] (zar x.disk n) ziD (zaN hk _) (λg y j=>by obtain⟨a,b,c,d,e,f⟩:=h g;exact zyf x.disk (zuB hk) a b c d e f);refine zai i ?_;rintro r σ' ⟨rfl,rfl⟩;rw[ziS hk];simp;exact ziw hk (.tup []) (by simp[zaK]) (by simp[AV.under]) (by simp[Entry.under,AV.under,wkC]) ⟨rfl,rfl⟩
theorem zpU {σ:zaa}{k:Nat}{n:Txt}(x:ShM)(hL:za7 x)(hk:σ[k]? =some (.var 127 (wkC x)))(h:x.down=false->RightM x.disk/\Fits x.disk/\okS n/\hasK kN x.disk.names n):
  AT 46 [.ptr k 0,.str n] σ (λr σ'=>r=.tup []/\σ'=σ.set k (.var 127 (wkC (opS (zcJ x.disk n) x)))):=by
 refine pwA zl0 ?_;simp[zgE];have f:=zth (G:=G) (σ:=σ++ [.var 9 [.str n]]) x hL 94 [.ptr (σ.length) 0] (zcJ x.disk n) zj0 (zaN hk _) (λe y g=>by obtain⟨a,b,c,d⟩:=h e;exact z3O x.disk (zuB hk) a b c d);refine zai f ?_;rintro r σ' ⟨rfl,rfl⟩;rw[ziS hk];simp;exact ziw hk (.tup []) (by simp[zaK]) (by simp[AV.under]) (by simp[Entry.under,AV.under,wkC]) ⟨rfl,rfl⟩
theorem ztD {σ:zaa}{k:Nat}{n:Txt}(x:ShM)(hL:za7 x)(hk:σ[k]? =some (.var 127 (wkC x)))(h:x.down=false->RightM x.disk/\Fits x.disk/\okS n/\hasK kN x.disk.names n):
  AT 53 [.ptr k 0,.str n] σ (λr σ'=>r=.tup []/\σ'=σ.set k (.var 127 (wkC (opS (zcF x.disk n) x)))):=by
 refine pwA zjN ?_;simp[zfL];have f:=zth (G:=G) (σ:=σ++ [.var 9 [.str n]]) x hL 107 [.ptr (σ.length) 0] (zcF x.disk n) ziA (zaN hk _) (λe y g=>by obtain⟨a,b,c,d⟩:=h e;exact zyT x.disk (zuB hk) a b c d);refine zai f ?_;rintro r σ' ⟨rfl,rfl⟩;rw[ziS hk];simp;exact ziw hk (.tup []) (by simp[zaK]) (by simp[AV.under]) (by simp[Entry.under,AV.under,wkC]) ⟨rfl,rfl⟩
theorem ztS {σ:zaa}{k:Nat}{n b:Txt}(x:ShM)(hL:za7 x)(hk:σ[k]? =some (.var 127 (wkC x)))(hbl:b.length<=1000000000)(h:x.down=false->RightM x.disk/\Fits x.disk/\okS n/\hasK kN x.disk.names n/\b.length<=x.disk.quota-zaW x.disk):
  AT 49 [.ptr k 0,.str n,.lst (byteEls b)] σ (λr σ'=>r=.tup []/\σ'=σ.set k (.var 127 (wkC (opS (za3 x.disk n b) x)))):=by
 refine pwA zmZ ?_;simp[zgX];have i:=zth (G:=G) (σ:=σ++ [.var 9 [.str n],.var 70 [.lst (byteEls b)]]) x hL 99 [.ptr (σ.length) 0,.ptr (σ.length+1) 0] (za3 x.disk n b) zkI (zaN hk _) (λg y j=>by obtain⟨a,c,d,e,f⟩:=h g;exact z9p x.disk (zpY hk).1 (zpY hk).2 a c d e f hbl);refine zai i ?_;rintro r σ' ⟨rfl,rfl⟩;rw[ziS hk];simp;exact ziw hk (.tup []) (by simp[zaK]) (by simp[AV.under]) (by simp[Entry.under,AV.under,wkC]) ⟨rfl,rfl⟩
theorem z1C {σ:zaa}{k:Nat}{n t:Txt}(x:ShM)(hL:za7 x)(hk:σ[k]? =some (.var 127 (wkC x)))(h:x.down=false->RightM x.disk/\Fits x.disk/\okS n/\hasK kN x.disk.names n/\okS t/\t≠n):
  AT 50 [.ptr k 0,.str n,.str t] σ (λr σ'=>r=.tup []/\σ'=σ.set k (.var 127 (wkC (opS (zbR x.disk n t) x)))):=by
 refine pwA zj2 ?_;simp[zf2];have i:=zth (G:=G) (σ:=σ++ [.var 9 [.str n],.var 9 [.str t]]) x hL 101 [.ptr (σ.length) 0,.ptr (σ.length+1) 0] (zbR x.disk n t) zi3 (zaN hk _) (λg y j=>by obtain⟨a,b,c,d,e,f⟩:=h g;exact zyQ x.disk (zpY hk).1 (zpY hk).2 a b c d e f);refine zai i ?_;rintro r σ' ⟨rfl,rfl⟩;rw[ziS hk];simp;exact ziw hk (.tup []) (by simp[zaK]) (by simp[AV.under]) (by simp[Entry.under,AV.under,wkC]) ⟨rfl,rfl⟩
def zdm (x:ShM):ShM:=if x.disk.moves= []then x else opS (zbx x.disk) x
theorem znb {σ:zaa}{k:Nat}(x:ShM)(hL:za7 x)(hk:σ[k]? =some (.var 127 (wkC x)))(h:x.down=false->RightM x.disk/\Fits x.disk):
  AT 51 [.ptr k 0] σ (λr σ'=>r=.tup []/\σ'=σ.set k (.var 127 (wkC (zdm x)))):=by
 refine pwA zlK ?_;have g:(zaI x.disk.moves).length=x.disk.moves.length:=by simp[zaI]
 unfold zdm;by_cases c:x.disk.moves= []
 .have a:σ.set k (.var 127 (wkC x))=σ:=by obtain⟨e,f⟩:=yaa.1 hk;rw[<-f,ycu]
  rw[if_pos c,a];simp[zdQ,hk,wkC,c,zaI];exact zbi σ (.tup []) (by simp[zaK]) [] (by simp) (yaf _) (by simp[AV.under]) (λ_ _ h=> .inl h) ⟨rfl,rfl⟩
 .have b:0<x.disk.moves.length:=ycw.2 c;rw[if_neg c];simp[zdQ,hk,wkC,g,b];refine zai (zth (G:=G) x hL 103 [] (zbx x.disk) zsj hk λd y i=>z8h (zxX x.disk (h d).1 (h d).2) (by simp[AV.pure,zag])) ?_;rintro r σ' ⟨rfl,rfl⟩;simp;exact zqw hk (.tup []) (by simp[zaK]) (by simp[AV.under]) (by simp[Entry.under,AV.under,wkC]) ⟨rfl,by simp[wkC]⟩
def zma (y:ShM)(m:MetM):ShM:=if y.down then y else zby y m
def zgg (y:ShM):Int:=if y.down then 22 else 0
end Go.Proofs.YtdbhocoeolhjhaaGreatDoor
namespace Go.Proofs.YtdbhocoeolhjhaaGreatDoor
open Go.Sf Go.Num
structure SizeM (d:DiskM)(a k:Nat):Prop where
 right:RightM d
 quota:d.quota<=65535
 files:d.files.length<=a
 next:d.next<=a+1
 moves:d.moves.length<=k
 okm:∀m∈d.moves,z8r m
theorem ztN {l:List Nat}{x:Nat}(h:x∈l):x<=l.sum:=by
 induction l with
 |nil=>cases h
 |cons y l a=>
  rw[List.sum_cons];rcases ybe.1 h with rfl|h
  .omega
  .have:=a h;omega
theorem nodup_len {α:Type} [BEq α] [LawfulBEq α]{l m:List α}(h:l.Nodup)(hs:∀i∈l,i∈m):l.length<=m.length:=by
 induction l generalizing m with
 |nil=>simp
 |cons x l d=>have b:=hs x (by simp);have c:=yef.1 h;have:=d (m:=m.erase x) c.2 λi a=>(List.mem_erase_of_ne (λe=>c.1 (by rw[<-e];exact a))).2 (hs i (by simp[a]));rw[List.length_erase_of_mem b]at this;have:=List.length_pos_of_mem b;simp;omega
theorem zfN {d:DiskM}(h:RightM d):d.names.length<=d.files.length:=by rw[<-h.count];have:=nodup_len h.names.ids (m:=idsM d) (λi b=>by obtain⟨n,a,rfl⟩:=yar.1 b;exact h.nids n a);simpa using this
theorem SizeM.fits {d:DiskM}{a k:Nat}(h:SizeM d a k)(ha:a<=1000)(hk:k<=500000):Fits d:=by have e:=h.files;have g:=zfN h.right;have i:=h.right.nkept;have j:=h.moves;refine⟨by omega,by omega,by omega,by omega,λf b=> ?_,h.okm⟩;have c:=h.right.used;have l:=h.quota;have:f.bytes.length<=zbH d.files:=ztN (yar.2 ⟨f,b,rfl⟩);unfold zaW at c;omega
theorem SizeM.more {d:DiskM}{a k a' k':Nat}(h:SizeM d a k)(ha:a<=a')(hk:k<=k'):SizeM d a' k':=⟨h.right,h.quota,by have:=h.files;omega,by have:=h.next;omega,by have:=h.moves;omega,h.okm⟩
theorem zuK {s:Txt}(h:okS s):s.length<=96:=h.2
theorem zfm {d:DiskM}{a k:Nat}{n:Txt}(h:SizeM d a k)(ho:okS n)(hn:¬hasK kN d.names n)(ha:a<250):SizeM (zar d n) (a+1) (k+1):=by
 have e:=h.files;have f:=h.next;have g:=h.moves;refine⟨zpq h.right ho hn (by omega) (by omega),h.quota, ?_, ?_, ?_,λm b=> ?_⟩;.show(d.files++ [_]).length<=_;simp;omega
 .show d.next+1<=_;omega
 .show(d.moves++ [_]).length<=_;simp;omega
 .rcases yai.1 (show m∈d.moves++ [_] from b)with h|h;.rename_i c;exact c.okm m h
  .simp at h;subst h;have:=zuK ho;refine⟨?_, ?_, ?_, ?_⟩<;>simp<;>omega
theorem zgC (d:DiskM)(n:Txt):zaW (zar d n)=zaW d:=by simp[zaW,zbH,zar]
theorem z2G (fs:List FileM)(id:Nat)(g:FileM->FileM):(modF fs id g).length=fs.length:=by simp[modF]
theorem size_append {d:DiskM}{a k:Nat}{n b:Txt}(h:SizeM d a k)(hb:b.length<=d.quota-zaW d):SizeM (za3 d n b) a k:=⟨zvG h.right hb,h.quota,by show(modF _ _ _).length<=_;rw[z2G];exact h.files,h.next,h.moves,h.okm⟩
theorem zrd {d:DiskM}{a k:Nat}{n:Txt}(h:SizeM d a k):SizeM (zcJ d n) a k:=⟨zos h.right,h.quota,by show(modF _ _ _).length<=_;rw[z2G];exact h.files,h.next,h.moves,h.okm⟩
theorem zpa {d:DiskM}{a k:Nat}(h:SizeM d a k):SizeM (zbx d) a 0:=⟨zmS h.right,h.quota,ybu (ycs _ _) h.files,h.next,yaf _,by simp[zbx]⟩
theorem zzf {d:DiskM}{a k:Nat}{n:Txt}(h:SizeM d a k)(ho:okS n)(hh:hasK kN d.names n):SizeM (zcF d n) a (k+1):=by
 have e:=h.moves;refine⟨zji h.right ho hh,h.quota,h.files,h.next, ?_,λm c=> ?_⟩;.show(d.moves++ [_]).length<=_;simp;omega
 .rcases yai.1 (show m∈d.moves++ [_] from c)with b|b;.exact h.okm m b
  .simp at b;subst b;have:=zuK ho;refine⟨?_, ?_, ?_, ?_⟩<;>simp<;>omega
theorem zyc {d:DiskM}{a k:Nat}{n t:Txt}(h:SizeM d a k)(ho:okS n)(hh:hasK kN d.names n)(hot:okS t)(hne:t≠n):SizeM (zbR d n t) a (k+1):=by
 have e:=h.moves;refine⟨zwf h.right ho hh hot hne,h.quota,h.files,h.next, ?_,λm c=> ?_⟩;.show(d.moves++ [_]).length<=_;simp;omega
 .rcases yai.1 (show m∈d.moves++ [_] from c)with b|b;.exact h.okm m b
  .simp at b;subst b;have:=zuK ho;have:=zuK hot;refine⟨?_, ?_, ?_, ?_⟩<;>simp<;>omega
theorem zhJ {d:DiskM}{n s:Txt}:hasK kN (zar d n).names s↔s=n∨hasK kN d.names s:=by
 constructor
 .rintro⟨x,a,b⟩;rcases zaH.1 (show x∈insK kN d.names ⟨n,d.next⟩ from a)with rfl|a
  .exact .inl b.symm
  .exact .inr ⟨x,a,b⟩
 .rintro(rfl|⟨x,a,b⟩);.exact⟨⟨s,d.next⟩,zaH.2 (.inl rfl),rfl⟩
  .exact⟨x,zaH.2 (.inr a),b⟩
theorem ztc {d:DiskM}{n s:Txt}(h:RightM d)(hh:hasK kN d.names n):hasK kN (zcF d n).names s↔s≠n/\hasK kN d.names s:=by
 constructor;.rintro⟨x,b,a⟩;obtain⟨f,g⟩:=(zcA h.names.srt hh).1 (show x∈delK kN d.names n from b);exact⟨λe=>g (a.trans e),x,f,a⟩
 .rintro⟨c,x,b,a⟩;exact⟨x,(zcA h.names.srt hh).2 ⟨b,λe=>c (a.symm.trans e)⟩,a⟩
theorem zt3 {d:DiskM}{n t s:Txt}(h:RightM d)(hh:hasK kN d.names n):hasK kN (zbR d n t).names s↔s=t∨(s≠n/\hasK kN d.names s):=by
 have c:Srt kN (delK kN d.names n):=zgj h.names.srt;constructor
 .rintro⟨x,b,a⟩;rcases zaH.1 (show x∈insK kN (zfS (delK kN d.names n) t) ⟨t,idOf d.names n⟩ from b)with rfl|b
  .exact .inl a.symm
  .obtain⟨i,l⟩:=(zkm c).1 b;obtain⟨j,k⟩:=(zcA h.names.srt hh).1 i;exact .inr ⟨λe=>k (a.trans e),x,j,a⟩
 .rintro(rfl|⟨g,x,b,a⟩);.exact⟨⟨s,idOf d.names n⟩,zaH.2 (.inl rfl),rfl⟩
  .by_cases f:s=t;.subst f;exact⟨⟨s,idOf d.names n⟩,zaH.2 (.inl rfl),rfl⟩
   .exact⟨x,zaH.2 (.inr ((zkm c).2 ⟨(zcA h.names.srt hh).2 ⟨b,λe=>g (a.symm.trans e)⟩,λe=>f (a.symm.trans e)⟩)),a⟩
def zax (d:DiskM)(l:List Txt):DiskM:=l.foldl zcF d
theorem zhf (d:DiskM)(l:List Txt)(n:Txt):zax d (l++ [n])=zcF (zax d l) n:=by simp[zax]
theorem zce {a:Nat}:∀{l:List Txt} {d:DiskM} {k:Nat},SizeM d a k->l.Nodup->(∀n∈l,okS n/\hasK kN d.names n)->SizeM (zax d l) a (k+l.length)/\∀s,hasK kN (zax d l).names s↔s∉l/\hasK kN d.names s
 | [],d,k,h,_,_=>⟨h,λs=>by simp[zax]⟩
 |n::l,d,k,h,hnd,hl=>by
  have f:=hl n (by simp);have b:=yef.1 hnd;have p:=zzf h f.1 f.2;obtain⟨m,o⟩:=zce (l:=l) p b.2 λx j=>⟨(hl x (by simp[j])).1,(ztc h.right f.2).2 ⟨λe=>b.1 (by rw[<-e];exact j),(hl x (by simp[j])).2⟩⟩;have e:zax d (n::l)=zax (zcF d n) l:=rfl;rw[e];refine⟨by have c:k+(n::l).length=k+1+l.length:=(by simp;omega);rw[c];exact m,λs=> ?_⟩
  rw[o s,ztc h.right f.2];simp only[ybe,not_or];constructor;.rintro⟨g,c,i⟩;exact⟨⟨c,g⟩,i⟩
  .rintro⟨⟨c,g⟩,i⟩;exact⟨g,c,i⟩
abbrev zbp:List Txt:= [kindP,kindC,zdv]
def zvm (m:MetM)(t:Txt):Prop:=∃q kd,t=zaj m.id q kd/\1<=q/\q<=max m.base m.last/\(kd=kindP∨kd=kindC)
theorem kd3 {kd:Txt}(h:kd=kindP∨kd=kindC):kd∈zbp:=by rcases h with rfl|rfl<;>simp
structure InvS (s:ShM)(a k:Nat):Prop where
 size:SizeM s.disk a k
 srt:Srt kM s.mets
 paths:∀m∈s.mets,m.path∈P4
 next:s.next<=a+1
 n1:1<=s.next
 a69:a<=69
 ids:∀m∈s.mets,1<=m.id/\m.id<s.next
 idn:(s.mets.map MetM.id).Nodup
 lad:∀m∈s.mets,RightL m.lad
 seq:∀m∈s.mets,max m.base m.last<=a
 cnt:∀m∈s.mets,m.count<=1000
 last:∀m∈s.mets,0<m.last->hasK kN s.disk.names (zaj m.id m.last kindP)
 dir:∀t,hasK kN s.disk.names t->∃m∈s.mets,zvm m t
theorem zng {l:List MetM}(h:Srt kM l):(l.map MetM.path).Nodup:=by rw[ya9,yb0];exact h.imp λb e=>by have a:MetM.path _<MetM.path _:=b;rw[e]at a;exact zcy _ a
theorem InvS.len {s:ShM}{a k:Nat}(h:InvS s a k):s.mets.length<=4:=by
 have:=nodup_len (zng h.srt) (m:=P4) λp c=>by obtain⟨m,b,rfl⟩:=yar.1 c;exact h.paths m b
 simpa[P4]using this
def znd (s:ShM)(p:Txt):MetM:=⟨s.next,p,newL,0,0,0⟩
def zal (s:ShM)(p:Txt):MetM:=if hasK kM s.mets p then(s.mets[posK kM s.mets p]?).getD (znd s p)else znd s p
theorem zdN {s:ShM}{p:Txt}(h:¬hasK kM s.mets p):zal s p=znd s p:=by unfold zal;rw[if_neg h]
theorem zcY {s:ShM}{p:Txt}(hs:Srt kM s.mets)(h:hasK kM s.mets p):s.mets[posK kM s.mets p]? =some (zal s p)/\(zal s p).path=p:=by
 obtain⟨m,a,b⟩:=(zdU hs).1 h;have:zal s p=m:=by unfold zal;rw[if_pos h,a];rfl
 rw[this];exact⟨a,b⟩
structure OkMet (s:ShM)(p:Txt)(a:Nat)(m:MetM):Prop where
 path:m.path=p
 id1:1<=m.id
 id5:m.id<71
 lad:RightL m.lad
 seq:max m.base m.last<=a
 cnt:m.count<=1000
 others:∀x∈s.mets,x.path≠p->x.id≠m.id
 last:0<m.last->hasK kN s.disk.names (zaj m.id m.last kindP)
 dir:∀t,hasK kN s.disk.names t->zvm m t∨∃x∈s.mets,x.path≠p/\zvm x t
theorem InvS.id5 {s:ShM}{a k:Nat}(h:InvS s a k){m:MetM}(hm:m∈s.mets):m.id<71:=by have b:=(h.ids m hm).2;have c:=h.next;have d:=h.a69;omega
theorem zex {α:Type}{R:α->α->Prop}{l:List α}(h:l.Pairwise R){i j:Nat}{x y:α}(hij:i<j)(hx:l[i]? =some x)(hy:l[j]? =some y):R x y:=by obtain⟨a,rfl⟩:=yaa.1 hx;obtain⟨b,rfl⟩:=yaa.1 hy;exact ybm.1 h i j a b hij
theorem z44 {l:List MetM}(h:(l.map MetM.id).Nodup){x y:MetM}(hx:x∈l)(hy:y∈l)(he:x.id=y.id):x=y:=by
 rw[ya9,yb0]at h;obtain⟨i,c⟩:=ybb hx;obtain⟨j,b⟩:=ybb hy;rcases ycl i j with a|rfl|a
 .exact absurd he (zex h a c b)
 .rw[c]at b;exact Option.some.inj b
 .exact absurd he.symm (zex h a b c)
theorem InvS.met {s:ShM}{a k:Nat}(h:InvS s a k){p:Txt}(hp:p∈P4):OkMet s p a (zal s p):=by
 by_cases m:hasK kM s.mets p
 .obtain⟨n,g⟩:=zcY h.srt m;have b:=yad n;refine⟨g,(h.ids _ b).1,h.id5 b,h.lad _ b,h.seq _ b,h.cnt _ b,λx c i j=>i ?_,h.last _ b,λt l=> ?_⟩;.have:=z44 h.idn c b j;rw[this];exact g
  .obtain⟨x,c,d⟩:=h.dir t l;by_cases f:x.path=p;.have:x=zal s p:=znK h.srt c b (f.trans g.symm);exact .inl (this▸d)
   .exact .inr ⟨x,c,f,d⟩
 .rw[zdN m];have q:=h.a69;have d:=h.next;refine⟨rfl,by show 1<=s.next;exact h.n1,by show s.next<71;omega,zdl,by simp[znd],by simp[znd],λx c _ j=> ?_,by simp[znd],λt l=> ?_⟩;.have:=(h.ids x c).2;have o:x.id=s.next:=j;omega
  .obtain⟨x,c,d⟩:=h.dir t l;exact .inr ⟨x,c,λe=>m ⟨x,c,e⟩,d⟩
theorem OkMet.fresh {s:ShM}{p:Txt}{a:Nat}{m:MetM}{k:Nat}(h:InvS s a k)(ho:OkMet s p a m)(ha:a<69){q:Nat}{kd:Txt}(hq:max m.base m.last<q)(hq2:q<70)(hk:kd∈zbp):¬hasK kN s.disk.names (zaj m.id q kd):=λj=>by
 rcases ho.dir _ j with ⟨r,f,b,g,i,c⟩|⟨x,d,e,r,f,b,g,i,c⟩;.have l:=ho.seq;have:=zbI ho.id5 ho.id5 hq2 (by omega) hk (kd3 c) b;omega
 .have l:=h.seq x d;have:=zbI ho.id5 (h.id5 d) hq2 (by omega) hk (kd3 c) b;exact ho.others x d e this.1.symm
theorem zf1 {s:ShM}{m x:MetM}(hs:Srt kM s.mets):x∈(zby s m).mets↔x=m∨(x∈s.mets/\x.path≠m.path):=by
 unfold zby
 split
 .rename_i j;obtain⟨y,d,k⟩:=(zdU hs).1 j;obtain⟨g,l⟩:=yaa.1 d;constructor
  .intro b;obtain⟨i,a⟩:=ybb (show x∈s.mets.set (posK kM s.mets m.path) m from b);rw[List.getElem?_set]at a;split at a;.rename_i n;exact .inl (by simpa using a.symm)
   .rename_i c;refine .inr ⟨yad a,λe=>c ?_⟩;have f:x=y:=znK hs (yad a) (yad d) (e.trans k.symm);rcases ycl (posK kM s.mets m.path) i with h|h|h
    .have:=zex hs h d a;rw[f]at this;exact absurd this (zcy _)
    .exact h
    .have:=zex hs h a d;rw[f]at this;exact absurd this (zcy _)
  .rintro(rfl|⟨b,c⟩);.show x∈s.mets.set _ x;rw[List.mem_iff_getElem?];exact⟨posK kM s.mets x.path,by simp[g]⟩
   .obtain⟨i,a⟩:=ybb b;show x∈s.mets.set _ m;rw[List.mem_iff_getElem?];refine⟨i, ?_⟩;rw[yaj];.exact a
    .intro e;subst e;rw[d]at a;have:=Option.some.inj a;subst this;exact c k
 .rename_i j;constructor
  .intro b;rcases zaH.1 (show x∈insK kM s.mets m from b)with h|h
   .exact .inl h
   .exact .inr ⟨h,λe=>j ⟨x,h,e⟩⟩
  .rintro(rfl|⟨b,_⟩);.exact zaH.2 (.inl rfl)
   .exact zaH.2 (.inr b)
theorem zqm {s:ShM}{m:MetM}(hs:Srt kM s.mets){p:Txt}:hasK kM (zby s m).mets p↔p=m.path∨hasK kM s.mets p:=by
 constructor
 .rintro⟨x,b,a⟩;rcases(zf1 hs).1 b with rfl|⟨h,_⟩
  .exact .inl a.symm
  .exact .inr ⟨x,h,a⟩
 .rintro(rfl|⟨x,b,a⟩);.exact⟨m,(zf1 hs).2 (.inl rfl),rfl⟩
  .by_cases c:x.path=m.path;.exact⟨m,(zf1 hs).2 (.inl rfl),c.symm.trans a⟩
   .exact⟨x,(zf1 hs).2 (.inr ⟨b,c⟩),a⟩
theorem zqb {s:ShM}{m:MetM}(hs:Srt kM s.mets):Srt kM (zby s m).mets:=by
 unfold zby
 split
 .rename_i d;obtain⟨y,g,h⟩:=(zdU hs).1 d;obtain⟨c,j⟩:=yaa.1 g;show(s.mets.set (posK kM s.mets m.path) m).Pairwise _;have k:((s.mets.set (posK kM s.mets m.path) m).map kM)=s.mets.map kM:=by
   apply yeg;intro i;rw[yca,yca,List.getElem?_set];split;.rename_i e;subst e;simp[c,h,j]
   .rfl
  have f:(s.mets.map kM).Pairwise λa b=>a<b:=yb0.2 hs;rw[<-k]at f;exact yb0.1 f
 .rename_i d;exact zk4 hs d
theorem z73 {s:ShM}{m:MetM}:(zby s m).mets.length=if hasK kM s.mets m.path then s.mets.length else s.mets.length+1:=by
 unfold zby
 split;.simp
 .exact zkw _ _
theorem zqn {s:ShM}{a k a' k':Nat}{p:Txt}(h:InvS s a k)(hp:p∈P4)(D:DiskM)(hD:SizeM D a' k')(haa:a<=a')(h69:a'<=69)(hg:hasK kM s.mets p∨a+1<=a'){m:MetM}(hpath:m.path=p)(hid:m.id=(zal s p).id)(hlad:RightL m.lad)(hseq:max m.base m.last<=a')(hcnt:m.count<=1000)
  (hlast:0<m.last->hasK kN D.names (zaj m.id m.last kindP)) (hdir:∀t,hasK kN D.names t->zvm m t∨∃x∈s.mets,x.path≠p/\zvm x t)
  (hol:∀x∈s.mets,x.path≠p->0<x.last->hasK kN D.names (zaj x.id x.last kindP)):InvS (zby {s with disk:=D} m) a' k':=by
 have z:=h.met hp;have f:Srt kM ({s with disk:=D}:ShM).mets:=h.srt;have d:(zby {s with disk:=D} m).disk=D:=by unfold zby;split<;>rfl
 have b:∀x,x∈(zby {s with disk:=D} m).mets↔x=m∨(x∈s.mets/\x.path≠p):=λx=>by rw[zf1 f,hpath]
 have g:(zby {s with disk:=D} m).next<=a'+1:=by
  have J:=h.next;unfold zby
  rw[hpath];show(if hasK kM s.mets p then _ else _:ShM).next<=_;by_cases l:hasK kM s.mets p;.rw[if_pos l];show s.next<=_;omega
  .rw[if_neg l];have:m.id=s.next:=by rw[hid,zdN l];rfl
   have:=hg.resolve_left l;show max s.next (m.id+1)<=_;omega
 have o:s.next<=(zby {s with disk:=D} m).next:=by
  unfold zby;split;.exact yaf _
  .exact Nat.le_max_left _ _
 refine⟨by rw[d];exact hD,zqb f,λx e=> ?_,g,ybu h.n1 o,h69,λx e=> ?_, ?_,λx e=> ?_,λx e=> ?_,λx e=> ?_,λx e A=> ?_,λt B=> ?_⟩
 .rcases(b x).1 e with rfl|⟨c,_⟩
  .rw[hpath];exact hp
  .exact h.paths x c
 .rcases(b x).1 e with rfl|⟨c,_⟩
  .refine⟨by rw[hid];exact z.id1, ?_⟩;by_cases l:hasK kM s.mets p;.have G:=yad (zcY h.srt l).1;have:=(h.ids _ G).2;rw[hid];omega
   .unfold zby
    rw[if_neg (by rw[hpath];exact l)];exact ycc (Nat.lt_succ_self _) (Nat.le_max_right _ _)
  .have:=h.ids x c;exact⟨this.1,ycc this.2 o⟩
 .rw[ya9,yb0,ybm];intro i j C E v w;have H:=zqb (m:=m) f;have e:=(b _).1 (yaw C);have I:=(b _).1 (yaw E);have q:=ybm.1 H i j C E v;generalize (zby {s with disk:=D} m).mets[i]=x at*;generalize (zby {s with disk:=D} m).mets[j]=y at*;rcases e with rfl|⟨c,r⟩<;>rcases I with rfl|⟨n,u⟩
  .exact zcy _ q
  .exact z.others y n u (by rw[<-w,hid])
  .exact z.others x c r (by rw[w,hid])
  .have:=z44 h.idn c n w;subst this;exact zcy _ q
 .rcases(b x).1 e with rfl|⟨c,_⟩
  .exact hlad
  .exact h.lad x c
 .rcases(b x).1 e with rfl|⟨c,_⟩
  .exact hseq
  .have:=h.seq x c;omega
 .rcases(b x).1 e with rfl|⟨c,_⟩
  .exact hcnt
  .exact h.cnt x c
 .rw[d];rcases(b x).1 e with rfl|⟨c,n⟩
  .exact hlast A
  .exact hol x c n A
 .rw[d]at B;rcases hdir t B with c|⟨x,c,n,F⟩
  .exact⟨m,(b m).2 (.inl rfl),c⟩
  .exact⟨x,(b x).2 (.inr ⟨c,n⟩),F⟩
end Go.Proofs.YtdbhocoeolhjhaaGreatDoor
