import Derived.Test.YtdbhocoeolhjhaaGreatDoorLay
import Derived.Test.YtdbhocoeolhjhaaGreatDoorSlLay
import Derived.Shelf.SlSortCmp.InsertionK
import Derived.Shelf.SlSortCmp.NoneTotal
import Derived.Test.YtdbhocoeolhjhaaGreatDoorBn3
set_option maxHeartbeats 4000000
set_option linter.unusedSimpArgs false
set_option linter.unusedVariables false
set_option linter.constructorNameAsVariable false
namespace Go.Abs
open Go.RowKit Go.Proofs Go.Shelf
variable {G:Globs}
section
variable {P:Program}{ρ:Ren}{σ:zaa}
theorem zzl (L:Lays8.n4 P ρ)(i0:TypeInfo)(z:Value)(hi0:P.info? (ρ.t 25)=some i0)(hz0:i0.zero=some z)(hs0:0<i0.size)(hzs:z.cells.size=i0.size)(im:Bool){n:Nat}(hb:n*i0.bytes<=140737488355328)(h62:n<=4611686018427387904):
  ACalls P (ρ.f 4) [.nils,.int .i64 n] σ (λr σ'=>r=.row σ.length 0/\σ'=σ++ [.row (ρ.t 25) i0.size [] im]):=by
 intro base κ Im w p q b;obtain⟨u,v,rfl,s,b⟩:∃u v,p= [u,v]/\VR κ Im w .nils u/\VR κ Im w (.int .i64 n) v:=by
  match p,b.1 with
  | [u,v],_=>exact⟨u,v,rfl,b.2 0 (by simp) (by simp),b.2 1 (by simp) (by simp)⟩
 have y:=s.nils_inv;have A:=b.int_inv;subst y;subst A;by_cases B:n=0;.subst B;refine(Any8.slices_Grow_room L none 0 0 0 w (yaf _) (by omega) (by omega) (yaf _)).mono ?_;rintro e w' ⟨rfl,rfl⟩;obtain⟨κ',a,d,g,i⟩:=zo0 (e:=ρ.t 25) (size:=i0.size) (n:=0) (m:= []) (im:=im) (v:=.slice none 0 0) (w':=w') (xs:= []) q rfl hs0 (by simp) (by simp) ⟨by simp,.inl ⟨rfl,rfl⟩⟩ (λ_ _=>rfl) (yaf _) rfl rfl rfl ⟨rfl,λj h=>by simp at h⟩ (λ_=>⟨rfl,λj h=>by simp at h⟩);exact⟨_,_,_,κ',a,rfl,⟨rfl,rfl⟩,g,i,d⟩
 .refine(Any8.slices_Grow_grow L i0 z hi0 hz0 hs0 none 0 0 n [] w (yaf _) (by omega) (by simpa using hb) (by omega) (by simp) (λ_=>rfl) (λ_ h=>by cases h)).mono ?_;rintro e w' ⟨rfl,rfl⟩;have l:=grownCap_ge w (0+n) 0 (ρ.t 25);have o:=grownCap_le_maxLen w (0+n) 0 (ρ.t 25) (by unfold maxLen;omega);have c:(w.drew.alloc (.cells (([]:List Value).toArray++Builtin.zeroCells z.cells (0+n-0)++Builtin.zeroCells z.cells (grownCap w (0+n) 0 (ρ.t 25)-(0+n))) (ρ.t 25))).ownsRow w.heap.size (ρ.t 25) i0.size (.slice (some ⟨w.heap.size,0,none⟩) 0 (grownCap w (0+n) 0 (ρ.t 25))) 0 []:=by refine⟨by simp,.inr ⟨w.heap.size,_,_,rfl,yaf _,heap_alloc_new w.drew _,ycm _,o, ?_,by simp⟩⟩;simp only[ye0,size_zeroCells,ye1,yc1,ybl,hzs,<-ya8];rw[ybl]at l;congr 1;omega
  obtain⟨κ',a,d,g,i⟩:=zo0 (e:=ρ.t 25) (size:=i0.size) (n:=0) (m:= []) (im:=im) (xs:= []) q rfl hs0 (by simp) (by simp) c (λk x=>heap_alloc_old w.drew _ x) (by simp) rfl rfl rfl ⟨rfl,λj h=>by simp at h⟩ (λ_=>⟨rfl,λj h=>by simp at h⟩);exact⟨_,_,_,κ',a,rfl,⟨rfl,rfl⟩,g,i,d⟩
end
end Go.Abs
namespace Go.Sf
open Go.Abs
theorem zcj (a b:Txt):byteEls (a++b)=byteEls a++byteEls b:=by simp[byteEls]
theorem za1 (l:Txt):Els 1 (byteEls l):=by refine⟨λc a=> ?_,λc a=> ?_,λc a=> ?_⟩<;>obtain⟨n,_,rfl⟩:=yar.1 a<;>simp[AV.pure,AV.one]
theorem zae (l:Txt):(byteEls l).length=l.length:=by simp[byteEls]
theorem zfq (σ:zaa)(m k:Nat)(l:Txt):((byteEls l).mapM λ(c:List AV)=>c.mapM (fz σ m k))=some (byteEls l):=zfV (za1 l).2.1 (λc a=>by obtain⟨n,_,rfl⟩:=yar.1 a;simp)
end Go.Sf
namespace Go.Proofs.YtdbhocoeolhjhaaGreatDoor
open Go.Abs Go.RowKit Go.Sf
variable {G:Globs}
theorem z99 {σ:zaa}{n:Nat}(hn:n<=2000000000):AT 134 [.nils,.int .i64 n] σ (λr σ'=>r=.row σ.length 0/\σ'=σ++ [.row 5 1 [] true]):=by
 have a:(Tryz.prog.info? (Tryz.laysGB_ren.t 25)).map (λi=>(i.size,i.bytes,i.zero.map λz=>z.cells.size))=some (1,1,some 1):=by kernel_rfl
 obtain⟨c,b,a⟩:=yae.1 a;simp only[Prod.mk.injEq]at a;obtain⟨d,e,a⟩:=a;obtain⟨z,f,g⟩:=yae.1 a;have:=zzl (G:=G) (σ:=σ) Tryz.laysGB c z b f (by omega) (by omega) true (n:=n) (by rw[e];omega) (by omega);rw[d]at this;exact this
theorem znO (a b:Txt)(ha:a.length<=1000000000)(hb:b.length<=1000000000):PT 70 [.lst [[.lst (byteEls a)],[.lst (byteEls b)]]] (λr=>r=.lst (byteEls (a++b))):=by
 refine pwP zhw ?_;have u:=zae a;have lb:=zae b;simp[zdG];refine zac (λn f σ=>∃i:Nat,n=2-i/\i<=2/\f 0=.lst [[.lst (byteEls a)],[.lst (byteEls b)]]/\f 9=.lst [[.lst (byteEls a)],[.lst (byteEls b)]]/\f 10=.int .i64 2/\f 11=.int .i64 i/\f 3=.int .i64 ((if i=0 then 0 else if i=1 then a.length else a.length+b.length:Nat):Int)/\σ= []) 2 ⟨0,rfl,by omega,by simp,by simp,by simp,by simp,by simp,rfl⟩ ?_;rintro n f σ ⟨i,rfl,t,o,m,c,g,j,rfl⟩;have k:i=0∨i=1∨i=2:=by omega
 rcases k with rfl|rfl|rfl
 .have p:IntKind.i64.wrap (a.length:Int)=a.length:=wI (by omega);have q:¬((a.length:Int)<0):=by omega
  simp at j;simp[m,c,g,j,u,p,q];exact nx_i ⟨1,rfl,by omega,by simp[o],by simp[m],by simp[c],by simp[wrap_i64],by simp,rfl⟩
 .have p:IntKind.i64.wrap ((a.length:Int)+b.length)=(a.length:Int)+b.length:=wI (by omega);have q:¬((a.length:Int)+b.length<0):=by omega
  simp at j;simp[m,c,g,j,lb,p,q];exact nx_i ⟨2,rfl,by omega,by simp[o],by simp[m],by simp[c],by simp[wrap_i64],by simp,rfl⟩
 .simp at j;simp[c,g,j];have s:=z99 (G:=G) (σ:= []) (n:=a.length+b.length) (by omega);simp only[Int.natCast_add]at s;refine zai s ?_;rintro r σ' ⟨rfl,rfl⟩;simp[o];clear m c g j;refine zac (λn f σ'=>∃i:Nat,n=2-i/\i<=2/\f 25=.lst [[.lst (byteEls a)],[.lst (byteEls b)]]/\f 26=.int .i64 2/\f 27=.int .i64 i/\f 6=.row 0 (byteEls (if i=0 then []else if i=1 then a else a++b)).length/\σ'= [.row 5 1 (byteEls (if i=0 then []else if i=1 then a else a++b)) true]) 2 ⟨0,rfl,by omega,by simp,by simp,by simp,by simp[byteEls],by simp[byteEls]⟩ ?_;rintro n f σ' ⟨i,rfl,t,h,d,e,l,rfl⟩;have k:i=0∨i=1∨i=2:=by omega
  rcases k with rfl|rfl|rfl
  .simp at l;simp[h,d,e,l];refine zbJ (byteEls []) (byteEls a) true (by simp) rfl (by omega) (za1 a).1 (λ_=> .inl rfl) rfl (by simp[byteEls];omega) (by simp[byteEls];omega) ?_;simp[e];refine nx_i ⟨1,rfl,by omega,by simp[h],by simp[d],by simp[wrap_i64], ?_, ?_⟩;.simp[byteEls]
   .simp[byteEls]
  .simp at l;simp[h,d,e,l];refine zbJ (byteEls a) (byteEls b) true (by simp) rfl (by omega) (za1 b).1 (λ_=> .inl rfl) rfl (by simp[byteEls];omega) (by simp[byteEls];omega) ?_;simp[e];refine nx_i ⟨2,rfl,by omega,by simp[h],by simp[d],by simp[wrap_i64], ?_, ?_⟩;.simp[zcj]
   .simp[zcj]
  .simp at l;simp[d,e,l]
end Go.Proofs.YtdbhocoeolhjhaaGreatDoor
namespace Go.Sf
open Go.Abs
def stepsT:List Int:= [0x00000000,0x105ec76f,0x20bd8ede,0x30e349b1,0x417b1dbc,0x5125dad3,0x61c69362,0x7198540d,0x82f63b78,0x92a8fc17,0xa24bb5a6,0xb21572c9,0xc38d26c4,0xd3d3e1ab,0xe330a81a,0xf36e6f75]
def stepsC:List AV:=stepsT.map (AV.int .u32)
def x32 (a b:Int):Int:=IntKind.u32.wrap (BitVec.ofInt IntKind.u32.bits a^^^BitVec.ofInt IntKind.u32.bits b).toNat
def a32 (a b:Int):Int:=IntKind.u32.wrap (BitVec.ofInt IntKind.u32.bits a&&&BitVec.ofInt IntKind.u32.bits b).toNat
def crcN (s:Int):Int:=x32 (s.fdiv 16) (stepsT.getD (a32 s 15).toNat 0)
def crcB (s:Int)(x:UInt8):Int:=crcN (crcN (x32 s (IntKind.u32.wrap x.toNat)))
def crcU (s:Int)(b:Txt):Int:=x32 IntKind.u32.max (b.foldl crcB (x32 IntKind.u32.max s))
def shrI (n:Int):Nat->Int
 |0=>n
 |k+1=>(shrI n k).fdiv 256
def lo8 (n:Int):UInt8:=UInt8.ofNat (IntKind.u8.wrap n).toNat
def leB (n:Int):Nat->Txt
 |0=> []
 |k+1=>leB n k++ [lo8 (shrI n k)]
def putB (b:Txt):Txt:=b++leB (crcU 0 b) 4
def zay (p:Txt):Txt:=putB ([lo8 p.length,lo8 ((p.length:Int).fdiv 256)]++p)
theorem zaC (n:Int):∀k,(leB n k).length=k
 |0=>rfl
 |k+1=>by simp[leB,zaC n k]
theorem z0E (b:Txt):(putB b).length=b.length+4:=by simp[putB,zaC]
theorem zbd (p:Txt):(zay p).length=p.length+6:=by simp[zay,z0E]
theorem zsn (n:Int):0<=IntKind.u8.wrap n/\IntKind.u8.wrap n<256:=by simp[IntKind.wrap,IntKind.signed,IntKind.bits];omega
theorem z4l (n:Int):((lo8 n).toNat:Int)=IntKind.u8.wrap n:=by have:=zsn n;simp only[lo8,UInt8.toNat_ofNat'];omega
theorem zDu (s:Int):0<=a32 s 15/\a32 s 15<16:=by
 have h:(BitVec.ofInt IntKind.u32.bits s&&&BitVec.ofInt IntKind.u32.bits 15).toNat<=15:=by rw[BitVec.toNat_and];exact Nat.and_le_right
 unfold a32;obtain⟨x,a⟩:∃x,x=(BitVec.ofInt IntKind.u32.bits s&&&BitVec.ofInt IntKind.u32.bits 15).toNat:=⟨_,rfl⟩;rw[<-a]at h⊢;simp[IntKind.wrap,IntKind.signed,IntKind.bits];omega
theorem zsP {n:Nat}(h:n<16):(stepsC.drop n).take 1= [.int .u32 (stepsT.getD n 0)]:=by
 have:∀n:Fin 16,(stepsT.drop n.1).take 1= [stepsT.getD n.1 0]:=by decide
 unfold stepsC;rw[<-List.map_drop,<-ydh,this ⟨n,h⟩];rfl
theorem z3z (z:Int):∃n:Nat,n<16/\a32 z 15=n/\crcN z=x32 (z.fdiv 16) (stepsT.getD n 0):=by have h:=zDu z;refine⟨(a32 z 15).toNat,by omega,by omega,rfl⟩
end Go.Sf
namespace Go.Proofs.YtdbhocoeolhjhaaGreatDoor
open Go.Abs Go.RowKit Go.Sf
variable {G:Globs}
theorem zAf (s:Int):zc2 (.int .u32 s)=some (.int .u32 (x32 IntKind.u32.max s)):=rfl
theorem z5U (a b:Int):zaS .xor (.int .u32 a) (.int .u32 b)=some (.int .u32 (x32 a b)):=rfl
theorem z9X (a b:Int):zaS .and (.int .u32 a) (.int .u32 b)=some (.int .u32 (a32 a b)):=rfl
theorem z6d (a:Int):zaS .shr (.int .u32 a) (.int .u64 4)=some (.int .u32 (a.fdiv 16)):=rfl
theorem zBU (a:Int):zaS .shr (.int .u32 a) (.int .u64 8)=some (.int .u32 (a.fdiv 256)):=rfl
theorem z0C (a:Int):zaS .shr (.int .i64 a) (.int .u64 8)=some (.int .i64 (a.fdiv 256)):=rfl
theorem zdh {b:Txt}{i:Nat}{x:UInt8}(h:b[i]? =some x):(byteEls b)[i]? =some [.int .u8 x.toNat]:=by simp[byteEls,h]
attribute [-simp] zaS zc2 zbM zas
theorem zvP (hT:Globs.tab.lookup 2=some stepsC)(s:Int)(b:Txt)(hl:b.length<=1000000000):PT 291 [.int .u32 s,.lst (byteEls b)] (λr=>r=.int .u32 (crcU s b)):=by
 refine pwP zxc ?_;have A:=zae b;simp[zoZ,zAf,A];obtain⟨o,p⟩:∃o,o=x32 IntKind.u32.max s:=⟨_,rfl⟩;rw[<-p];refine zac (λx f σ=>∃i:Nat,x=b.length-i/\i<=b.length/\f 5=.int .u32 ((b.take i).foldl crcB o)/\f 10=.lst (byteEls b)/\f 11=.int .i64 b.length/\f 12=.int .i64 i/\σ= []) b.length ?_ ?_;.exact⟨0,by simp⟩
 rintro x f σ ⟨i,rfl,M,g,d,e,c,rfl⟩;simp[e,c];refine zap (λJ=> ?_) (λK=> ?_)
 .have t:i<b.length:=by omega
  have B:=wS i (by omega);obtain⟨y,F⟩:=gE t;have G:=zdh F;obtain⟨H,I⟩:=yaa.1 G;have C:=tS F;simp[g,d,c,G,zbz,z5U];obtain⟨j,q⟩:∃j,j=(b.take i).foldl crcB o:=⟨_,rfl⟩;rw[<-q];have L:(b.take (i+1)).foldl crcB o=crcN (crcN (x32 j (IntKind.u32.wrap y.toNat))):=by rw[C,List.foldl_append,<-q];rfl
  refine zac (λx f σ=>∃k:Nat,x=2-k/\k<=2/\f 5=.int .u32 (if k=0 then x32 j (IntKind.u32.wrap y.toNat)else if k=1 then crcN (x32 j (IntKind.u32.wrap y.toNat))else crcN (crcN (x32 j (IntKind.u32.wrap y.toNat))))/\f 10=.lst (byteEls b)/\f 11=.int .i64 b.length/\f 12=.int .i64 i/\f 20=.int .i64 k/\σ= []) 2 ?_ ?_;.exact⟨0,by simp,by simp,by simp,by simp[d],by simp[e],by simp[c],by simp⟩
  clear g d e c;rintro x f σ ⟨k,rfl,O,g,d,e,c,m,rfl⟩;have D:k=0∨k=1∨k=2:=by omega
  rcases D with rfl|rfl|rfl
  .simp at g;obtain⟨z,v⟩:∃z,z=x32 j (IntKind.u32.wrap y.toNat):=⟨_,rfl⟩;obtain⟨n,a,w,l⟩:=z3z z;have h:n+1<=stepsC.length:=by simp[stepsC,stepsT];omega
   have u:n<stepsC.length:=h;rw[<-v]at g⊢;simp[g,m,z6d,z9X,wk1,w,a,zbz,hT,h,zsP a,z5U];exact nx_i ⟨1,rfl,by omega,by simp[l],by simp[d],by simp[e],by simp[c],by simp,rfl⟩
  .simp at g;obtain⟨z,v⟩:∃z,z=crcN (x32 j (IntKind.u32.wrap y.toNat)):=⟨_,rfl⟩;obtain⟨n,a,w,l⟩:=z3z z;have h:n+1<=stepsC.length:=by simp[stepsC,stepsT];omega
   have u:n<stepsC.length:=h;rw[<-v]at g⊢;simp[g,m,z6d,z9X,wk2,w,a,zbz,hT,h,zsP a,z5U];exact nx_i ⟨2,rfl,by omega,by simp[l],by simp[d],by simp[e],by simp[c],by simp,rfl⟩
  .simp at g;simp[m,c,B];exact nx_i ⟨i+1,rfl,by omega,by simp[g,L],by simp[d],by simp[e],by simp,rfl⟩
 .have E:i=b.length:=by omega
  subst E;rw[yav]at g;simp[g,zAf];simp[crcU,p]
end Go.Proofs.YtdbhocoeolhjhaaGreatDoor
namespace Go.Abs
variable [Globs]
theorem zrT {σ₀ ext:zaa}{R:AV->zaa->Prop}{t:Tg R}{res:List (Nat×Option (Bool×Nat))}{f:Frame}{tf:Tg f}(r:AV)(hr:(res.mapM (zee (σ₀++ext) f)).map zaK=some r) (hru:r.under (σ₀++ext).length=true)
  (hu:∀e∈ext,e.under (σ₀++ext).length=true) (hR:R r (σ₀++ext)):er σ₀ R t res f tf (σ₀++ext):=by
 refine zbi (σ₀++ext) r hr [] (by simp) (by simp) hru (λi e a=> ?_) hR;rcases ydm i σ₀.length with c|b
 .rw[yap c]at a;exact .inl a
 .rw[yam b]at a;exact .inr (hu e (yad a))
end Go.Abs
namespace Go.Proofs.YtdbhocoeolhjhaaGreatDoor
open Go.Abs Go.RowKit Go.Sf
variable {G:Globs}
attribute [-simp] zaS zc2 zbM zas
theorem z0w (n:Int):([AV.int .u8 (IntKind.u8.wrap n)]:List AV)= [.int .u8 (lo8 n).toNat]:=by rw[z4l]
theorem zrm (b:Txt)(n:Int)(k:Nat):byteEls (b++leB n (k+1))=byteEls (b++leB n k)++ [[.int .u8 (IntKind.u8.wrap (shrI n k))]]:=by rw[z0w,leB,<-yax,zcj];rfl
theorem zw1 (hT:Globs.tab.lookup 2=some stepsC)(b:Txt)(hl:b.length<=1000000000):PT 252 [.lst (byteEls b)] (λr=>r=.int .u32 (crcU 0 b)):=by refine pwP z57 ?_;simp[zvS];refine zad (zvP hT 0 b hl) ?_;simp
theorem z7L (b:Txt)(h:b≠ [])(hl:b.length<=1000000000):AT 56 [.lst (byteEls b)] [] (zwF 5 1 (byteEls b) []):=by
 refine pwA zn6 ?_;have d:=zae b;simp[zi9];refine z8C λc f=> ?_;cases c
 .simp;refine zbJ [] (byteEls b) false (by simp) rfl (by decide) (za1 b).1 (λh=>by cases h) rfl (by omega) (by omega) ?_;simp;refine er_k [.row 5 1 (byteEls b) false] (.row 0 (byteEls b).length) (λi e a=> ?_) (.inr ⟨rfl,rfl⟩);refine .inr ?_
  match i,a with
  |0,a=>simp only[yc8,yab]at a;subst a;exact zaD (za1 b).2.1
  |i+1,a=>simp at a
 .have g:byteEls b= []:=by refine Classical.byContradiction λh=> ?_;cases f h
  rw[g]at d;exact absurd (ydj.1 d.symm) h
theorem zxt (b:Txt)(h:b≠ [])(hl:b.length<=1000000000){σ:zaa}:AT 56 [.lst (byteEls b)] σ (λr σ'=>r=.row σ.length b.length/\σ'=σ++ [.row 5 1 (byteEls b) false]):=by
 refine(zmU (z7L b h hl) (by simp[AV.pure]) (za1 b).2.1).mono ?_;rintro r σ' (⟨a,_,_⟩|⟨rfl,rfl⟩);.have:=zae b;rw[a]at this;exact absurd (ydj.1 this.symm) h
 .exact⟨by rw[zae],rfl⟩
theorem z3v (hT:Globs.tab.lookup 2=some stepsC)(b:Txt)(h:b≠ [])(hl:b.length<=100000000){σ:zaa}:AT 204 [.lst (byteEls b)] σ (λr σ'=>r=.row σ.length (putB b).length/\σ'=σ++ [.row 5 1 (byteEls (putB b)) false]):=by
 refine pwA z6B ?_;simp[zwr];refine zai (zxt b h (by omega)) ?_;rintro r σ' ⟨rfl,rfl⟩;simp;refine zad (zw1 hT b (by omega)) ?_;simp;obtain⟨s,l⟩:∃s,s=crcU 0 b:=⟨_,rfl⟩;rw[<-l];refine zac (λx f σ'=>∃k:Nat,x=4-k/\k<=4/\f 3=.row σ.length (b++leB s k).length/\f 4=.int .u32 (shrI s k)/\f 9=.int .i64 k/\σ'=σ++ [.row 5 1 (byteEls (b++leB s k)) false]) 4 ?_ ?_;.exact⟨0,by simp,by simp,by simp[leB],by simp[shrI],by simp,by simp[leB]⟩
 rintro x f σ' ⟨k,rfl,t,d,m,n,rfl⟩;simp[n];have a:(b++leB s k).length=b.length+k:=by simp[zaC]
 have g:=zae (b++leB s k);refine zap (λp=> ?_) (λq=> ?_)
 .have c:k<4:=by omega
  have i:=wS k (by omega);simp[d,m, -List.length_append];refine zbJ (byteEls (b++leB s k)) [[.int .u8 (IntKind.u8.wrap (shrI s k))]] false (by simp) (by simp[view]) (by decide) (by simp) (λh=>by cases h) (by rw[g]) (by simp[a, -List.length_append];omega) (by simp[a, -List.length_append];omega) ?_;simp[m,n,zBU,i, -List.length_append];refine nx_i ⟨k+1,rfl,by omega, ?_,by simp[shrI],by simp,by simp[zrm]⟩;simp[leB,zaC];omega
 .have c:k=4:=by omega
  subst c;have j:b++leB s 4=putB b:=by rw[l];rfl
  rw[j]at d⊢;simp[d];exact zrT (ext:= [.row 5 1 (byteEls (putB b)) false]) (.row σ.length (putB b).length) (by simp[zaK]) (by simp[AV.under]) (λe o=>by simp only[ybr]at o;subst o;exact zaD (za1 _).2.1) ⟨rfl,rfl⟩
theorem zi5 (hT:Globs.tab.lookup 2=some stepsC)(p:Txt)(h:p≠ [])(hl:p.length<=512){σ:zaa}:AT 133 [.lst (byteEls p)] σ (λr σ'=>r=.tup [.row σ.length (zay p).length,.int .i64 0]/\σ'=σ++ [.row 5 1 (byteEls (zay p)) false]):=by
 refine pwA zyL ?_;have a:=zae p;have d:0<p.length:=ycw.2 h;have g:p.length≠0:=by omega
 have j:¬512<p.length:=by omega
 have b:¬(512:Int)<p.length:=by omega
 have f:=znO (G:=G) [lo8 p.length,lo8 ((p.length:Int).fdiv 256)] p (by simp) (by omega);have hb2:byteEls [lo8 p.length,lo8 ((p.length:Int).fdiv 256)]= [[.int .u8 (IntKind.u8.wrap p.length)],[.int .u8 (IntKind.u8.wrap ((p.length:Int).fdiv 256))]]:=by rw[z0w,z0w];rfl
 rw[hb2]at f;simp[zqt,a,g,b,z0C];refine zad f ?_;simp;have i:=z3v (G:=G) hT ([lo8 p.length,lo8 ((p.length:Int).fdiv 256)]++p) (by simp) (by simp;omega) (σ:=σ);refine zai i ?_;rintro r σ' ⟨rfl,rfl⟩;simp;exact zrT (ext:= [.row 5 1 (byteEls (zay p)) false]) (.tup [.row σ.length (zay p).length,.int .i64 0]) (by simp[zaK,zay]) (by simp[AV.under]) (λe c=>by simp only[ybr]at c;subst c;exact zaD (za1 _).2.1) ⟨rfl,rfl⟩
theorem zca (R0:Entry)(tl:zaa)(b:Txt)(n:Int)(w:Nat)(hw:w<=8)(hl:b.length<=100000000):AT 203 [.ptr 2 0,.int .i64 n,.int .i64 w] (R0:: .row 5 1 (byteEls b) false:: .var 268 [.row 1 b.length]::tl)
  (λr σ'=>r=.tup []/\σ'=R0:: .row 5 1 (byteEls (b++leB n w)) false:: .var 268 [.row 1 (b++leB n w).length]::tl):=by
 refine pwA zip ?_;simp[zep];refine zac (λx f σ'=>∃k:Nat,x=w-k/\k<=w/\f 0=.ptr 2 0/\f 1=.int .i64 (shrI n k)/\f 6=.int .i64 w/\f 7=.int .i64 k/\σ'=R0:: .row 5 1 (byteEls (b++leB n k)) false:: .var 268 [.row 1 (b++leB n k).length]::tl) w ?_ ?_;.exact⟨0,by simp,by simp,by simp,by simp[shrI],by simp,by simp,by simp[leB]⟩
 rintro x f σ' ⟨k,rfl,t,l,m,o,p,rfl⟩;have c:(b++leB n k).length=b.length+k:=by simp[zaC]
 have d:=zae (b++leB n k);simp[o,p, -List.length_append];refine zap (λq=> ?_) (λs=> ?_);.have g:=wS k (by omega);simp[l,m, -List.length_append];refine zbJ (byteEls (b++leB n k)) [[.int .u8 (IntKind.u8.wrap (shrI n k))]] false (by simp) (by simp[view]) (by decide) (by simp) (λh=>by cases h) (by rw[d]) (by simp[c, -List.length_append];omega) (by simp[c, -List.length_append];omega) ?_;simp[m,p,z0C,g,splice, -List.length_append];refine nx_i ⟨k+1,rfl,by omega,by simp[l],by simp[shrI],by simp[o],by simp, ?_⟩;rw[zrm];simp[leB,zaC];omega
 .have j:k=w:=by omega
  subst j;simp[-List.length_append];refine er_k (R0:: .row 5 1 (byteEls (b++leB n k)) false:: .var 268 [.row 1 (b++leB n k).length]::tl) (.tup []) (λi e a=> ?_) ⟨rfl,rfl⟩
  match i,a with
  |0,a=>exact .inl a
  |1,a=>simp only[yc9,yc8,yab]at a;subst a;exact .inr (zaD (za1 _).2.1)
  |2,a=>simp only[yc9,yc8,yab]at a;subst a;exact .inr (by simp[Entry.under,AV.under])
  |i+3,a=>exact .inl a
end Go.Proofs.YtdbhocoeolhjhaaGreatDoor
namespace Go.Sf
open Go.Abs
def zbS (path:Txt):List AV:= [.int .i64 1,.str path,.int .i64 1,.int .i64 500000,.lst rungsC,.int .i64 0,.int .i64 0,.int .i64 0,.int .i64 0]
def zbV (X:AV)(t now:Nat)(v:Int):List AV:= [.int .i64 2,.str [],.int .i64 0,.int .i64 0,X,.int .i64 0,.int .i64 t,.int .i64 now,.int .i64 v]
def zed (X:AV)(r t:Nat)(v:Int):List AV:= [.int .i64 3,.str [],.int .i64 0,.int .i64 0,X,.int .i64 r,.int .i64 t,.int .i64 0,.int .i64 v]
def zv9 (X:AV):Prop:=X=.nils∨X=.lst []
def zbU (path:Txt):Txt:= [lo8 1]++leB path.length 2++path++leB 1 1++leB 500000 4++leB 2 1++leB 10 4++leB 6 2++leB 60 4++leB 5 2
def zdB (t now:Nat)(v:Int):Txt:= [lo8 2]++leB t 8++leB now 8++leB v 8
def zh5 (r t:Nat)(v:Int):Txt:= [lo8 3]++leB r 1++leB t 8++leB v 8
theorem zcI (p:Txt):(zbU p).length=p.length+21:=by simp[zbU,zaC];omega
theorem zkq (t now:Nat)(v:Int):(zdB t now v).length=25:=by simp[zdB,zaC]
theorem zmG (r t:Nat)(v:Int):(zh5 r t v).length=18:=by simp[zh5,zaC]
end Go.Sf
namespace Go.Proofs.YtdbhocoeolhjhaaGreatDoor
open Go.Abs Go.RowKit Go.Sf
variable {G:Globs}
theorem zrA (t:Nat)(h:t<=1099511627776):PT 251 [.int .i64 t] (λr=>r=.bool true):=by
 refine pwP zq8 ?_;have a:(0:Int)<=t:=by omega
 have b:(t:Int)<=1099511627776:=by omega
 simp[zjg,a,b]
theorem z1E (X:AV)(hX:zv9 X)(t now:Nat)(v:Int):PT 250 [.agg (zbV X t now v)] (λr=>r=.bool true):=by refine pwP zgr ?_;rcases hX with rfl|rfl<;>simp[zdS,zbV]
theorem z26 (X:AV)(hX:zv9 X)(r t:Nat)(v:Int):PT 250 [.agg (zed X r t v)] (λr=>r=.bool true):=by refine pwP zgr ?_;rcases hX with rfl|rfl<;>simp[zdS,zed]
theorem z5L:PT 249 [.lst rungsC] (λr=>r=.bool true):=by
 refine pwP zrb ?_;simp[zjP,rungsC];refine zac (λx f σ=>∃(i:Nat) (e:zaa),x=2-i/\i<=2/\f 13=.lst rungsC/\f 14=.int .i64 2/\f 15=.int .i64 i/\σ=e) 2 ?_ ?_;.exact⟨0,[],by simp,by simp,by simp[rungsC],by simp⟩
 rintro x f σ ⟨i,e,g,h,b,a,c,rfl⟩;have d:i=0∨i=1∨i=2:=by omega
 rcases d with rfl|rfl|rfl;.simp[b,a,c,rungsC,wk1,splice];exact nx_i ⟨1,_,rfl,by omega,by simp[b,rungsC],by simp[a],by simp,rfl⟩
 .simp[b,a,c,rungsC,wk2,splice];exact nx_i ⟨2,_,rfl,by omega,by simp[b,rungsC],by simp[a],by simp,rfl⟩
 .simp[a,c]
theorem zsO (p:Txt)(h0:p≠ [])(hl:p.length<=100):PT 202 [.agg (zbS p)] (λr=>r=.bool true):=by
 refine pwP zgO ?_;have a:(p.length:Int)<=263:=by omega
 have b:p.length<=263:=by omega
 simp[zev,zbS,h0,a];refine zfR z5L (by simp[AV.pure,rungsC]) ?_;rintro r rfl;simp
theorem zt7 (X:AV)(hX:zv9 X)(t now:Nat)(v:Int)(ht:t<=1099511627776)(hn:now<=1099511627776)(hv:v≠ -9223372036854775808):PT 202 [.agg (zbV X t now v)] (λr=>r=.bool true):=by
 refine pwP zgO ?_;have a:=z1E (G:=G) X hX t now v;simp only[zbV]at a;rcases hX with rfl|rfl
 all_goals
  simp[zev,zbV];refine zad a ?_;simp;refine zad (zrA t ht) ?_;simp;refine zad (zrA now hn) ?_;simp[hv]
theorem ztP (X:AV)(hX:zv9 X)(i t:Nat)(v:Int)(hi:i<4)(ht:t<=1099511627776)(hv:v≠ -9223372036854775808):PT 202 [.agg (zed X i t v)] (λr=>r=.bool true):=by
 refine pwP zgO ?_;have a:=z26 (G:=G) X hX i t v;simp only[zed]at a;have b:(0:Int)<=i:=by omega
 have c:(i:Int)<4:=by omega
 rcases hX with rfl|rfl
 all_goals
  simp[zev,zed];refine zad a ?_;simp[b,c];refine zad (zrA t ht) ?_;simp[hv]
theorem zBZ (n:Int):([[AV.int .u8 (IntKind.u8.wrap n)]]:List (List AV))=byteEls [lo8 n]:=by rw[z0w];rfl
theorem z87 (X:AV)(hX:zv9 X)(t now:Nat)(v:Int)(ht:t<=1099511627776)(hn:now<=1099511627776)(hv:v≠ -9223372036854775808)(hv2:i64 v):PT 132 [.agg (zbV X t now v)] (λr=>r=.tup [.lst (byteEls (zdB t now v)),.int .i64 0]):=by
 refine pwP ziF ?_;have kR:=zt7 (G:=G) X hX t now v ht hn hv;have j:IntKind.i64.wrap v=v:=wrap_i64 hv2.1 hv2.2;simp only[zbV]at kR;rcases hX with rfl|rfl
 all_goals
  simp[zgi,zbV];refine zad kR ?_;simp;rw[zBZ];refine zai (zca _ [] [lo8 2] t 8 (by omega) (by simp)) ?_;rintro r σ' ⟨rfl,rfl⟩;obtain⟨c,a⟩:∃c,c= [lo8 2]++leB t 8:=⟨_,rfl⟩;have e:c.length=9:=by rw[a];simp[zaC]
  rw[<-a];simp;refine zai (zca _ [] c now 8 (by omega) (by omega)) ?_;rintro r σ' ⟨rfl,rfl⟩;obtain⟨d,hb2⟩:∃d,d=c++leB now 8:=⟨_,rfl⟩;have f:d.length=17:=by rw[hb2];simp[zaC,e]
  rw[<-hb2];simp;refine zai (zca _ [] d v 8 (by omega) (by omega)) ?_;rintro r σ' ⟨rfl,rfl⟩;obtain⟨g,b⟩:∃g,g=d++leB v 8:=⟨_,rfl⟩;have h:g.length=25:=by rw[b];simp[zaC,f]
  rw[<-b];simp;have i:g=zdB t now v:=by rw[b,hb2,a];rfl
  rw[i];simp[zfq,zae]
theorem z8T (X:AV)(hX:zv9 X)(i t:Nat)(v:Int)(hi:i<4)(ht:t<=1099511627776)(hv:v≠ -9223372036854775808)(hv2:i64 v):PT 132 [.agg (zed X i t v)] (λr=>r=.tup [.lst (byteEls (zh5 i t v)),.int .i64 0]):=by
 refine pwP ziF ?_;have kR:=ztP (G:=G) X hX i t v hi ht hv;have k:IntKind.i64.wrap v=v:=wrap_i64 hv2.1 hv2.2;simp only[zed]at kR;rcases hX with rfl|rfl
 all_goals
  simp[zgi,zed];refine zad kR ?_;simp;rw[zBZ];refine zai (zca _ [] [lo8 3] i 1 (by omega) (by simp)) ?_;rintro r σ' ⟨rfl,rfl⟩;obtain⟨c,a⟩:∃c,c= [lo8 3]++leB i 1:=⟨_,rfl⟩;have e:c.length=2:=by rw[a];simp[zaC]
  rw[<-a];simp;refine zai (zca _ [] c t 8 (by omega) (by omega)) ?_;rintro r σ' ⟨rfl,rfl⟩;obtain⟨d,hb2⟩:∃d,d=c++leB t 8:=⟨_,rfl⟩;have f:d.length=10:=by rw[hb2];simp[zaC,e]
  rw[<-hb2];simp;refine zai (zca _ [] d v 8 (by omega) (by omega)) ?_;rintro r σ' ⟨rfl,rfl⟩;obtain⟨g,b⟩:∃g,g=d++leB v 8:=⟨_,rfl⟩;have h:g.length=18:=by rw[b];simp[zaC,f]
  rw[<-b];simp;have j:g=zh5 i t v:=by rw[b,hb2,a];rfl
  rw[j];simp[zfq,zae]
theorem z0t (p:Txt)(h0:p≠ [])(hl:p.length<=100):PT 132 [.agg (zbS p)] (λr=>r=.tup [.lst (byteEls (zbU p)),.int .i64 0]):=by
 refine pwP ziF ?_;have kR:=zsO (G:=G) p h0 hl;simp only[zbS]at kR;simp[zgi,zbS];refine zfR kR (by simp[AV.pure,rungsC]) ?_;rintro r rfl;simp;rw[zBZ];refine zai (zca _ [] [lo8 1] p.length 2 (by omega) (by simp)) ?_;rintro r σ' ⟨rfl,rfl⟩;obtain⟨e,g⟩:∃e,e= [lo8 1]++leB p.length 2:=⟨_,rfl⟩;have B:e.length=3:=by rw[g];simp[zaC]
 rw[<-g];simp;refine zBr (byteEls e) false (by simp) (zae e) (by omega) ?_;simp[splice];rw[<-zcj];obtain⟨q,hb2⟩:∃q,q=e++p:=⟨_,rfl⟩;have C:q.length=p.length+3:=by rw[hb2];simp[B];omega
 have o:e.length+p.length=q.length:=by omega
 rw[<-hb2,o];refine zai (zca _ [] q 1 1 (by omega) (by omega)) ?_;rintro r σ' ⟨rfl,rfl⟩;obtain⟨v,h⟩:∃v,v=q++leB 1 1:=⟨_,rfl⟩;have D:v.length=p.length+4:=by rw[h];simp[zaC,C]
 rw[<-h];simp;refine zai (zca _ [] v 500000 4 (by omega) (by omega)) ?_;rintro r σ' ⟨rfl,rfl⟩;obtain⟨w,j⟩:∃w,w=v++leB 500000 4:=⟨_,rfl⟩;have F:w.length=p.length+8:=by rw[j];simp[zaC,D]
 rw[<-j];simp[rungsC];refine zai (zca _ [] w 2 1 (by omega) (by omega)) ?_;rintro r σ' ⟨rfl,rfl⟩;obtain⟨s,hb5⟩:∃s,s=w++leB 2 1:=⟨_,rfl⟩;have H:s.length=p.length+9:=by rw[hb5];simp[zaC,F]
 rw[<-hb5];simp;obtain⟨y,k⟩:∃y,y=s++leB 10 4:=⟨_,rfl⟩;obtain⟨t,hb7⟩:∃t,t=y++leB 6 2:=⟨_,rfl⟩;obtain⟨z,l⟩:∃z,z=t++leB 60 4:=⟨_,rfl⟩;obtain⟨u,m⟩:∃u,u=z++leB 5 2:=⟨_,rfl⟩;have I:y.length=p.length+13:=by rw[k];simp[zaC,H]
 have J:t.length=p.length+15:=by rw[hb7];simp[zaC,I]
 have K:z.length=p.length+19:=by rw[l];simp[zaC,J]
 have Q:u.length=p.length+21:=by rw[m];simp[zaC,K]
 have P:u=zbU p:=by rw[m,l,hb7,k,hb5,j,h,hb2,g];rfl
 obtain⟨L,M⟩:∃L:Entry,L=.var 74 (zbS p):=⟨_,rfl⟩;refine zac (λx f σ=>∃(i:Nat) (b:Txt) (A:zaa),x=2-i/\((i=0/\b=s/\A= [])∨(i=1/\b=t/\A.length=1)∨(i=2/\b=u))/\f 4=.ptr 2 0/\f 49=.lst rungsC/\f 50=.int .i64 2/\f 51=.int .i64 i/\σ=L:: .row 5 1 (byteEls b) false:: .var 268 [.row 1 b.length]::A) 2 ?_ ?_;.exact⟨0,s,[],by simp,by simp,by simp,by simp[rungsC],by simp,by simp,by simp[M,zbS,rungsC]⟩
 rintro x f σ ⟨i,b,A,S,R,n,d,a,c,rfl⟩;rcases R with ⟨rfl,rfl,rfl⟩|⟨rfl,rfl,O⟩|⟨rfl,rfl⟩;.simp[n,d,a,c,rungsC,splice];refine zai (zca _ _ b 10 4 (by omega) (by omega)) ?_;rintro r σ' ⟨rfl,rfl⟩;rw[<-k];simp[n];refine zai (zca _ _ y 6 2 (by omega) (by omega)) ?_;rintro r σ' ⟨rfl,rfl⟩;rw[<-hb7];simp[c,wk1];exact nx_i ⟨1,t,_,rfl,.inr (.inl ⟨rfl,rfl,rfl⟩),by simp[n],by simp[d,rungsC],by simp[a],by simp,rfl⟩
 .obtain⟨E,rfl⟩:∃E,A= [E]:=List.length_eq_one_iff.1 O;simp[n,d,a,c,rungsC,splice];refine zai (zca _ _ b 60 4 (by omega) (by omega)) ?_;rintro r σ' ⟨rfl,rfl⟩;rw[<-l];simp[n];refine zai (zca _ _ z 5 2 (by omega) (by omega)) ?_;rintro r σ' ⟨rfl,rfl⟩;rw[<-m];simp[c,wk2];exact nx_i ⟨2,u,_,rfl,.inr (.inr ⟨rfl,rfl⟩),by simp[n],by simp[d,rungsC],by simp[a],by simp,rfl⟩
 .simp[n,a,c,zfq,zae,P]
end Go.Proofs.YtdbhocoeolhjhaaGreatDoor
namespace Go.Sf
open Go.Abs
structure PtM where
 t:Nat
 now:Nat
 v:Int
end Go.Sf
namespace Go.Proofs.YtdbhocoeolhjhaaGreatDoor
open Go.Abs Go.RowKit Go.Sf
abbrev zhx (G:Globs):Prop:=(@Globs.tab G).lookup 2=some stepsC
variable {G:Globs}
theorem z3K (hT:zhx G)(X:AV)(hX:zv9 X)(t now:Nat)(v:Int)(ht:t<=1099511627776)(hn:now<=1099511627776)(hv:v≠ -9223372036854775808)(hv2:i64 v){σ:zaa}:AT 69 [.agg (zbV X t now v)] σ (λr σ'=>r=.tup [.row (σ.length+1) (zay ((zdB t now v))).length,.int .i64 0]/\σ'=σ++ [.var 74 (zbV X t now v),.row 5 1 (byteEls (zay ((zdB t now v)))) false]):=by
 refine pwA zeh ?_;have d:=z87 (G:=G) X hX t now v ht hn hv hv2;simp only[zbV]at d;have a:(zdB t now v)≠ []:=by simp[zdB]
 have b:((zdB t now v)).length<=512:=by rw[zkq];omega
 have f:=zae ((zdB t now v));rcases hX with rfl|rfl
 all_goals
  simp[zda,zbV];refine zad d ?_;simp;refine zai (zi5 hT (zdB t now v) a b) ?_;rintro r σ' ⟨rfl,rfl⟩;simp;exact zrT (ext:= [.var 74 (zbV _ t now v),.row 5 1 (byteEls (zay (zdB t now v))) false]) (.tup [.row (σ.length+1) (zay (zdB t now v)).length,.int .i64 0]) (by simp[zaK]) (by simp[AV.under]) (λe c=>by
   simp only[ybe,yd9,or_false]at c;rcases c with rfl|rfl
   .simp[Entry.under,AV.under,zbV]
   .exact zaD (za1 _).2.1) ⟨rfl,by simp[zbV]⟩
theorem z5R (hT:zhx G)(X:AV)(hX:zv9 X)(i t:Nat)(v:Int)(hi:i<4)(ht:t<=1099511627776)(hv:v≠ -9223372036854775808)(hv2:i64 v){σ:zaa}:AT 69 [.agg (zed X i t v)] σ (λr σ'=>r=.tup [.row (σ.length+1) (zay ((zh5 i t v))).length,.int .i64 0]/\σ'=σ++ [.var 74 (zed X i t v),.row 5 1 (byteEls (zay ((zh5 i t v)))) false]):=by
 refine pwA zeh ?_;have d:=z8T (G:=G) X hX i t v hi ht hv hv2;simp only[zed]at d;have a:(zh5 i t v)≠ []:=by simp[zh5]
 have b:((zh5 i t v)).length<=512:=by rw[zmG];omega
 have f:=zae ((zh5 i t v));rcases hX with rfl|rfl
 all_goals
  simp[zda,zed];refine zad d ?_;simp;refine zai (zi5 hT (zh5 i t v) a b) ?_;rintro r σ' ⟨rfl,rfl⟩;simp;exact zrT (ext:= [.var 74 (zed _ i t v),.row 5 1 (byteEls (zay (zh5 i t v))) false]) (.tup [.row (σ.length+1) (zay (zh5 i t v)).length,.int .i64 0]) (by simp[zaK]) (by simp[AV.under]) (λe c=>by
   simp only[ybe,yd9,or_false]at c;rcases c with rfl|rfl
   .simp[Entry.under,AV.under,zed]
   .exact zaD (za1 _).2.1) ⟨rfl,by simp[zed]⟩
theorem z3r (hT:zhx G)(p:Txt)(h0:p≠ [])(hl:p.length<=100){σ:zaa}:AT 69 [.agg (zbS p)] σ (λr σ'=>r=.tup [.row (σ.length+1) (zay ((zbU p))).length,.int .i64 0]/\σ'=σ++ [.var 74 (zbS p),.row 5 1 (byteEls (zay ((zbU p)))) false]):=by
 refine pwA zeh ?_;have d:=z0t (G:=G) p h0 hl;simp only[zbS]at d;have a:(zbU p)≠ []:=by simp[zbU]
 have b:((zbU p)).length<=512:=by rw[zcI];omega
 have f:=zae ((zbU p));have g:True:=trivial
 all_goals
  simp[zda,zbS];refine zfR d (by simp[AV.pure,rungsC]) ?_;rintro r rfl;simp;refine zai (zi5 hT (zbU p) a b) ?_;rintro r σ' ⟨rfl,rfl⟩;simp;exact zrT (ext:= [.var 74 (zbS p),.row 5 1 (byteEls (zay (zbU p))) false]) (.tup [.row (σ.length+1) (zay (zbU p)).length,.int .i64 0]) (by simp[zaK]) (by simp[AV.under]) (λe c=>by
   simp only[ybe,yd9,or_false]at c;rcases c with rfl|rfl
   .simp[Entry.under,AV.under,zbS,rungsC]
   .exact zaD (za1 _).2.1) ⟨rfl,by simp[zbS]⟩
end Go.Proofs.YtdbhocoeolhjhaaGreatDoor
namespace Go.Abs
theorem zDG {σ:zaa}{a b c:Entry}{tl:zaa}:(σ++a::b::c::tl)[σ.length+1+1]? =some c:=by rw[yam (by omega),show σ.length+1+1-σ.length=2 by omega];rfl
theorem zDz {A B C x y z:Entry}{tl:zaa}:(A::B::C::(tl++ [x,y,z]))[tl.length+1+1+1+1+1]? =some z:=by simp only[yc9];rw[yam (by omega),show tl.length+1+1-tl.length=2 by omega];rfl
theorem zC0 {K:AV->zaa->Prop}{t:Tg K}{e size bytes:Nat}{σ τ:zaa}{v y:AV}{l m:List (List AV)}(h:AccT e size σ.length τ v l)(hv:view (σ++τ) y=some m)(hm:m≠ [])(hs:0<size)(hl:∀c∈m,c.length=size)(hf:znD (σ++τ) y m)(hb:(l.length+m.length)*bytes<=140737488355328)(h63:l.length+m.length<=9223372036854775807)
  (hK:∀v' τ',AccT e size σ.length τ' v' (l++m)->τ.length<=τ'.length->K v' (σ++τ')):ap K t (σ++τ) e size bytes v y:=by
 rcases h with ⟨rfl,rfl⟩|⟨d,p,rfl,a⟩;.refine zf6 true m hv hs hl (λ_=>hf) (by simpa using hb) (by simpa using h63) ?_;have:=hK (.row (σ++τ).length m.length) (τ++ [.row e size m true]) (.inr ⟨by simpa using hm,τ.length,by simp⟩) (by simp);simpa using this
 .obtain⟨b,_⟩:=yaa.1 a;refine zbJ l m true (by rw[yam (by omega),ybc];exact a) hv hs hl (λ_=>hf) rfl hb h63 ?_;have:=hK (.row (σ.length+p) (l.length+m.length)) (τ.set p (.row e size (l++m) true)) (.inr ⟨by simp[d],p,by simp,by simp[b]⟩) (by simp);rw[yct _ _ (by omega),ybc];exact this
end Go.Abs
namespace Go.Sf
open Go.Abs
def zbk (bs:List ArrM):Txt:=bs.flatMap λa=>zay (zdB a.time a.now a.value)
theorem zx6 (bs:List ArrM)(a:ArrM):zbk (bs++ [a])=zbk bs++zay (zdB a.time a.now a.value):=by simp[zbk]
theorem zlP (bs:List ArrM):(zbk bs).length=31*bs.length:=by
 induction bs with
 |nil=>rfl
 |cons a bs b=>have:zbk (a::bs)=zay (zdB a.time a.now a.value)++zbk bs:=rfl;rw[this,yag,b,zbd,zkq,ybg];omega
structure SlR where
 rung:Nat
 t:Nat
 v:Int
structure OkSl (s:SlR):Prop where
 r:s.rung<4
 t:s.t<=1099511627776
 v:i64 s.v
 n:s.v≠ -9223372036854775808
def slRC (s:SlR):List AV:=zed (.lst []) s.rung s.t s.v
def zfU (l:List SlR):List (List AV):=l.map slRC
def zoo (l:List SlR):Txt:=l.flatMap λs=>zay (zh5 s.rung s.t s.v)
theorem zsL (l:List SlR)(s:SlR):zoo (l++ [s])=zoo l++zay (zh5 s.rung s.t s.v):=by simp[zoo]
theorem zw7 (l:List SlR):(zoo l).length=24*l.length:=by
 induction l with
 |nil=>rfl
 |cons a b c=>have:zoo (a::b)=zay (zh5 a.rung a.t a.v)++zoo b:=rfl;rw[this,yag,c,zbd,zmG,ybg];omega
theorem znu (l:List SlR):(zfU l).length=l.length:=by simp[zfU]
theorem zwy {l:List SlR}{i:Nat}{s:SlR}(h:l[i]? =some s):(zfU l)[i]? =some (slRC s):=by simp[zfU,h]
def zfW (path:Txt)(l:List SlR):Txt:=zay (zbU path)++zoo l
theorem z2C (p:Txt)(l:List SlR):(zfW p l).length=p.length+27+24*l.length:=by simp[zfW,zw7,zbd,zcI]
end Go.Sf
namespace Go.Proofs.YtdbhocoeolhjhaaGreatDoor
open Go.Abs Go.RowKit Go.Sf
variable {G:Globs}
theorem z6r (hT:zhx G)(bs:List ArrM)(hb:∀a∈bs,OkA a/\OkV a)(hl:bs.length<=1000):PT 68 [.lst (zaO bs)] (λr=>r=.tup [.lst (byteEls (zbk bs)),.int .i64 0]):=by
 refine pwP zsb ?_;have A:=zcg bs;simp[zlh,A];refine zac (λx f σ=>∃(i:Nat),x=bs.length-i/\i<=bs.length/\AccT 5 1 0 σ (f 4) (byteEls (zbk (bs.take i)))/\f 9=.lst (zaO bs)/\f 10=.int .i64 bs.length/\f 11=.int .i64 i) bs.length ?_ ?_;.exact⟨0,by simp,by simp,by simp[zbk,byteEls];exact zku,by simp⟩
 rintro x f σ ⟨i,rfl,O,y,F,j,h⟩;have k:=zlP (bs.take i);have l:=zae (zbk (bs.take i));have d:(bs.take i).length=i:=by simp;omega
 simp[j,h];refine zap (λL=> ?_) (λM=> ?_)
 .have o:i<bs.length:=by omega
  have B:=wS i (by omega);obtain⟨a,s⟩:=gE o;have I:=znF s;obtain⟨J,K⟩:=yaa.1 I;obtain⟨u,w⟩:=hb a (yad s);have C:=tS s;have Q:=u.t;have R:=u.n;have kF:=λ(σ:zaa)=>z3K (G:=G) hT .nils (.inl rfl) a.time a.now a.value (by omega) (by omega) w u.v (σ:=σ);simp only[zbV]at kF;simp[F,h,I,arrC,splice];refine zai (kF _) ?_;rintro r σ' ⟨rfl,rfl⟩;obtain⟨b,g⟩:∃b,b=zay (zdB a.time a.now a.value):=⟨_,rfl⟩;have p:b.length=31:=by rw[g,zbd,zkq]
  have c:=zae b;have D:byteEls b≠ []:=λe=>by rw[e]at c;simp at c;omega
  rw[<-g];simp;have q:=(((y.more [Entry.var 91 (arrC a)]).more [Entry.var 74 (zbV .nils a.time a.now a.value)]).more [Entry.row 5 1 (byteEls b) false]);simp only[yax,ybp,yco,arrC,zbV]at q;refine zC0 (σ:= []) q (m:=byteEls b) ?_ D (by decide) (za1 b).1 (.inr (za1 b).2.1) (by rw[l,k,d,c,p];omega) (by rw[l,k,d,c,p];omega) λP τ' z H=> ?_;.show view (σ++ [_,_,.row 5 1 (byteEls b) false]) (.row (σ.length+1+1) b.length)=some (byteEls b);simp only[view,zDG,c,if_true]
  simp[h,B];refine nx_i ⟨i+1,rfl,by omega, ?_,by simp[F],by simp[j],by simp⟩;simp;rw[C,zx6,zcj,<-g];exact z
 .have E:i=bs.length:=by omega
  subst E;rw[yav]at y;simp[y.finT0]
theorem z4Z (hT:zhx G)(p:Txt)(h0:p≠ [])(hp:p.length<=100)(l:List SlR)(hs:∀s∈l,OkSl s)(hl:l.length<=1000):PT 42 [.agg (zbS p),.lst (zfU l)] (λr=>r=.tup [.lst (byteEls (zfW p l)),.int .i64 0]):=by
 refine pwP zro ?_;have E:=znu l;have F:=λ(σ:zaa)=>z3r (G:=G) hT p h0 hp (σ:=σ);simp only[zbS]at F;simp[zjz,zbS,rungsC];simp only[rungsC]at F;refine zai (F _) ?_;rintro r σ' ⟨rfl,rfl⟩;simp;obtain⟨u,y⟩:∃u:Entry,u=.var 74 (zbS p):=⟨_,rfl⟩;obtain⟨H,z⟩:∃H,H=zay (zbU p):=⟨_,rfl⟩;have I:H.length=p.length+27:=by rw[z,zbd,zcI]
 rw[<-z];refine zac (λx f σ=>∃(i:Nat) (C:zaa),x=l.length-i/\i<=l.length/\f 6=.row 2 (H++zoo (l.take i)).length/\f 23=.lst (zfU l)/\f 24=.int .i64 l.length/\f 25=.int .i64 i/\σ=u::u:: .row 5 1 (byteEls (H++zoo (l.take i))) false::C) l.length ?_ ?_;.exact⟨0,[],by simp,by simp,by simp[zoo],by simp,by simp[E],by simp,by simp[zoo,y,zbS,rungsC]⟩
 rintro x f σ ⟨i,C,rfl,W,D,j,k,e,rfl⟩;have m:(l.take i).length=i:=by simp;omega
 obtain⟨B,g⟩:∃B,B=H++zoo (l.take i):=⟨_,rfl⟩;have T:B.length=p.length+27+24*i:=by rw[g,yag,zw7,m,I]
 have J:=zae B;rw[<-g]at D⊢;simp[k,e];refine zap (λR=> ?_) (λS=> ?_)
 .have o:i<l.length:=by omega
  have K:=wS i (by omega);obtain⟨a,A⟩:=gE o;have O:=zwy A;obtain⟨P,Q⟩:=yaa.1 O;have w:=hs a (yad A);have q:=tS A;have kF:=λ(σ:zaa)=>z5R (G:=G) hT (.lst []) (.inr rfl) a.rung a.t a.v w.r w.t w.n w.v (σ:=σ);simp only[zed]at kF;simp[j,e,O,slRC,zed,splice];refine zai (kF _) ?_;rintro r σ' ⟨rfl,rfl⟩;obtain⟨b,c⟩:∃b,b=zay (zh5 a.rung a.t a.v):=⟨_,rfl⟩;have U:b.length=24:=by rw[c,zbd,zmG]
  have d:=zae b;rw[<-c];simp[D];refine zbJ (byteEls B) (byteEls b) false (by simp) ?_ (by decide) (za1 b).1 (λh=>by cases h) J (by rw[d];omega) (by rw[d];omega) ?_;.simp only[view,zDz,d,if_true]
  simp[e,K,d];refine nx_j (l.length-(i+1)) ⟨i+1,C++ [.var 74 (slRC a),.var 74 (slRC a),.row 5 1 (byteEls b) false],rfl,by omega, ?_,by simp[j],by simp[k],by simp, ?_⟩;.rw[q,zsL,<-c,<-yax,<-g];simp
  .rw[q,zsL,<-c,<-yax,<-g,zcj];rfl
 .have L:i=l.length:=by omega
  subst L;rw[yav]at g;have M:B=zfW p l:=by rw[g,z];rfl
  simp[D,zfq,M,zae]
end Go.Proofs.YtdbhocoeolhjhaaGreatDoor
namespace Go.Abs
open Go.Sf Go.Proofs Go.Sort Go.Proofs.YtdbhocoeolhjhaaGreatDoor
def encS (n:Slot):List Value:= [.int .i64 n.1,.int .i64 n.2]
def zfP (l:List Slot):List Value:=l.flatMap encS
theorem zfM (l:List Slot):(zfP l).length=l.length*2:=by
 induction l with
 |nil=>rfl
 |cons n l a=>simp only[zfP,yeh,yag,ybg]at*;rw[a];simp[encS];omega
theorem zt0 (l:List Slot):(flatK encS 2 l.toArray).toList=zfP l:=by
 apply yeg;intro t;by_cases h:t<l.length*2
 .have b:t<(flatK encS 2 l.toArray).toList.length:=by simp;omega
  have a:t<(zfP l).length:=by rw[zfM];exact h
  rw[yah b,yah a];congr 1;have d:(flatK encS 2 l.toArray).toList[t]=(flatK encS 2 l.toArray)[t]! :=by rw[getElem!_pos _ t (by simpa using b)];simp
  rw[d,get_flatK _ _ _ _ (by simpa using h)];clear b d
  induction l generalizing t with
  |nil=>simp at h
  |cons n l m=>
   match t,h,a with
   |0,h,a=>simp[zfP,encS]
   |1,h,a=>simp[zfP,encS]
   |t+2,h,a=>have e:t<l.length*2:=(by simp at h;omega);have c:t<(zfP l).length:=(by rw[zfM];exact e);have:=m t e c;have f:(t+2)/2=t/2+1:=(by omega);have g:(t+2)%2=t%2:=(by omega);rw[f,g];have i:(zfP (n::l))[t+2]=(zfP l)[t]:=(by simp[zfP,encS]);rw[i,<-this];have j:(n::l).toArray[t/2+1]! =l.toArray[t/2]! :=(by have k:t/2<l.length:=(by omega);rw[getElem!_pos _ _ (by simp;omega),getElem!_pos _ _ (by simpa using k)];simp);rw[j]
 .rw[ybv (by simp;omega),ybv (by rw[zfM];omega)]
variable {G:Globs}{base:Nat}{κ:Key}{Im:Addr->Prop}{w:World}{σ:zaa}
theorem zqP (n:Slot)(l:List Slot):zao (n::l)= [.int .i64 n.1,.int .i64 n.2]::zao l:=rfl
theorem z7G {l:List Slot}{xs:List Value}(h:VRL κ Im w (zao l).flatten xs):xs=zfP l:=by
 induction l generalizing xs with
 |nil=>have:=h.1;simp[zao]at this;rw[yaq this.symm];rfl
 |cons n l j=>
  rw[zqP]at h;simp only[ybk]at h;have b:=h.1;simp at b
  match xs,h,b with
  |x::y::xs,h,_=>obtain⟨u,d,e⟩:=h.get? (i:=0) (a:=.int .i64 n.1) (by simp);obtain⟨k,c,f⟩:=h.get? (i:=1) (a:=.int .i64 n.2) (by simp);simp at d c;subst d;subst c;have g:VRL κ Im w (zao l).flatten xs:=(by have:=h.drop 2;simpa using this);rw[e.int_inv,f.int_inv,j g];rfl
  | [x],h,b=>simp at b
  | [],h,b=>simp at b
theorem z7W (l:List Slot):VRL κ Im w (zao l).flatten (zfP l):=by
 induction l with
 |nil=>exact VRL.nil
 |cons n l a=>rw[zqP];simp only[ybk,zfP,yeh];exact VRL.append (.cons (.im _ _ (.int _ _)) (.cons (.im _ _ (.int _ _)) .nil)) a
theorem z1T (l:List Slot):∀c∈zao l,∀x∈c,x.one=true:=λc a x b=>by simp only[zao,yar]at a;obtain⟨n,_,rfl⟩:=a;simp[zcP]at b;rcases b with rfl|rfl<;>rfl
theorem z1Z (l:List Slot):∀c∈zao l,c.length=2:=λc a=>by simp only[zao,yar]at a;obtain⟨n,_,rfl⟩:=a;rfl
theorem zzj {i e:Nat}{l A R:List Slot}(hlA:l=A++R)(hs:SRel base κ Im σ w)(he:σ[i]? =some (.row e 2 (zao l) false))(hne:l≠ []):
  ∃g cap,κ i l.length=some (.slice (some ⟨g,0,none⟩) l.length cap)/\g<w.heap.size/\HoldsK encS 2 w g 0 A.toArray/\∀(A':List Slot) n os,A'.length=A.length->SRel base κ Im (σ.set i (.row e 2 (zao (A'++R)) false)) (sortWorldK encS 2 w g 0 n A'.toArray os)/\Grow base κ Im w κ Im (sortWorldK encS 2 w g 0 n A'.toArray os):=by
 have hE:=hs.ent i _ he;unfold EOK at hE;obtain⟨v,xs,T,f,X,h0,h2,h1, -,o⟩:=hE;rw[zaq]at T f o;have ab:=z7G X;subst ab;obtain⟨aj,f⟩:=f;rcases f with ⟨_,h⟩|⟨g,cap,q,rfl,y,U,G,Z,aa,H⟩
 .exact absurd (yaq h) hne
 have M:g<w.heap.size:=(yba.1 U).1;have ak:A.length<=l.length:=by rw[hlA];simp
 have O:zfP l=zfP A++zfP R:=by rw[hlA];simp[zfP]
 have hH:HoldsK encS 2 w g 0 A.toArray:=by
  intro j L;have ad:j<A.length*2:=by simpa using L
  have ae:j<l.length*2:=by omega
  refine⟨?_,by simp[World.frozen?,U]⟩;have P:(q.toList.take (l.length*2))[j]? =(zfP l)[j]? :=by rw[H]
  rw[ycg ae,O,yap (by rw[zfM];exact ad),<-zt0]at P;simp only[World.cell?,U,ybl];simp only[Option.isSome_none,ycr,if_false];rw[<-yb2,P,yb2,getElem!_pos _ j L];simp
 refine⟨g,cap,T,M,hH,λA' n os hl=> ?_⟩;obtain⟨F,Y⟩:∃F,F=flatK encS 2 A'.toArray:=⟨_,rfl⟩;have Q:F.size=A.length*2:=by rw[Y];simp[hl]
 have af:F.toList=zfP A':=by rw[Y,zt0]
 obtain⟨p,x⟩:∃p,p=A'++R:=⟨_,rfl⟩;have d:p.length=l.length:=by rw[x,hlA];simp[hl]
 have ag:zfP p=F.toList++zfP R:=by rw[x,af];simp[zfP]
 rw[<-x];obtain⟨u,E⟩:∃u,u=sortWorldK encS 2 w g 0 n A'.toArray os:=⟨_,rfl⟩;have m:u=grow (mapBlock (Sort.ahead w n) g (putCells id 0 F)) os:=by rw[E,Y];rfl
 have B:u.heap[g]? =some (.cells (putCells id 0 F q) e (0,0)):=by rw[m,heap_grow_old _ _ (by simpa[mapBlock,Sort.ahead]using M)];simp[mapBlock,Sort.ahead,yew,U,onCells]
 have c:∀k,k<w.heap.size->k≠g->u.heap[k]? =w.heap[k]? :=λk I hne=>by rw[m,heap_grow_old _ _ (by simpa[mapBlock,Sort.ahead]using I)];simp[mapBlock,Sort.ahead,yew,Ne.symm hne]
 have r:w.heap.size<=u.heap.size:=by rw[m];simp[grow,mapBlock,Sort.ahead]
 have C:(putCells id 0 F q).toList.take (l.length*2)=zfP p:=by
  rw[ag];apply yeg;intro j;have hR:(zfP R).length=(l.length-A.length)*2:=by rw[zfM,hlA];simp
  by_cases L:j<l.length*2
  .rw[ycg L,yb2];have S:j<q.size:=by have:l.length*2<=cap*2:=yat _ G;omega
   by_cases t:j<F.size;.rw[yap (by simpa using t),yb2];simp[putCells,t,S]
   .rw[yam (by simpa using yep t)];have P:(q.toList.take (l.length*2))[j]? =(zfP l)[j]? :=by rw[H]
    rw[ycg L,O,yam (by rw[zfM];omega),yb2,zfM]at P;rw[ya4,Q,<-P];simp[putCells,t,S]
  .rw[List.getElem?_take_eq_none (by omega),ybv (by rw[yag,ya4,hR,Q];omega)]
 have ah:∀a,Im a->a.block≠g:=λa W hb=>by have:=((o g rfl).1 a W hb).1;cases this
 have s:∀a,Im a->u.cell? a=w.cell? a:=λa W=>ya5 (c _ (hs.imlt a W).1 (ah a W));rw[<-E];have ai:Go.RowKit.Below base w u:=⟨by rw[m];rfl,by rw[m];rfl,by rw[m];rfl,r,λk I=>c k (ycc I hs.hb) (by omega)⟩;have D:∀z:List Slot,z.length=l.length->(Entry.row e 2 (zao z) false).block κ i=some g:=λz J=>by simp[Entry.block,zaq,J,T,Value.ownBlock]
 refine⟨hs.set he (.row e 2 (zao p) false) (λ_ _ _ h=>h) (λ_ _ _ h=> .inl h) (by simp[Entry.ver,zaq,d]) (λ_ h=>h) s (λ_ h=> .inl h) r (λk I K=>c k I λh=>K (by rw[D l rfl,h])) ?_ (λb hb=> .inr (by rw[D l rfl,<-hb,D p d])),⟨λ_ _ _ h=>h,λ_ h=>h,s,λ_ h=> .inl h,ai⟩⟩;unfold EOK;refine⟨.slice (some ⟨g,0,none⟩) l.length cap,zfP p,by rw[zaq,d];exact T,⟨by rw[zfM,zaq],.inr ⟨g,cap,_,by rw[zaq,d],y,B,by rw[zaq,d];exact G,Z,by simp[putCells,aa],by rw[zaq,d];exact C⟩⟩,z7W p,by decide,z1Z p,z1T p,λh=>(by cases h), ?_⟩;rw[zaq,d];exact o
end Go.Abs
namespace Go.Proofs.YtdbhocoeolhjhaaGreatDoor
open Go.Shelf Go.RowKit Go.Lib Go.Sort Go.Proofs Go.Sf
theorem ltH (x y:Slot):ltOf (λx y:Slot=>Lib.compareInt x.1 y.1) x y=decide (x.1<y.1):=by
 unfold ltOf Lib.compareInt;by_cases a:x.1<y.1;.simp[a]
 .by_cases b:y.1<x.1;.simp[a,b]
  .simp[a,b]
theorem swoH:SWO (ltOf λx y:Slot=>Lib.compareInt x.1 y.1) where
 irrefl x:=by rw[ltH];simp
 trans x y z h1 h2:=by rw[ltH]at*;simp only[decide_eq_true_eq]at*;omega
 ntrans x y z h1 h2:=by rw[ltH]at*;simp only[decide_eq_false_iff_not]at*;omega
set_option maxHeartbeats 1000000 in
theorem zxV (x y:Slot)(W:World):Calls Tryz.prog 166 #[.agg #[.int .i64 x.1,.int .i64 x.2],.agg #[.int .i64 y.1,.int .i64 y.2]] W λe w'=>e=.returned (.int .i64 (Lib.compareInt x.1 y.1))/\∃q os',w'=grow (W.drewN q) os':=by
 have a:=λb=>Tryz.cmp_Compare_int x.1 y.1 b;generalize Lib.compareInt x.1 y.1=r at a⊢
 go_enter Tryz.func166,Tryz.ntmps166
 go_wp2_with (go_at_call 111;refine(a _).mono ?_;rintro e w' ⟨rfl,rfl⟩)
 go_ret
 exact⟨rfl,0,_,by rw[alloc_eq_grow,alloc_eq_grow,grow_grow];rfl⟩
theorem z1h (blk off size:Nat)(w:World):CmpLays Tryz.prog 166 #[] Go.Abs.encS 2 (λx y=>Lib.compareInt x.1 y.1) blk off size w:=λ_ _ _ _ x y=>zxV x y _
theorem zA4 {l:List Slot}{d:Array Slot}(h:PermIn 0 l.toArray.size l.toArray d):d.toList.Perm l:=by
 obtain⟨b,_,a⟩:=h;have c:(d.extract 0 l.toArray.size).toList=d.toList:=by rw[<-b];simp
 have e:(l.toArray.extract 0 l.toArray.size).toList=l:=by simp
 rw[c,e]at a;exact a
theorem z6h {l:List Slot}{d:Array Slot}(hs:d.size=l.length)(h:SortedIn (ltOf λx y:Slot=>Lib.compareInt x.1 y.1) 0 l.toArray.size d):d.toList.Pairwise λa b=>a.1<=b.1:=by
 rw[ybm];intro i j g k e;have c:j<d.size:=by simpa using k
 have f:i<d.size:=by simpa using g
 have:=h i j (ycm _) e (by simpa[hs]using c);rw[ltH,getElem!_pos d j c,getElem!_pos d i f]at this;simpa using this
open Go.Abs in
variable {G:Globs} in
theorem zvE {σ:zaa}{id e:Nat}{A R:List Slot}{X:AV}(hX:(X=.row id (A++R).length/\R= [])∨X=.sub id (A++R).length 2 0 A.length)(he:σ[id]? =some (.row e 2 (zao (A++R)) false)) (hA:A≠ []) (hl:A.length<4611686018427387904):
  AT 165 [X,.fn (.func 166) [] []] σ λr σ'=>r=.tup []/\∃A':List Slot,A'.Perm A/\(A'.Pairwise λa b=>a.1<=b.1)/\σ'=σ.set id (.row e 2 (zao (A'++R)) false):=by
 intro base κ Im w T hs f;have J:A++R≠ []:=λh=>hA (List.append_eq_nil_iff.1 h).1;have K:0<A.length:=ycw.2 hA;obtain⟨g,D,M,U,W,k⟩:=zzj (A:=A) (R:=R) rfl hs he J;obtain⟨Y,l,m⟩:=f.get? (i:=0) (a:=X) rfl;obtain⟨u1,o,E⟩:=f.get? (i:=1) (a:=.fn (.func 166) [] []) rfl;obtain⟨B,Z⟩:∃B,Y=.slice (some ⟨g,0,none⟩) A.length B:=by
  rcases hX with ⟨rfl,hR⟩|rfl;.obtain⟨_,_,_,C⟩:=m.row_inv;rw[M]at C;have:=Option.some.inj C;subst hR;exact⟨D,by rw[<-this];simp⟩
  .obtain⟨b,O,ad,c,rfl,C,_,_,F,_,_,_⟩:=m.sub_inv;have q:=M.symm.trans C;simp only[yab,Value.slice.injEq,Addr.mk.injEq,true_and,and_true]at q;rw[F K,<-q.1];exact⟨c,by simp⟩
 subst Z;obtain⟨fs,us,rfl,G,H⟩:=E.fn_inv;have s:fs= []:=yaq G.1.symm;have t:us= []:=yaq H.1.symm;subst s;subst t;have L:T= [.slice (some ⟨g,0,none⟩) A.length B,.func (.func 166) #[] #[]]:=by
  have u:=f.1
  match T,u with
  | [a,b],_=>simp at l o;rw[l,o]
 subst L;have eg:∀d w,(callFunc 166 d).run Tryz.prog w=.ok (.enter 166 d) w:=enters_of Tryz.func166 (by kernel_rfl) rfl;have hc:=AnyQ.slices_SortFunc Tryz.sortSlot 2 Tryz.isAgg186 Tryz.sizeOf186 encS (λ_=>rfl) (λx v f=>by simp[encS]at f;rcases f with rfl|rfl<;>rfl) (λx y=>Lib.compareInt x.1 y.1) swoH 166 #[] g 0 B A.toArray w eg (z1h g 0 _ w) W U (by simpa using hl);refine Calls.mono hc ?_;rintro e' w' ⟨rfl,p,n,os,S,I,rfl⟩;have z:p.size=A.length:=by simpa using S.1
 obtain⟨P,Q⟩:=k p.toList n os (by simpa using z);have hd:p.toList.toArray=p:=by simp
 rw[hd]at P Q;exact⟨.tup [],_,.tuple #[],κ,Im,rfl,⟨rfl,p.toList,zA4 S,z6h z I,rfl⟩,P,Q,.im _ _ (by first|exact .tup _ _ rfl (λj h=>by simp at h)|constructor<;>simp)⟩
end Go.Proofs.YtdbhocoeolhjhaaGreatDoor
namespace Go.Sf
open Go.Abs
def zhP (l:List Slot):List Slot:=l.filter λs=> !decide (s.1= -1)
def zcu (l:List Slot):List Slot:=(zhP l).mergeSort λa b=>decide (a.1<=b.1)
theorem zgK (l:List Slot):(zcu l).Perm (zhP l):=yel _ _
theorem zqd (l:List Slot):(zcu l).length<=l.length:=by rw[(zgK l).length_eq];exact ycs _ _
theorem zyV (l:List Slot):(zcu l).Pairwise λa b=>a.1<=b.1:=by have h:=ydz (le:=λa b:Slot=>decide (a.1<=b.1)) (λa b c d e=>by simp only[decide_eq_true_eq]at*;omega) (λa b=>by simp only[ydu,decide_eq_true_eq];omega) (zhP l);exact h.imp λh=>by simpa using h
theorem zuc {l:List Slot}{s:Slot}(h:s∈zcu l):s∈l/\s.1≠ -1:=by have:=(zgK l).mem_iff.1 h;simp[zhP]at this;exact⟨this.1,this.2⟩
theorem z7Z {step:Nat}{l:List Slot}(h:zde step l)(hs:0<step){a b:Slot}(ha:a∈l)(hb:b∈l)(ha1:a.1≠ -1)(he:a.1=b.1):a=b:=by
 obtain⟨i,e⟩:=ybb ha;obtain⟨j,c⟩:=ybb hb;rcases h i a e with ⟨f,_⟩|⟨k,f,_,n,_,_⟩
 .exact absurd f ha1
 rcases h j b c with ⟨g,_⟩|⟨m,g,_,o,_,_⟩;.exact absurd (he.trans g) ha1
 have:k*step=m*step:=by omega
 have p:k=m:=Nat.eq_of_mul_eq_mul_right hs this;subst p;have d:i=j:=n.symm.trans o;subst d;rw[e]at c;exact Option.some.inj c
theorem zvv {step:Nat}{l A:List Slot}(h:zde step l)(hs:0<step)(hp:A.Perm (zhP l))(ho:A.Pairwise λa b=>a.1<=b.1):A=zcu l:=by refine List.Perm.eq_of_pairwise (le:=λa b:Slot=>a.1<=b.1) (λa b d e f g=> ?_) ho (zyV l) (hp.trans (zgK l).symm);have c:=hp.mem_iff.1 d;simp[zhP]at c;exact z7Z h hs c.1 (zuc e).1 c.2 (by omega)
def zeJ (l:LadM):List SlR:=(zcu l.fine).map (λs=>⟨0,s.1.toNat,s.2⟩)++(zcu l.wide).map λs=>⟨1,s.1.toNat,s.2⟩
end Go.Sf
namespace Go.Proofs.YtdbhocoeolhjhaaGreatDoor
open Go.Abs Go.RowKit Go.Sf
variable {G:Globs}
theorem zyF {σ:zaa}{id n:Nat}:AT 165 [.sub id n 2 0 0,.fn (.func 166) [] []] σ λr σ'=>r=.tup []/\σ'=σ:=by
 intro base κ Im w q u k;obtain⟨v,d,g⟩:=k.get? (i:=0) (a:=.sub id n 2 0 0) rfl;obtain⟨m,e,s⟩:=k.get? (i:=1) (a:=.fn (.func 166) [] []) rfl;obtain⟨b,o,p,c,rfl,x,_,_,t,_,_,_⟩:=g.sub_inv;have l:q= [.slice (some p) (0-0) c,m]:=by
  have f:=k.1
  match q,f with
  | [a,b],_=>simp at d e;rw[d,e]
 subst l;refine Calls.mono (AnyF.slices_SortFunc_none Tryz.sortSlot (some p) c m w) ?_;rintro y z ⟨rfl,rfl⟩;exact⟨.tup [],σ,.tuple #[],κ,Im,rfl,⟨rfl,rfl⟩,u,Grow.refl _ _ _ _,.im _ _ (by first|exact .tup _ _ rfl (λj h=>by simp at h)|constructor<;>simp)⟩
theorem z7b (s:Slot):PT 164 [.agg (zcP s)] (λr=>r=.bool (decide (s.1= -1))):=by refine pwP zuI ?_;simp[zmY,zcP]
def zBw (c:List AV):Bool:=match c with
 | .int _ t::_=>decide (t= -1)
 |_=>false
theorem z6y (pre:zaa)(l:List Slot):Asks Tryz.prog pre 164 [] .agg zBw (zao l):=λc a X K b=>by obtain⟨s,_,rfl⟩:=yar.1 a;exact .inl ⟨_,_,zju (by simp[AV.pure,zcP]),z7b s,λr d=>by subst d;exact b⟩
theorem zyt (l:List Slot):((zao l).filter λn=> !zBw n)=zao (zhP l):=by unfold zao zhP;rw[List.filter_map];rfl
theorem z06 (step:Nat)(l:List Slot)(hz:Sized step l)(h:zde step l):PT 92 [.agg (zaf step l)] (λr=>r=.lst (zao (zcu l))):=by
 refine pwP zzu ?_;have b:=zaq l;have w:=hz.n1;have E:=hz.n2;have kR:=zm6 (G:=G) step l hz h;simp only[zaf]at kR;simp[zry,zaf];refine zad kR ?_;simp;refine zai (z6z (zao l) (zcN l) (by omega)) ?_;rintro r σ (⟨y,rfl,rfl⟩|⟨rfl,rfl⟩);.have:=congrArg List.length y;rw[b]at this;simp at this;rw[this]at w;simp at w
 simp;have x:=zD7 (G:=G) [.var 112 (zaf step l)] (zao l) (zcN l) (by omega) zBw 164 [] zui (z6y _ l);rw[zyt]at x;refine zai x ?_;rintro r σ ⟨X,rfl,a,z,B⟩;have f:=zaq (zhP l);rcases B with ⟨rfl,rfl⟩|⟨rfl,n,D⟩
 .have d:zhP l≠ []:=λe=>by rw[f,b,e]at a;simp at a;omega
  have s:=zvE (G:=G) (σ:= [.var 112 (zaf step l),.row 186 2 (zao (zhP l)) false]) (id:=1) (e:=186) (A:=zhP l) (R:= []) (X:=.row 1 l.length) (.inl ⟨by rw[ybi,<-f,a,b],rfl⟩) (by simp) d (by rw[<-f,a];omega);simp[b];refine zai s ?_;rintro r σ ⟨rfl,C,p,q,rfl⟩;have k:=zvv h (by have:=hz.s1;omega) p q;subst k;have t:(zao (zcu l)).length=l.length:=by rw[zaq,(zgK l).length_eq,<-f,a,b]
  simp[t,zg4]
 .have u:List.replicate n [AV.int .i64 0,AV.int .i64 0]=zao (List.replicate n (0,0)):=by simp[zao,zcP]
  have m:X=zao (zhP l++List.replicate n (0,0)):=by rw[D,u];simp[zao]
  have j:(zhP l++List.replicate n ((0,0):Slot)).length=l.length:=by rw[m,zaq,b]at a;exact a
  subst m;rw[f,b];by_cases d:zhP l= [];.have v:zcu l= []:=(by simp[zcu,d]);simp[d];refine zai zyF ?_;rintro r σ ⟨rfl,rfl⟩;have g:(zao (List.replicate n ((0,0):Slot))).length=l.length:=(by rw[zaq,<-j,d];rfl);have i:∀c∈zao (List.replicate n ((0,0):Slot)),c.length=2:=(zcN _).1;simp[g,zg4];rw[if_pos i];simp[zao,v]
  .have s:=zvE (G:=G) (σ:= [.var 112 (zaf step l),.row 186 2 (zao (zhP l++List.replicate n (0,0))) false]) (id:=1) (e:=186) (A:=zhP l) (R:=List.replicate n (0,0)) (X:=.sub 1 l.length 2 0 (zhP l).length) (.inr (by rw[j])) (by simp) d (by have:=j;simp at this;omega);simp;refine zai s ?_;rintro r σ ⟨rfl,C,p,q,rfl⟩;have k:=zvv h (by have:=hz.s1;omega) p q;subst k;have o:=(zgK l).length_eq;have g:(zao (zcu l++List.replicate n ((0,0):Slot))).length=l.length:=(by rw[zaq,<-j];simp[o]);have i:∀c∈zao (zcu l++List.replicate n ((0,0):Slot)),c.length=2:=(zcN _).1;simp[g,zg4];rw[if_pos i];simp[<-o,zao]
end Go.Proofs.YtdbhocoeolhjhaaGreatDoor
namespace Go.Proofs.YtdbhocoeolhjhaaGreatDoor
open Go.Abs Go.RowKit Go.Sf Go.Num
variable {G:Globs}
def zja (i:Nat)(s:Slot):SlR:=⟨i,s.1.toNat,s.2⟩
theorem znt {step:Nat}{l:List Slot}(h:zde step l){s:Slot}(hs:s∈zcu l):∃k:Nat,s.1=(k:Int)/\k<=1099511627776/\i64 s.2/\s.2≠ -9223372036854775808:=by
 obtain⟨c,a⟩:=zuc hs;obtain⟨i,d⟩:=ybb c;rcases h i s d with ⟨b,_⟩|⟨k,b,e,_,f,g⟩
 .exact absurd b a
 .exact⟨_,b,e,f,g⟩
theorem z7n (l:LadM)(h:RightL l):PT 44 [.agg (ladC l)] (λr=>r=.lst (zfU (zeJ l))):=by
 refine pwP zsA ?_;simp[zkW,ladC];refine zad (zvZ l h) ?_;simp[zak];obtain⟨v,L⟩:∃v:Entry,v=.var 55 (ladC l):=⟨_,rfl⟩;obtain⟨q,w⟩:∃q,q=(zcu l.fine).map (zja 0):=⟨_,rfl⟩;obtain⟨E,y⟩:∃E,E=(zcu l.wide).map (zja 1):=⟨_,rfl⟩;have I:zeJ l=q++E:=by rw[w,y];rfl
 have U:=zqd l.fine;have W:=zqd l.wide;rw[h.n1]at U;rw[h.n2]at W;have aa:q.length<=6:=by rw[w];simpa using U
 have ab:E.length<=5:=by rw[y];simpa using W
 refine zac (λx f σ=>∃(i:Nat) (g:zaa),x=2-i/\i<=2/\AccT 74 9 1 g (f 3) (zfU (if i=0 then []else if i=1 then q else q++E))/\f 12=.lst (zak l)/\f 13=.int .i64 2/\f 14=.int .i64 i/\σ=v::g) 2 ?_ ?_;.exact⟨0,[],by simp,by simp,by simp[zfU];exact zku,by simp[zak],by simp,by simp,by simp[L,ladC,zak]⟩
 rintro x f σ ⟨i,g,rfl,hi,d,c,a,b,rfl⟩;have T:i=0∨i=1∨i=2:=by omega
 rcases T with rfl|rfl|rfl
 .simp at d;simp[c,a,b,zak,zaf];refine zad (by have:=z06 (G:=G) 10 l.fine (zsq h) h.r1;exact this) ?_;have A:=zaq (zcu l.fine);simp[A];have o:=d.more [Entry.var 112 (zaf 10 l.fine)];refine zac (λx f σ=>∃(j:Nat) (g:zaa),x=(zcu l.fine).length-j/\j<=(zcu l.fine).length/\AccT 74 9 1 g (f 3) (zfU ([]++((zcu l.fine).take j).map (zja 0)))/\f 4=.int .i64 0/\f 12=.lst (zak l)/\f 13=.int .i64 2/\f 14=.int .i64 0/\f 20=.lst (zao (zcu l.fine))/\f 21=.int .i64 (zcu l.fine).length/\f 22=.int .i64 j/\σ=v::g) (zcu l.fine).length ?_ ?_;.exact⟨0,_,by simp,by simp,by simpa using o,by simp,by simp[c,zak,zaf],by simp[a],by simp[b],by simp,by simp,by simp,by simp[zaf]⟩
  clear c a b d o;rintro x f σ ⟨j,g,rfl,Y,d,F,c,a,b,m,n,e,rfl⟩;simp[n,e];refine zap (λR=> ?_) (λS=> ?_);.have p:j<(zcu l.fine).length:=(by omega);have B:=wS j (by omega);obtain⟨s,z⟩:∃s,(zcu l.fine)[j]? =some s:=⟨_,yah p⟩;have J:=zc0 z;obtain⟨M,O⟩:=yaa.1 J;obtain⟨k,P,Q,_,_⟩:=znt h.r1 (yad z);have C: [.int .i64 3,.str [],.int .i64 0,.int .i64 0,.lst [],.int .i64 0,.int .i64 s.1,.int .i64 0,.int .i64 s.2]=slRC (zja 0 s):=(by simp[slRC,zed,zja,P]);have K:(zfU ([]++((zcu l.fine).take j).map (zja 0))).length<=12:=(by rw[znu];simp;omega);have u:zfU ([]++((zcu l.fine).take (j+1)).map (zja 0))=zfU ([]++((zcu l.fine).take j).map (zja 0))++ [slRC (zja 0 s)]:=(by rw[ybh,z];simp[zfU]);simp[F,m,e,J,zcP,splice];rw[C];refine zri (bytes:=96) (σ:= [v]) (d.more [Entry.var 186 [.int .i64 s.1,.int .i64 s.2]]) (slRC (zja 0 s)) (by decide) rfl (by omega) (by omega) λZ τ' t H _=> ?_;simp[e,B];refine nx_i ⟨j+1,τ',rfl,by omega, ?_,by simp[F],by simp[c],by simp[a],by simp[b],by simp[m],by simp[n],by simp,rfl⟩;simp;simp only[yco]at u t;rw[<-ydh,u];exact t
  .have D:j=(zcu l.fine).length:=(by omega);subst D;rw[yav]at d;simp[b,wk1];exact nx_i ⟨1,g,rfl,by omega,by simpa[w]using d,by simp[c,zak,zaf],by simp[a],by simp,rfl⟩
 .simp at d;simp[c,a,b,zak,zaf];refine zad (by have:=z06 (G:=G) 60 l.wide (zpB h) h.r2;exact this) ?_;have A:=zaq (zcu l.wide);simp[A];have o:=d.more [Entry.var 112 (zaf 60 l.wide)];refine zac (λx f σ=>∃(j:Nat) (g:zaa),x=(zcu l.wide).length-j/\j<=(zcu l.wide).length/\AccT 74 9 1 g (f 3) (zfU (q++((zcu l.wide).take j).map (zja 1)))/\f 4=.int .i64 1/\f 12=.lst (zak l)/\f 13=.int .i64 2/\f 14=.int .i64 1/\f 20=.lst (zao (zcu l.wide))/\f 21=.int .i64 (zcu l.wide).length/\f 22=.int .i64 j/\σ=v::g) (zcu l.wide).length ?_ ?_;.exact⟨0,_,by simp,by simp,by simpa using o,by simp,by simp[c,zak,zaf],by simp[a],by simp[b],by simp,by simp,by simp,by simp[zaf]⟩
  clear c a b d o;rintro x f σ ⟨j,g,rfl,Y,d,F,c,a,b,m,n,e,rfl⟩;simp[n,e];refine zap (λR=> ?_) (λS=> ?_);.have p:j<(zcu l.wide).length:=(by omega);have B:=wS j (by omega);obtain⟨s,z⟩:∃s,(zcu l.wide)[j]? =some s:=⟨_,yah p⟩;have J:=zc0 z;obtain⟨M,O⟩:=yaa.1 J;obtain⟨k,P,Q,_,_⟩:=znt h.r2 (yad z);have C: [.int .i64 3,.str [],.int .i64 0,.int .i64 0,.lst [],.int .i64 1,.int .i64 s.1,.int .i64 0,.int .i64 s.2]=slRC (zja 1 s):=(by simp[slRC,zed,zja,P]);have K:(zfU (q++((zcu l.wide).take j).map (zja 1))).length<=12:=(by rw[znu];simp;omega);have u:zfU (q++((zcu l.wide).take (j+1)).map (zja 1))=zfU (q++((zcu l.wide).take j).map (zja 1))++ [slRC (zja 1 s)]:=(by rw[ybh,z];simp[zfU]);simp[F,m,e,J,zcP,splice];rw[C];refine zri (bytes:=96) (σ:= [v]) (d.more [Entry.var 186 [.int .i64 s.1,.int .i64 s.2]]) (slRC (zja 1 s)) (by decide) rfl (by omega) (by omega) λZ τ' t H _=> ?_;simp[e,B];refine nx_i ⟨j+1,τ',rfl,by omega, ?_,by simp[F],by simp[c],by simp[a],by simp[b],by simp[m],by simp[n],by simp,rfl⟩;simp;rw[<-ydh,u];exact t
  .have D:j=(zcu l.wide).length:=(by omega);subst D;rw[yav]at d;simp[b,wk2];exact nx_i ⟨2,g,rfl,by omega,by simpa[y]using d,by simp[c,zak,zaf],by simp[a],by simp,rfl⟩
 .simp at d;have X:=AccT.finR (σ:= [v]) d 0;simp only[ybp,yco]at X;simp[a,b,X,I]
theorem zCz (x y:Nat)(hx:x<18446744073709551616)(hy:y<18446744073709551616):PT 280 [.int .u64 x,.int .u64 y] (λr=>r=.tup [.int .u64 ((x*y/18446744073709551616:Nat):Int),.int .u64 ((x*y%18446744073709551616:Nat):Int)]):=by
 refine pwP zqH ?_;have a:IntKind.u64.wrap ((x*y/18446744073709551616:Nat):Int)=((x*y/18446744073709551616:Nat):Int):=by
  rw[zba];have:x*y/18446744073709551616<18446744073709551616:=by have e:x*y<=x*18446744073709551615:=yc4 x (by omega);omega
  omega
 have b:IntKind.u64.wrap ((x*y%18446744073709551616:Nat):Int)=((x*y%18446744073709551616:Nat):Int):=by rw[zba];omega
 obtain⟨h,c⟩:∃h,h=x*y/18446744073709551616:=⟨_,rfl⟩;obtain⟨l,d⟩:∃l,l=x*y%18446744073709551616:=⟨_,rfl⟩;have kM:=z0y (G:=G) x y hx hy;rw[<-c,<-d]at kM⊢;rw[<-c]at a;rw[<-d]at b;have f:IntKind.u64.wrap (x:Int)=(x:Int):=by rw[zba];omega
 have g:IntKind.u64.wrap (y:Int)=(y:Int):=by rw[zba];omega
 simp[zjV];refine zad kM ?_;simp
def zij (n:Nat):List Slot:=List.replicate n (-1,0)
def repS (n k:Nat):List (List AV):=List.replicate k [AV.int .i64 (-1),AV.int .i64 0]++List.replicate (n-k) [AV.int .i64 0,AV.int .i64 0]
theorem z0c {n k:Nat}(h:k<=n):(repS n k).length=n:=by simp[repS];omega
theorem zxp (n k:Nat):(repS n k).take k=List.replicate k [AV.int .i64 (-1),AV.int .i64 0]:=by unfold repS;exact yci (by simp)
theorem z6D {n k:Nat}(h:k<=n):(repS n k).take k++(List.replicate k [AV.int .i64 (-1),AV.int .i64 0]).take (n-k)++(repS n k).drop (k+min k (n-k))=repS n (k+min k (n-k)):=by rw[zxp,List.take_replicate];unfold repS;rw[yeo];simp only[List.length_replicate];rw[show k+min k (n-k)-k=min k (n-k) by omega,List.drop_replicate,List.drop_replicate,show k-(k+min k (n-k))=0 by omega,List.replicate_zero,yco,Nat.min_comm (n-k) k,List.replicate_append_replicate];congr 2;omega
theorem z3x (n:Nat):List.replicate n [AV.int .i64 0,AV.int .i64 0]=repS n 0:=by simp[repS]
theorem z8X (n:Nat): [[AV.int .i64 (-1),AV.int .i64 0]].take n++(repS n 0).drop (min 1 n)=repS n (min 1 n):=by
 cases n with
 |zero=>simp[repS]
 |succ n=>simp[repS,ydq]
theorem z7K (n:Nat):repS n n=zao (zij n):=by simp[repS,zao,zcP,zij]
theorem z6m (n:Nat)(hn:n<=100000):PT 242 [.lst [[.int .i64 (-1),.int .i64 0]],.int .i64 n] (λr=>r=.lst (zao (zij n))):=by
 refine pwP zek ?_;have kM:=zCz (G:=G) 1 n (by decide) (by omega);have s:1*n/18446744073709551616=0:=by omega
 have t:1*n%18446744073709551616=n:=by omega
 rw[s,t]at kM;have u:IntKind.u64.wrap (n:Int)=(n:Int):=by rw[zba];omega
 have v:IntKind.i64.wrap (n:Int)=(n:Int):=wI (by omega);have w:IntKind.u64.wrap 1=1:=by decide
 have y:¬(n:Int)<0:=by omega
 have z:¬(9223372036854775807:Int)<(n:Int):=by omega
 have A:¬9223372036854775807<n:=by omega
 simp[zbZ,y,u,w];refine zad kM ?_;simp[z,v];refine zuW n rfl rfl (by omega) (by omega) (by decide) rfl ?_;rw[z3x];have e:=z0c (n:=n) (ycm n);simp;refine zzz [[.int .i64 (-1),.int .i64 0]] (min 1 n) (σ':= [.row 186 2 (repS n (min 1 n)) false]) rfl (by simp) (by decide) ?_ ?_;.simp[zyZ,e];have:=z8X n;simpa using this
 simp;refine zac (λx f σ=>∃k:Nat,x=n-k/\k<=n/\(1<=k∨n=0)/\f 7=.row 0 n/\f 8=.int .i64 k/\σ= [.row 186 2 (repS n k) false]) (n-min 1 n) ?_ ?_;.exact⟨min 1 n,rfl,by omega,by omega,by simp,by simp,rfl⟩
 rintro x f σ ⟨k,rfl,m,o,b,j,rfl⟩;have c:=z0c m;simp[b,j,c];refine zap (λp=> ?_) (λq=> ?_)
 .have l:k<n:=by omega
  have g:0<n:=by omega
  have C:1<=min k (n-k):=by omega
  obtain⟨d,i⟩:∃d,d=min k (n-k):=⟨_,rfl⟩;have B:IntKind.i64.wrap ((k:Int)+d)=((k+d:Nat):Int):=wE (by omega);have a:k<=n:=by omega
  simp[b,j,c,g,a];refine zzz (List.replicate k [.int .i64 (-1),.int .i64 0]) d (σ':= [.row 186 2 (repS n (k+d)) false]) ?_ (by simp) (by decide) ?_ ?_;.simp[c,zxp]
  .have:=z6D a;rw[<-i]at this;simp only[zyZ,yc8,c,List.length_replicate];rw[if_pos ⟨trivial,trivial,trivial,a,yaf _⟩];simp only[<-i,List.set_cons_zero];rw[this]
  simp[B];refine nx_i ⟨k+d,rfl,by omega,by omega,by simp[b],by simp,rfl⟩
 .have:k=n:=by omega
  subst this;have h:(zao (zij k)).length=k:=by simp[zaq,zij]
  simp[b,z7K,zg4,h]
theorem zk7 (s n:Nat)(h1:1<=s)(h2:s<=86400)(h3:1<=n)(h4:n<=400):PT 187 [.int .i64 s,.int .i64 n] (λr=>r=.tup [.agg (zaf s (zij n)),.int .i64 0]):=by refine pwP z2y ?_;simp[ztm];refine zad (zwU s n h1 h2 h3 h4) ?_;simp;refine zad (z6m n (by omega)) ?_;simp[splice,zaf]
theorem zrH:PT 124 [.agg schC] (λr=>r=.tup [.agg (ladC newL),.int .i64 0]):=by
 refine pwP zpi ?_;have p:=zk7 (G:=G) 10 6 (by omega) (by omega) (by omega) (by omega);have q:=zk7 (G:=G) 60 5 (by omega) (by omega) (by omega) (by omega);simp only[zaf]at p q;simp[zjL,schC];refine zad zyj ?_;simp;refine zad zkd ?_;simp[splice];obtain⟨k,n⟩:∃k:Entry,k=.var 52 schC:=⟨_,rfl⟩;obtain⟨l,m⟩:∃l:Entry,l=.var 55 [.int .i64 0,.int .i64 0,.nils]:=⟨_,rfl⟩;refine zac (λx f σ=>∃(i:Nat),x=2-i/\i<=2/\f 2=.ptr 1 0/\f 4=.ptr 2 0/\f 28=.lst rungsC/\f 29=.int .i64 2/\f 30=.int .i64 i/\((i=0/\σ= [k,l,.var 55 [.int .i64 1,.int .i64 500000,.nils]])∨ (i=1/\∃a b,σ= [k,l,.var 55 [.int .i64 1,.int .i64 500000,.row 5 1],a,b,.row 112 2 [zaf 10 (zij 6)] true])∨ (i=2/\∃a b c d,σ= [k,l,.var 55 [.int .i64 1,.int .i64 500000,.row 5 2],a,b,.row 112 2 [zaf 10 (zij 6),zaf 60 (zij 5)] true,c,d]))) 2 ?_ ?_;.exact⟨0,by simp,by simp,by simp,by simp,by simp,by simp[rungsC],by simp,.inl ⟨rfl,by simp[n,m,schC]⟩⟩
 rintro x f σ ⟨i,rfl,s,o,j,h,e,g,⟨rfl,rfl⟩|⟨rfl,a,b,rfl⟩|⟨rfl,a,b,c,d,rfl⟩⟩;.simp[h,e,g,rungsC,splice];refine zad p ?_;simp[j,splice];refine zf6 true [zaf 10 (zij 6)] (by simp[view,zaf]) (by decide) (by simp[zaf]) (λ_=> .inl (by simp[zgp,zaf])) (by simp) (by simp) ?_;simp[j,g,splice,wk1];exact nx_i ⟨1,rfl,by omega,by simp[o],by simp[j],by simp[h,rungsC],by simp[e],by simp,.inr (.inl ⟨rfl,_,_,rfl⟩)⟩
 .simp[h,e,g,rungsC,splice];refine zad q ?_;simp[j,splice];refine zbJ [zaf 10 (zij 6)] [zaf 60 (zij 5)] true (by simp) (by simp[view,zaf]) (by decide) (by simp[zaf]) (λ_=> .inl (by simp[zgp,zaf])) rfl (by simp) (by simp) ?_;simp[j,g,splice,wk2];exact nx_i ⟨2,rfl,by omega,by simp[o],by simp[j],by simp[h,rungsC],by simp[e],by simp,.inr (.inr ⟨rfl,a,b,_,_,rfl⟩)⟩
 .simp[o,j,e,g,m,splice,ladC,zak,newL];exact⟨rfl,rfl⟩
theorem zxL (l:LadM)(t now:Nat)(ht:t<=1000000000)(hn:now<=1000000000):PT 127 [.agg (ladC l),.agg [.int .i64 t,.int .i64 (-9223372036854775808)],.int .i64 now] (λr=>r=.tup [.agg (ladC l),.int .i64 1]):=by refine pwP zjG ?_;simp[zgG,ladC];refine zad (znz t (by omega)) ?_;simp;refine zad (znz now (by omega)) ?_;simp[splice]
def z2D (bs:List ArrM):List ArrM:=bs.takeWhile λa=>decide (a.value≠ -9223372036854775808)
theorem z7s {bs:List ArrM}{i:Nat}{a:ArrM}(h:bs[i]? =some a)(hv:∀x∈bs.take i,OkV x)(ha:¬OkV a):z2D bs=bs.take i:=by
 induction bs generalizing i with
 |nil=>simp at h
 |cons b bs e=>
  cases i with
  |zero=>simp at h;subst h;unfold OkV at ha;simp[z2D,Classical.not_not.1 ha]
  |succ i=>have c:OkV b:=hv b (by simp);have:=e (i:=i) (by simpa using h) λx d=>hv x (by simp[d]);unfold OkV at c;simp only[z2D]at this⊢;simp[c];simpa using this
theorem zv8 {bs:List ArrM}(hv:∀x∈bs,OkV x):z2D bs=bs:=by
 induction bs with
 |nil=>rfl
 |cons b bs d=>have a:OkV b:=hv b (by simp);have:=d λx c=>hv x (by simp[c]);unfold OkV at a;simp only[z2D]at this⊢;simp[a];simpa using this
instance (a:ArrM):Decidable (OkV a):=by unfold OkV;exact inferInstance
theorem z4O (l:LadM)(h:RightL l)(bs:List ArrM)(hb:∀a∈bs,OkA a)(hl:bs.length<=1000):PT 67 [.agg (ladC l),.lst (zaO bs)] (λr=>r=.tup [.agg (ladC (zaz l (z2D bs))),.int .i64 (if∀a∈bs,OkV a then 0 else 1)]):=by
 refine pwP zsi ?_;have A:=zcg bs;simp[zlj,A,ladC];obtain⟨w,c⟩:∃w:Entry,w=.var 55 [.int .i64 0,.int .i64 0,.nils]:=⟨_,rfl⟩;refine zac (λx f σ=>∃(i:Nat) (y:zaa),x=bs.length-i/\i<=bs.length/\(∀a∈bs.take i,OkV a)/\f 2=.ptr 0 0/\f 4=.ptr 1 0/\f 9=.lst (zaO bs)/\f 10=.int .i64 bs.length/\f 11=.int .i64 i/\σ=.var 55 (ladC (zaz l (bs.take i)))::w::y) bs.length ?_ ?_;.exact⟨0,[],by simp,by simp,by simp,by simp,by simp,by simp,by simp,by simp,by simp[c,ladC,zaz]⟩
 rintro x f σ ⟨i,y,rfl,Q,g,m,z,F,o,d,rfl⟩;simp[o,d];refine zap (λK=> ?_) (λL=> ?_)
 .have q:i<bs.length:=by omega
  have B:=wS i (by omega);obtain⟨a,k⟩:=gE q;have H:=znF k;obtain⟨I,J⟩:=yaa.1 H;have e:=hb a (yad k);have s:=tS k;have O:RightL (zaz l (bs.take i)):=zc5 h λx p=>⟨hb x (yao p),g x p⟩;simp[m,F,d,H,arrC,splice,ladC];by_cases b:OkV a
  .have j:=zoI (G:=G) _ O a.time a.now a.value e.t e.n e.le e.ge e.v b;have C:zc4 (zaz l (bs.take i)) a.time a.now a.value=zaz l (bs.take (i+1)):=(by rw[s,zig];rfl);rw[C]at j;simp only[ladC]at j;refine zad j ?_;simp[m,d,splice,B];refine nx_i ⟨i+1,y++ [.var 91 (arrC a)],rfl,by omega,λx p=> ?_,by simp[m],by simp[z],by simp[F],by simp[o],by simp,by simp[arrC]⟩;rw[s]at p;rcases yai.1 p with u|u
   .exact g x u
   .simp at u;subst u;exact b
  .have D:a.value= -9223372036854775808:=Classical.not_not.1 b;have j:=zxL (G:=G) (zaz l (bs.take i)) a.time a.now e.t e.n;have P:¬∀a∈bs,OkV a:=λM=>b (M a (yad k));simp only[ladC]at j;rw[D];refine zad j ?_;rw[z7s k g b];simp[m,z,c,splice,P]
 .have E:i=bs.length:=by omega
  subst E;rw[yav]at g⊢;rw[zv8 g];simp[m,z,c,splice,ladC];exact g
end Go.Proofs.YtdbhocoeolhjhaaGreatDoor
