import Derived.Test.YtdbhocoeolhjhaaGreatDoorBn7
set_option maxHeartbeats 8000000
set_option linter.unusedSimpArgs false
set_option linter.unusedVariables false
set_option linter.constructorNameAsVariable false
namespace Go.Proofs.YtdbhocoeolhjhaaGreatDoor
open Go.Abs Go.RowKit Go.Sf
variable {G:Globs}
attribute [-simp] zaS zc2 zbM zas
def hb2 (p:Txt):Txt:= [lo8 1]++leB p.length 2
def hb5 (p:Txt):Txt:=hb2 p++p++leB 1 1++leB 500000 4++leB 2 1
def hb7 (p:Txt):Txt:=hb5 p++leB 10 4++leB 6 2
attribute [-simp] zaS zc2 zbM zas
attribute [-simp] zaS zc2 zbM zas
attribute [-simp] zaS zc2 zbM zas
attribute [-simp] zaS zc2 zbM zas
end Go.Proofs.YtdbhocoeolhjhaaGreatDoor
namespace Go.Sf
theorem zAW {t k:Nat}(h:t<256^k):leN (leB t k)=t:=by
 have a:=zuv t k;have b:((t:Int)%((256^k:Nat):Int))=t:=by rw[<-Int.natCast_emod,ybo h]
 omega
theorem z43 {v:Int}(h:i64 v):IntKind.i64.wrap (leN (leB v 8):Int)=v:=by have a:=zuv v 8;have b:((256^8:Nat):Int)=18446744073709551616:=rfl;rw[b]at a;rw[a];have:=h.1;have:=h.2;simp[IntKind.wrap,IntKind.signed,IntKind.bits];omega
theorem zjT:∀b:Txt,Abs.bytesOf (Abs.byteEls b)=some b
 | []=>rfl
 |x::b=>by have h:=zjT b;simp only[Abs.byteEls,yce]at h⊢;simp[Abs.bytesOf,h]
end Go.Sf
namespace Go.Proofs.YtdbhocoeolhjhaaGreatDoor
open Go.Abs Go.RowKit Go.Sf
variable {G:Globs}
attribute [-simp] zaS zc2 zbM zas
end Go.Proofs.YtdbhocoeolhjhaaGreatDoor
namespace Go.Sf
open Go.Abs
inductive RecM where
 |pt (t now:Nat) (v:Int)
 |sl (i t:Nat) (v:Int)
def payB:RecM->Txt
 | .pt t now v=>zdB t now v
 | .sl i t v=>zh5 i t v
def recC:RecM->List AV
 | .pt t now v=>zbV (.lst []) t now v
 | .sl i t v=>zed (.lst []) i t v
def OkR:RecM->Prop
 | .pt t now v=>t<=1099511627776/\now<=1099511627776/\v≠ -9223372036854775808/\i64 v
 | .sl i t v=>i<4/\t<=1099511627776/\v≠ -9223372036854775808/\i64 v
def zbG (l:List RecM):Txt:=l.flatMap λr=>zay (payB r)
def zbQ (path:Txt)(l:List RecM):Txt:=zay (zbU path)++zbG l
theorem z1H (l:List RecM)(r:RecM):zbG (l++ [r])=zbG l++zay (payB r):=by simp[zbG]
theorem ztY (r:RecM):1<=(payB r).length/\(payB r).length<=512:=by
 cases r;.simp[payB,zkq]
 .simp[payB,zmG]
theorem zrG (l:List RecM):l.length<=(zbG l).length:=by
 induction l with
 |nil=>simp
 |cons a l b=>have:zbG (a::l)=zay (payB a)++zbG l:=rfl;rw[this,yag,zbd,ybg];omega
end Go.Sf
namespace Go.Proofs.YtdbhocoeolhjhaaGreatDoor
open Go.Abs Go.RowKit Go.Sf
variable {G:Globs}
attribute [-simp] zaS zc2 zbM zas
end Go.Proofs.YtdbhocoeolhjhaaGreatDoor
namespace Go.Sf
open Go.Abs
theorem zql (i:Nat):(2:Nat)^(8*i)=256^i:=by rw[Nat.pow_mul]
theorem zmx {i:Nat}{k y:Nat}(hi:i<k)(hy:y<256):y*256^i<256^k:=by
 have a:256^i*256<=256^k:=by rw[<-ydb];exact yed (by decide) hi
 have b:y*256^i<=255*256^i:=yat _ (by omega);have c:0<256^i:=Nat.pow_pos (by decide);omega
theorem zn4 {n y i:Nat}(h:n<256^i):n|||y*256^i=n+y*256^i:=by have:=Nat.shiftLeft_add_eq_or_of_lt (i:=8*i) (b:=n) (by rw[zql];exact h) y;rw[Nat.shiftLeft_eq,zql]at this;rw[Nat.or_comm,<-this,ye6]
end Go.Sf
namespace Go.Proofs.YtdbhocoeolhjhaaGreatDoor
open Go.Abs Go.RowKit Go.Sf
variable {G:Globs}
attribute [-simp] zaS zc2 zbM zas
theorem zz8 {n:Nat}(h:n<4294967296):IntKind.u32.wrap (n:Int)=n:=by simp[IntKind.wrap,IntKind.signed,IntKind.bits];omega
theorem zBu {y i:Nat}(hy:y<256)(hi:i<8):zaS .shl (.int .u64 (y:Int)) (.int .i64 (8*(i:Int)))=some (.int .u64 ((y*256^i:Nat):Int)):=by
 have a:(8*(i:Int)).toNat=8*i:=by omega
 have b:(0:Int)<=8*i:=by omega
 have c:min (8*i) 64=8*i:=by omega
 have d:(y:Int)*2^(8*i)=((y*256^i:Nat):Int):=by rw[<-zql];simp
 have e:=ziC (ycc (zmx hi hy) (by decide:256^8<=18446744073709551616));simp only[zaS,zas,a,b,IntKind.bits,c,d,e];rfl
theorem zB5 {y i:Nat}(hy:y<256)(hi:i<4):zaS .shl (.int .u32 (y:Int)) (.int .i64 (8*(i:Int)))=some (.int .u32 ((y*256^i:Nat):Int)):=by
 have a:(8*(i:Int)).toNat=8*i:=by omega
 have b:(0:Int)<=8*i:=by omega
 have c:min (8*i) 32=8*i:=by omega
 have d:(y:Int)*2^(8*i)=((y*256^i:Nat):Int):=by rw[<-zql];simp
 have e:=zz8 (zmx hi hy);simp only[zaS,zas,a,b,IntKind.bits,c,d,e];rfl
theorem zDF {n y i:Nat}(hn:n<256^i)(hy:y<256)(hi:i<8):zaS .or (.int .u64 (n:Int)) (.int .u64 ((y*256^i:Nat):Int))=some (.int .u64 ((n+y*256^i:Nat):Int)):=by
 have a:=zmx hi hy;have b:256^i<=256^7:=yed (by decide) (by omega);have c:(256:Nat)^8=18446744073709551616:=rfl;have d:(256:Nat)^7=72057594037927936:=rfl;have e:IntKind.u64.wrap (BitVec.ofInt 64 (n:Int)|||BitVec.ofInt 64 ((y*256^i:Nat):Int)).toNat=((n+y*256^i:Nat):Int):=by rw[ydy,ydy,z7y,BitVec.toNat_or,yec,yec,ybo (by omega),ybo (by omega),zn4 hn]
 show some (AV.int .u64 (IntKind.u64.wrap (BitVec.ofInt 64 (n:Int)|||BitVec.ofInt 64 ((y*256^i:Nat):Int)).toNat))=_;rw[e]
theorem zC7 {n y i:Nat}(hn:n<256^i)(hy:y<256)(hi:i<4):zaS .or (.int .u32 (n:Int)) (.int .u32 ((y*256^i:Nat):Int))=some (.int .u32 ((n+y*256^i:Nat):Int)):=by
 have a:=zmx hi hy;have b:256^i<=256^3:=yed (by decide) (by omega);have c:(256:Nat)^4=4294967296:=rfl;have d:(256:Nat)^3=16777216:=rfl;have e:IntKind.u32.wrap (BitVec.ofInt 32 (n:Int)|||BitVec.ofInt 32 ((y*256^i:Nat):Int)).toNat=((n+y*256^i:Nat):Int):=by rw[ydy,ydy,zAj,BitVec.toNat_or,yec,yec,ybo (by omega),ybo (by omega),zn4 hn]
 show some (AV.int .u32 (IntKind.u32.wrap (BitVec.ofInt 32 (n:Int)|||BitVec.ofInt 32 ((y*256^i:Nat):Int)).toNat))=_;rw[e]
theorem z2R {y:Nat}(hy:y<256):zaS .shl (.int .i64 (y:Int)) (.int .u64 8)=some (.int .i64 ((y*256^1:Nat):Int)):=by
 have h:IntKind.i64.wrap ((y:Int)*256)=((y*256^1:Nat):Int):=by rw[wI (by omega)];simp
 show some (AV.int .i64 (IntKind.i64.wrap ((y:Int)*256)))=_;rw[h]
theorem zAb {n y:Nat}(hn:n<256)(hy:y<256):zaS .or (.int .i64 (n:Int)) (.int .i64 ((y*256^1:Nat):Int))=some (.int .i64 ((n+y*256:Nat):Int)):=by
 have e:((BitVec.ofInt 64 (n:Int)|||BitVec.ofInt 64 ((y*256^1:Nat):Int)).toNat:Int)=((n+y*256:Nat):Int):=by rw[ydy,ydy,BitVec.toNat_or,yec,yec,ybo (by omega),ybo (by omega),zn4 (by omega)]
 show some (AV.int .i64 (IntKind.i64.wrap (BitVec.ofInt 64 (n:Int)|||BitVec.ofInt 64 ((y*256^1:Nat):Int)).toNat))=_;rw[e,wI (by omega)]
theorem z07 {b:Txt}{i:Nat}{y:UInt8}(h:b[i]? =some y):leN (b.take (i+1))=leN (b.take i)+y.toNat*256^i/\leN (b.take i)<256^i:=by
 have e:=(yaa.1 h).1;have a:(b.take i).length=i:=by simp;omega
 have d:=tS h;have c:=zCN (b.take i);rw[a]at c;refine⟨?_,c⟩;rw[d,zzY,a,ybw]
theorem zxI (hT:zhx G)(a:Txt)(ha:a≠ [])(hl:a.length<=100000000):PT 307 [.lst (byteEls (putB a))] (λr=>r=.tup [.lst (byteEls a),.int .i64 0]):=by
 refine pwP zyz ?_;have p:=zae a;have h:(byteEls (putB a)).length=a.length+4:=by rw[zae,z0E]
 have K:IntKind.i64.wrap (((a.length+4:Nat):Int)-4)=a.length:=wE (by omega);have L:¬(a.length:Int)<0:=by omega
 have k:(byteEls (putB a)).take a.length=byteEls a:=by unfold putB;rw[zcj,yci p]
 have b:=(za1 (putB a)).1;simp[zr2,h,K,L, -Int.natCast_add];obtain⟨c,g⟩:∃c,c=leB (crcU 0 a) 4:=⟨_,rfl⟩;have M:c.length=4:=by rw[g,zaC]
 refine zac (λx f σ=>∃i:Nat,x=4-i/\i<=4/\f 0=.lst (byteEls (putB a))/\f 4=.int .i64 a.length/\f 5=.int .u32 (leN (c.take i))/\f 12=.int .i64 i/\σ= []) 4 ?_ ?_;.exact⟨0,by simp,by simp,by simp,by simp,by simp[leN],by simp⟩
 rintro x f σ ⟨i,rfl,R,m,n,o,j,rfl⟩;simp[j];refine zap (λI=> ?_) (λJ=> ?_)
 .have d:i<4:=by omega
  have q:=wS i (by omega);have s:IntKind.i64.wrap (8*(i:Int))=8*(i:Int):=wI (by omega);have t:IntKind.i64.wrap ((a.length:Int)+i)=((a.length+i:Nat):Int):=wE (by omega);obtain⟨y,z⟩:=gL c i (by omega);have u:(putB a)[a.length+i]? =some y:=by unfold putB;rw[yam (by omega),<-g,show a.length+i-a.length=i by omega];exact z
  have A:=zdh u;obtain⟨D,E⟩:=yaa.1 A;have l:=y.toNat_lt;have v:IntKind.u32.wrap (y.toNat:Int)=y.toNat:=zz8 (by omega);obtain⟨F,H⟩:=z07 z;have O:=zB5 l d;have B:=zC7 H l d;rw[<-F]at B;simp[m,n,o,j,s,t,A,zbz,v,O,B,q, -Int.natCast_add, -Int.natCast_mul];exact nx_i ⟨i+1,rfl,by omega,by simp[m],by simp[n],by simp,by simp,rfl⟩
 .have w:i=4:=by omega
  subst w;have C:U32 (crcU 0 a):=zDP _ _;have P:(leN (c.take 4):Int)=crcU 0 a:=by have Q:=zuv (crcU 0 a) 4;rw[yal (by omega),g,Q];have:=C.1;have:=C.2;have e:((256^4:Nat):Int)=4294967296:=rfl;rw[e];omega
  rw[P]at o;simp[m,n,o,h];rw[if_pos b,k];simp;refine zad (zw1 hT a (by omega)) ?_;simp[m,n,h];rw[if_pos b,k];simp;refine zai (zxt a ha (by omega)) ?_;rintro r σ' ⟨rfl,rfl⟩;simp[zfq,zae]
theorem zoO (hT:zhx G)(p rest:Txt)(h1:1<=p.length)(h2:p.length<=512)(hr:rest.length<=100000000):PT 273 [.lst (byteEls (zay p++rest))] (λr=>r=.tup [.lst (byteEls p),.int .i64 (p.length+6:Nat),.int .i64 0]):=by
 refine pwP zjm ?_;obtain⟨B,c⟩:∃B,B=zay p++rest:=⟨_,rfl⟩;have i:B.length=p.length+6+rest.length:=by rw[c,yag,zbd]
 have j:(byteEls B).length=p.length+6+rest.length:=by rw[zae,i]
 rw[<-c];have F:B[0]? =some (lo8 p.length):=by rw[c];rfl
 have H:B[1]? =some (lo8 ((p.length:Int).fdiv 256)):=by rw[c];rfl
 have k:=zdh F;have h:=zdh H;obtain⟨S,C⟩:=yaa.1 k;obtain⟨T,x⟩:=yaa.1 h;have I:=zqu p.length;have y:=zqu ((p.length:Int).fdiv 256);rw[yd7 _ (by decide)]at y h x;have z:=(lo8 p.length).toNat_lt;have l:=(lo8 ((p.length:Int)/256)).toNat_lt;obtain⟨a,D⟩:∃a,a=(lo8 p.length).toNat:=⟨_,rfl⟩;obtain⟨b,E⟩:∃b,b=(lo8 ((p.length:Int)/256)).toNat:=⟨_,rfl⟩;rw[<-D]at I k C z;rw[<-E]at y h x l;have J:IntKind.i64.wrap (a:Int)=a:=wI (by omega);have K:IntKind.i64.wrap (b:Int)=b:=wI (by omega);have L:=z2R l;have A:=zAb z l;have m:a+b*256=p.length:=by omega
 rw[m]at A;have M:IntKind.i64.wrap ((p.length:Int)+6)=((p.length+6:Nat):Int):=wE (by omega);have O:¬((p.length+6+rest.length:Nat):Int)<2:=by omega
 have U:¬(p.length:Int)=0:=by omega
 have n:¬p.length=0:=by omega
 have P:¬(512:Int)<p.length:=by omega
 have Q:¬((p.length+6+rest.length:Nat):Int)<((p.length+6:Nat):Int):=by omega
 have d:=(za1 B).1;have o:(byteEls B).take (p.length+6)=byteEls (zay p):=by rw[c,zcj,yci (by rw[zae,zbd])]
 obtain⟨q,g⟩:∃q,q= [lo8 p.length,lo8 ((p.length:Int).fdiv 256)]++p:=⟨_,rfl⟩;have s:zay p=putB q:=by rw[g];rfl
 have e:q.length=p.length+2:=by rw[g];simp
 have R:=zxI (G:=G) hT q (by rw[g];simp) (by omega);have t:(byteEls q).drop 2=byteEls p:=by rw[g];rfl
 have u:=(za1 q).1;have f:=zae q;simp[zf3,j,k,h,J,K,L,A,M,O,n,P,Q,zbz, -Int.natCast_add, -Int.natCast_mul];rw[if_pos d,o,s];simp;refine zad R ?_;simp[f,e];have v:(byteEls q).take (p.length+2)=byteEls q:=yal (by rw[f,e];exact yaf _);have w:IntKind.i64.wrap ((p.length:Int)+6)=(p.length:Int)+6:=wI (by omega);rw[if_pos u,v,t];simp[w]
theorem zuO:PT 273 [.lst []] (λr=>r=.tup [.lst [],.int .i64 0,.int .i64 9]):=by refine pwP zjm ?_;simp[zf3]
attribute [-simp] zaS zc2 zbM zas
abbrev rdV (b:Txt):Entry:=.var 350 [.lst (byteEls b),.bool false]
theorem zwG {σ:zaa}{k:Nat}(a b:Txt)(hk:σ[k]? =some (rdV (a++b)))(hl:(a++b).length<=1000000000):AT 332 [.ptr k 0,.int .i64 a.length] σ (λr σ'=>r=.lst (byteEls a)/\σ'=σ.set k (rdV b)):=by
 refine pwA zj4 ?_;obtain⟨B,f⟩:∃B,B=a++b:=⟨_,rfl⟩;rw[<-f]at hk hl;have d:=zae B;have e:a.length<=B.length:=by rw[f];simp
 have h:¬(B.length:Int)<a.length:=by omega
 have i:¬B.length<a.length:=by omega
 have c:=(za1 B).1;have j:(byteEls B).take a.length=byteEls a:=by rw[f,zcj,yci (zae a)]
 have l:(byteEls B).drop a.length=byteEls b:=by rw[f,zcj,List.drop_left' (zae a)]
 have g:(byteEls B).take B.length=byteEls B:=yal (by omega);simp[zfO,hk,rdV,d,h,e];rw[if_pos c,j];simp[hk,d,e];rw[if_pos c,g,l];simp[hk,splice];exact zqw hk (.lst (byteEls a)) (by simp[zaK]) (by simp[AV.under]) (by simp[Entry.under,AV.under]) ⟨rfl,rfl⟩
theorem zbW {σ:zaa}{k:Nat}(x:Int)(w:Nat)(b:Txt)(v:Int)(hv:IntKind.i64.wrap (leN (leB x w):Int)=v)(hk:σ[k]? =some (rdV (leB x w++b)))(h8:w<=8)(hl:b.length<=900000000):AT 308 [.ptr k 0,.int .i64 w] σ (λr σ'=>r=.int .i64 v/\σ'=σ.set k (rdV b)):=by
 refine pwA ziG ?_;have a:=zaC x w;have l:=zwG (G:=G) (leB x w) b hk (by rw[yag,a];omega);rw[a]at l;obtain⟨c,A⟩:∃c,c=leB x w:=⟨_,rfl⟩;rw[<-A]at l a hv;have m:=zae c;simp[zef];refine zai l ?_;rintro r σ' ⟨rfl,rfl⟩;simp[m,a];refine zac (λx f σ'=>∃i:Nat,x=w-i/\i<=w/\f 5=.int .u64 (leN (c.take i))/\f 10=.lst (byteEls c)/\f 11=.int .i64 w/\f 12=.int .i64 i/\σ'=σ.set k (rdV b)) w ?_ ?_;.exact⟨0,by simp,by simp,by simp[leN],by simp,by simp,by simp,rfl⟩
 rintro x f σ' ⟨i,rfl,J,j,d,e,g,rfl⟩;simp[e,g];refine zap (λF=> ?_) (λH=> ?_)
 .have t:i<w:=by omega
  have n:=wS i (by omega);have o:IntKind.i64.wrap (8*(i:Int))=8*(i:Int):=wI (by omega);obtain⟨y,s⟩:=gL c i (by omega);have u:=zdh s;obtain⟨B,C⟩:=yaa.1 u;have h:=y.toNat_lt;have p:IntKind.u64.wrap (y.toNat:Int)=y.toNat:=ziC (by omega);obtain⟨D,E⟩:=z07 s;have I:=zBu h (show i<8 by omega);have z:=zDF E h (by omega);rw[<-D]at z;simp[j,d,g,u,zbz,p,o,I,z,n, -Int.natCast_add, -Int.natCast_mul];exact nx_i ⟨i+1,rfl,by omega,by simp,by simp[d],by simp[e],by simp,rfl⟩
 .have q:i=w:=by omega
  subst q;rw[yal (by omega)]at j;simp[j,hv];exact zqw hk (.int .i64 v) (by simp[zaK]) (by simp[AV.under]) (by simp[Entry.under,AV.under,rdV]) ⟨rfl,rfl⟩
theorem zdR {t k:Nat}(h:t<256^k)(h2:t<=1099511627776):IntKind.i64.wrap (leN (leB (t:Int) k):Int)=t:=by rw[zAW h];exact wI (by omega)
theorem zyl (n:Int):leB n 1= [lo8 n]:=rfl
theorem z5x (t now:Nat)(v:Int)(ht:t<=1099511627776)(hn:now<=1099511627776)(hv:v≠ -9223372036854775808)(hv2:i64 v):PT 274 [.lst (byteEls (zdB t now v))] (λr=>r=.tup [.agg (zbV (.lst []) t now v),.int .i64 0]):=by
 refine pwP zht ?_;have e:zdB t now v=leB (2:Nat) 1++(leB t 8++(leB now 8++(leB v 8++ []))):=by simp[zdB,zyl]
 have kR:=zt7 (G:=G) .nils (.inl rfl) t now v ht hn hv;simp only[zbV]at kR;rw[e];simp[zfy];refine zai (zbW (k:=1) (2:Nat) 1 (leB t 8++(leB now 8++(leB v 8++ []))) (2:Nat) (zdR (by decide) (by decide)) (by simp[rdV]) (by decide) (by simp[zaC])) ?_;rintro r σ' ⟨rfl,rfl⟩;simp[splice,rdV];refine zai (zbW (k:=1) t 8 (leB now 8++(leB v 8++ [])) t (zdR (by omega) ht) (by simp[rdV]) (by decide) (by simp[zaC])) ?_;rintro r σ' ⟨rfl,rfl⟩;simp[splice,rdV];refine zai (zbW (k:=1) now 8 (leB v 8++ []) now (zdR (by omega) hn) (by simp[rdV]) (by decide) (by simp[zaC])) ?_;rintro r σ' ⟨rfl,rfl⟩;simp[splice,rdV];refine zai (zbW (k:=1) v 8 [] v (z43 hv2) (by simp[rdV]) (by decide) (by simp)) ?_;rintro r σ' ⟨rfl,rfl⟩;simp[splice,rdV,byteEls];refine zad kR ?_;simp[splice,zbV]
theorem z6a (i t:Nat)(v:Int)(hi:i<4)(ht:t<=1099511627776)(hv:v≠ -9223372036854775808)(hv2:i64 v):PT 274 [.lst (byteEls (zh5 i t v))] (λr=>r=.tup [.agg (zed (.lst []) i t v),.int .i64 0]):=by
 refine pwP zht ?_;have e:zh5 i t v=leB (3:Nat) 1++(leB i 1++(leB t 8++(leB v 8++ []))):=by simp[zh5,zyl]
 have kR:=ztP (G:=G) .nils (.inl rfl) i t v hi ht hv;simp only[zed]at kR;rw[e];simp[zfy];refine zai (zbW (k:=1) (3:Nat) 1 (leB i 1++(leB t 8++(leB v 8++ []))) (3:Nat) (zdR (by decide) (by decide)) (by simp[rdV]) (by decide) (by simp[zaC])) ?_;rintro r σ' ⟨rfl,rfl⟩;simp[splice,rdV];refine zai (zbW (k:=1) i 1 (leB t 8++(leB v 8++ [])) i (zdR (by omega) (by omega)) (by simp[rdV]) (by decide) (by simp[zaC])) ?_;rintro r σ' ⟨rfl,rfl⟩;simp[splice,rdV];refine zai (zbW (k:=1) t 8 (leB v 8++ []) t (zdR (by omega) ht) (by simp[rdV]) (by decide) (by simp[zaC])) ?_;rintro r σ' ⟨rfl,rfl⟩;simp[splice,rdV];refine zai (zbW (k:=1) v 8 [] v (z43 hv2) (by simp[rdV]) (by decide) (by simp)) ?_;rintro r σ' ⟨rfl,rfl⟩;simp[splice,rdV,byteEls];refine zad kR ?_;simp[splice,zed]
abbrev hdV (p:Txt)(m f:Int)(X:AV):Entry:=.var 74 [.int .i64 1,.str p,.int .i64 m,.int .i64 f,X,.int .i64 0,.int .i64 0,.int .i64 0,.int .i64 0]
theorem z5z (R0:Entry)(P:Txt)(hl:P.length<=100):AT 309 [.ptr 1 0,.ptr 2 0] [R0,rdV (leB P.length 2++(P++(leB (1:Nat) 1++(leB (500000:Nat) 4++(leB (2:Nat) 1++(leB (10:Nat) 4++(leB (6:Nat) 2++(leB (60:Nat) 4++(leB (5:Nat) 2++ []))))))))),hdV [] 0 0 .nils]
  (λr σ'=>r=.tup []/\σ'= [R0,rdV [],hdV P 1 500000 (.row 3 2),.row 119 2 rungsC true]):=by
 refine pwA zjk ?_;simp[zfH];refine zai (zbW (k:=1) P.length 2 (P++(leB (1:Nat) 1++(leB (500000:Nat) 4++(leB (2:Nat) 1++(leB (10:Nat) 4++(leB (6:Nat) 2++(leB (60:Nat) 4++(leB (5:Nat) 2++ [])))))))) P.length (zdR (by omega) (by omega)) (by simp) (by decide) (by simp[zaC];omega)) ?_;rintro r σ' ⟨rfl,rfl⟩;simp;refine zai (zwG (k:=1) P (leB (1:Nat) 1++(leB (500000:Nat) 4++(leB (2:Nat) 1++(leB (10:Nat) 4++(leB (6:Nat) 2++(leB (60:Nat) 4++(leB (5:Nat) 2++ []))))))) (by simp) (by simp[zaC];omega)) ?_;rintro r σ' ⟨rfl,rfl⟩;simp[zjT,splice,hdV];refine zai (zbW (k:=1) (1:Nat) 1 (leB (500000:Nat) 4++(leB (2:Nat) 1++(leB (10:Nat) 4++(leB (6:Nat) 2++(leB (60:Nat) 4++(leB (5:Nat) 2++ [])))))) (1:Nat) (zdR (by decide) (by decide)) (by simp) (by decide) (by simp[zaC])) ?_;rintro r σ' ⟨rfl,rfl⟩;simp[splice];refine zai (zbW (k:=1) (500000:Nat) 4 (leB (2:Nat) 1++(leB (10:Nat) 4++(leB (6:Nat) 2++(leB (60:Nat) 4++(leB (5:Nat) 2++ []))))) (500000:Nat) (zdR (by decide) (by decide)) (by simp) (by decide) (by simp[zaC])) ?_;rintro r σ' ⟨rfl,rfl⟩;simp[splice];refine zai (zbW (k:=1) (2:Nat) 1 (leB (10:Nat) 4++(leB (6:Nat) 2++(leB (60:Nat) 4++(leB (5:Nat) 2++ [])))) (2:Nat) (zdR (by decide) (by decide)) (by simp) (by decide) (by simp[zaC])) ?_;rintro r σ' ⟨rfl,rfl⟩;simp;refine zac (λx f σ=>∃(i:Nat) (b:Txt) (X:AV) (g:zaa),x=2-i/\((i=0/\b=leB (10:Nat) 4++(leB (6:Nat) 2++(leB (60:Nat) 4++(leB (5:Nat) 2++ [])))/\X=.nils/\g= [])∨(i=1/\b=leB (60:Nat) 4++(leB (5:Nat) 2++ [])/\X=.row 3 1/\g= [.row 119 2 (rungsC.take 1) true])∨(i=2/\b= []/\X=.row 3 2/\g= [.row 119 2 rungsC true]))/\f 0=.ptr 1 0/\f 1=.ptr 2 0/\f 4=.int .i64 (2-i:Int)/\σ=R0::rdV b::hdV P 1 500000 X::g) 2 ?_ ?_;.exact⟨0,_,_,_,by simp,.inl ⟨rfl,rfl,rfl,rfl⟩,by simp,by simp,by simp,by simp[hdV]⟩
 rintro x f σ ⟨i,b,X,g,rfl,j,d,c,h,rfl⟩;have l:IntKind.i64.wrap (2-1)=1:=by decide
 have m:IntKind.i64.wrap (1-1)=0:=by decide
 rcases j with ⟨rfl,rfl,rfl,rfl⟩|⟨rfl,rfl,rfl,rfl⟩|⟨rfl,rfl,rfl,rfl⟩
 .simp[d,h,rdV,hdV];refine zai (zbW (k:=1) (10:Nat) 4 (leB (6:Nat) 2++(leB (60:Nat) 4++(leB (5:Nat) 2++ []))) (10:Nat) (zdR (by decide) (by decide)) (by simp[rdV]) (by decide) (by simp[zaC])) ?_;rintro r σ' ⟨rfl,rfl⟩;simp;refine⟨?_, ?_⟩
  all_goals
   simp[d,c];refine zai (zbW (k:=1) (6:Nat) 2 (leB (60:Nat) 4++(leB (5:Nat) 2++ [])) (6:Nat) (zdR (by decide) (by decide)) (by simp[rdV]) (by decide) (by simp[zaC])) ?_;rintro r σ' ⟨rfl,rfl⟩;simp[c,splice];refine zf6 true [[.int .i64 10,.int .i64 6]] rfl (by decide) (by simp) (λ_=> .inl rfl) (by simp) (by simp) ?_;simp[c,h,splice];exact nx_j 1 ⟨1,_,_,_,rfl,.inr (.inl ⟨rfl,rfl,rfl,rfl⟩),by simp[d],by simp[c],by simp[wk1],by simp[rungsC]⟩
 .simp[d,h,rdV,hdV];refine zai (zbW (k:=1) (60:Nat) 4 (leB (5:Nat) 2++ []) (60:Nat) (zdR (by decide) (by decide)) (by simp[rdV]) (by decide) (by simp[zaC])) ?_;rintro r σ' ⟨rfl,rfl⟩;simp;refine⟨?_, ?_⟩
  all_goals
   simp[d,c];refine zai (zbW (k:=1) (5:Nat) 2 [] (5:Nat) (zdR (by decide) (by decide)) (by simp[rdV]) (by decide) (by simp)) ?_;rintro r σ' ⟨rfl,rfl⟩;simp[c,splice];refine zbJ (rungsC.take 1) [[.int .i64 60,.int .i64 5]] true (by simp) rfl (by decide) (by simp) (λ_=> .inl rfl) (by simp[rungsC]) (by simp) (by simp) ?_;simp[c,h,splice,rungsC];exact nx_j 0 ⟨2,_,_,_,rfl,.inr (.inr ⟨rfl,rfl,rfl,rfl⟩),by simp[d],by simp[c],by simp[wk0],by simp⟩
 .simp[h];refine er_k [R0,rdV [],hdV P 1 500000 (.row 3 2),.row 119 2 rungsC true] (.tup []) (λi e a=> ?_) ⟨rfl,rfl⟩
  match i,a with
  |0,a=>exact .inl a
  |1,a=>simp at a;subst a;exact .inr (by simp[Entry.under,AV.under])
  |2,a=>simp at a;subst a;exact .inr (by simp[Entry.under,AV.under])
  |3,a=>simp at a;subst a;exact .inr (zaD (by simp[rungsC,AV.pure]))
  |i+4,a=>simp at a
theorem z3P (P:Txt)(h0:P≠ [])(hl:P.length<=100):PT 274 [.lst (byteEls (zbU P))] (λr=>r=.tup [.agg (zbS P),.int .i64 0]):=by
 refine pwP zht ?_;have e:zbU P=leB (1:Nat) 1++(leB P.length 2++(P++(leB (1:Nat) 1++(leB (500000:Nat) 4++(leB (2:Nat) 1++(leB (10:Nat) 4++(leB (6:Nat) 2++(leB (60:Nat) 4++(leB (5:Nat) 2++ []))))))))):=by simp[zbU,zyl]
 have kR:=zsO (G:=G) P h0 hl;simp only[zbS]at kR;rw[e];simp[zfy];refine zai (zbW (k:=1) (1:Nat) 1 (leB P.length 2++(P++(leB (1:Nat) 1++(leB (500000:Nat) 4++(leB (2:Nat) 1++(leB (10:Nat) 4++(leB (6:Nat) 2++(leB (60:Nat) 4++(leB (5:Nat) 2++ []))))))))) (1:Nat) (zdR (by decide) (by decide)) (by simp[rdV]) (by decide) (by simp[zaC];omega)) ?_;rintro r σ' ⟨rfl,rfl⟩;simp[splice,rdV];refine zai (z5z (G:=G) _ P hl) ?_;rintro r σ' ⟨rfl,rfl⟩;simp[rdV,hdV,byteEls];refine zD5 kR (.cons (.agg _ _ rfl (by simp[AV.one]) (λj h b=> ?_)) .nil) ?_
 .have a:j<9:=h
  match j,a with
  |0,_=>exact .pure _ (by simp[AV.pure])
  |1,_=>exact .pure _ (by simp[AV.pure])
  |2,_=>exact .pure _ (by simp[AV.pure])
  |3,_=>exact .pure _ (by simp[AV.pure])
  |4,_=>exact .row 3 _ 119 2 rungsC true rfl rfl (.inl rfl)
  |5,_=>exact .pure _ (by simp[AV.pure])
  |6,_=>exact .pure _ (by simp[AV.pure])
  |7,_=>exact .pure _ (by simp[AV.pure])
  |8,_=>exact .pure _ (by simp[AV.pure])
 rintro r rfl;simp[splice,zbS,Abs.fin,Abs.finT,Abs.fin1,fz,rungsC]
theorem z3j (r:RecM)(h:OkR r):PT 274 [.lst (byteEls (payB r))] (λx=>x=.tup [.agg (recC r),.int .i64 0]):=by
 cases r with
 |pt t a v=>exact z5x t a v h.1 h.2.1 h.2.2.1 h.2.2.2
 |sl i t v=>exact z6a i t v h.1 h.2.1 h.2.2.1 h.2.2.2
def zne:List AV:= [.int .i64 0,.str [],.int .i64 0,.int .i64 0,.lst [],.int .i64 0,.int .i64 0,.int .i64 0,.int .i64 0]
theorem z6T (hT:zhx G)(P rest:Txt)(h0:P≠ [])(hl:P.length<=100)(hr:rest.length<=100000000):PT 230 [.lst (byteEls (zay (zbU P)++rest))] (λr=>r=.tup [.agg (zbS P),.int .i64 (P.length+27:Nat),.bool true]):=by refine pwP zfz ?_;have a:=zoO (G:=G) hT (zbU P) rest (by rw[zcI];omega) (by rw[zcI];omega) hr;rw[zcI]at a;have b:=z3P (G:=G) P h0 hl;simp[zd8];refine zad a ?_;simp;refine zad b ?_;simp[splice,zbS];omega
theorem z9v (hT:zhx G)(r:RecM)(h:OkR r)(rest:Txt)(hr:rest.length<=100000000):PT 230 [.lst (byteEls (zay (payB r)++rest))] (λx=>x=.tup [.agg (recC r),.int .i64 ((payB r).length+6:Nat),.bool true]):=by refine pwP zfz ?_;have a:=zoO (G:=G) hT (payB r) rest (ztY r).1 (ztY r).2 hr;have b:=z3j (G:=G) r h;simp[zd8];refine zc1 a ?_;rintro x rfl;simp;refine zc1 b ?_;rintro x rfl;cases r<;>simp[splice,recC,zbV,zed]
theorem z8w:PT 230 [.lst []] (λx=>x=.tup [.agg zne,.int .i64 0,.bool false]):=by refine pwP zfz ?_;simp[zd8];refine zc1 zuO ?_;rintro x rfl;simp[splice,zne]
attribute [-simp] zaS zc2 zbM zas
theorem zsp (p t:Txt)(h1:1<=p.length)(h2:p.length<=512)(ht:t<+:zay p)(hl:t.length<p.length+6):PT 273 [.lst (byteEls t)] (λr=>r=.tup [.lst [],.int .i64 0,.int .i64 9]):=by
 refine pwP zjm ?_;have c:(byteEls t).length=t.length:=zae t;obtain⟨u,q⟩:=ht;by_cases L:t.length<2
 .have e:(t.length:Int)<2:=by omega
  simp[zf3,c,e]
 have l:∀i,i<2->t[i]? =(zay p)[i]? :=λi J=>by rw[<-q,yap (by omega)]
 have x:t[0]? =some (lo8 p.length):=by rw[l 0 (by omega)];rfl
 have y:t[1]? =some (lo8 ((p.length:Int).fdiv 256)):=by rw[l 1 (by omega)];rfl
 have f:=zdh x;have d:=zdh y;obtain⟨H,s⟩:=yaa.1 f;obtain⟨I,k⟩:=yaa.1 d;have z:=zqu p.length;have m:=zqu ((p.length:Int).fdiv 256);rw[yd7 _ (by decide)]at m d k;have n:=(lo8 p.length).toNat_lt;have g:=(lo8 ((p.length:Int)/256)).toNat_lt;obtain⟨a,v⟩:∃a,a=(lo8 p.length).toNat:=⟨_,rfl⟩;obtain⟨b,w⟩:∃b,b=(lo8 ((p.length:Int)/256)).toNat:=⟨_,rfl⟩;rw[<-v]at z f s n;rw[<-w]at m d k g;have A:IntKind.i64.wrap (a:Int)=a:=wI (by omega);have B:IntKind.i64.wrap (b:Int)=b:=wI (by omega);have C:=z2R g;have o:=zAb n g;have h:a+b*256=p.length:=by omega
 rw[h]at o;have D:IntKind.i64.wrap ((p.length:Int)+6)=((p.length+6:Nat):Int):=wE (by omega);have E:¬(t.length:Int)<2:=by omega
 have K:¬(p.length:Int)=0:=by omega
 have j:¬p.length=0:=by omega
 have F:¬(512:Int)<p.length:=by omega
 have G:(t.length:Int)<((p.length+6:Nat):Int):=by omega
 simp[zf3,c,f,d,A,B,C,o,D,E,j,F,G,zbz, -Int.natCast_add, -Int.natCast_mul]
theorem z0r (p t:Txt)(h1:1<=p.length)(h2:p.length<=512)(ht:t<+:zay p)(hl:t.length<p.length+6):PT 230 [.lst (byteEls t)] (λx=>x=.tup [.agg zne,.int .i64 0,.bool false]):=by refine pwP zfz ?_;simp[zd8];refine zc1 (zsp p t h1 h2 ht hl) ?_;rintro x rfl;simp[splice,zne]
def Torn (t:Txt):Prop:=t= []∨∃r,OkR r/\t<+:zay (payB r)/\t.length<(payB r).length+6
theorem z3f {t:Txt}(h:Torn t):PT 230 [.lst (byteEls t)] (λx=>x=.tup [.agg zne,.int .i64 0,.bool false]):=by
 rcases h with rfl|⟨r,_,a,b⟩;.exact z8w
 .exact z0r _ t (ztY r).1 (ztY r).2 a b
theorem z2O (P t:Txt)(hl:P.length<=100)(ht:t<+:zay (zbU P))(hl2:t.length<(zbU P).length+6):PT 181 [.lst (byteEls t)] (λr=>r=.tup [.agg zne,.lst [],.int .i64 0,.int .i64 7]):=by refine pwP zlb ?_;have a:=z0r (G:=G) (zbU P) t (by rw[zcI];omega) (by rw[zcI];omega) ht hl2;simp only[zne]at a;simp[zhs];refine zad a ?_;simp[splice,zne]
theorem z1J (hT:zhx G)(P:Txt)(h0:P≠ [])(hl:P.length<=100)(l:List RecM)(hr:∀r∈l,OkR r)(t:Txt)(ht:Torn t)(hb:(zbQ P l++t).length<=1000000):PT 181 [.lst (byteEls (zbQ P l++t))] (λr=>r=.tup [.agg (zbS P),.lst (l.map recC),.int .i64 ((zbQ P l).length:Nat),.int .i64 0]):=by
 refine pwP zlb ?_;have k:(zay (zbU P)).length=P.length+27:=by rw[zbd,zcI]
 have b:(zbQ P l).length=P.length+27+(zbG l).length:=by rw[zbQ,yag,k]
 have o:(zbQ P l++t).length=P.length+27+(zbG l).length+t.length:=by rw[yag,b]
 have O:=z6T (G:=G) hT P (zbG l++t) h0 hl (by rw[yag];omega);have Z:zay (zbU P)++(zbG l++t)=zbQ P l++t:=by rw[zbQ,yax]
 rw[Z]at O;obtain⟨B,Y⟩:∃B,B=zbQ P l++t:=⟨_,rfl⟩;have Q:(byteEls B).length=B.length:=zae B;rw[<-Y]at O hb o⊢;rw[b];simp[zhs];refine zad O ?_;simp[splice,zbS];have p:∀i,zbG l=zbG (l.take i)++zbG (l.drop i):=λi=>by simp only[zbG];rw[<-yek,ya2]
 have u:∀i,P.length+27+(zbG (l.take i)).length<=B.length:=λi=>by rw[o,p i,yag];omega
 have w:∀i,B.drop (P.length+27+(zbG (l.take i)).length)=zbG (l.drop i)++t:=λi=>by
  have e:B=(zay (zbU P)++zbG (l.take i))++(zbG (l.drop i)++t):=by rw[Y,zbQ,p i];simp only[yax]
  have e2:(zay (zbU P)++zbG (l.take i)).length=P.length+27+(zbG (l.take i)).length:=by rw[yag,k]
  rw[e,<-e2,List.drop_left]
 have R:∀n,(byteEls B).drop n=byteEls (B.drop n):=λn=>by unfold byteEls;rw[List.map_drop]
 refine zac (λx f σ=>∃(i:Nat) (H:zaa),x=l.length-i/\i<=l.length/\f 0=.lst (byteEls B)/\f 2=.ptr 0 0/\f 4=.int .i64 (P.length+27+(zbG (l.take i)).length:Nat)/\AccT 74 9 1 H (f 3) ((l.take i).map recC)/\σ=.var 74 (zbS P)::H) l.length ?_ ?_;.exact⟨0,[],by simp,by simp,by simp,by simp,by simp[zbG],by simp;exact zku,by simp[zbS]⟩
 rintro x f σ ⟨i,H,rfl,hi,J,K,g,h,rfl⟩;obtain⟨s,F⟩:∃s,s=P.length+27+(zbG (l.take i)).length:=⟨_,rfl⟩;have y:=u i;have z:=w i;rw[<-F]at g y z;have oX:=h.pos;simp[J,g,Q,y];rw[if_pos (za1 B).1,yal (by omega),R,z];simp;by_cases E:i<l.length
 .obtain⟨r,I⟩:=gE E;have S:=hr r (yad I);have A:=tS I;have T:l.drop i=r::l.drop (i+1):=by rw[ybd E,(yaa.1 I).2]
  have U:zbG (l.drop i)++t=zay (payB r)++(zbG (l.drop (i+1))++t):=by rw[T,<-yax];rfl
  have aa:=u (i+1);have W:P.length+27+(zbG (l.take (i+1))).length=s+((payB r).length+6):=by rw[A,z1H,yag,zbd,F];omega
  have ab:(zbG (l.drop (i+1))++t).length<=B.length:=by rw[<-w (i+1),ya3];omega
  have kN:=z9v (G:=G) hT r S (zbG (l.drop (i+1))++t) (by omega);have C:IntKind.i64.wrap ((s:Int)+(((payB r).length:Int)+6))=((P.length+27+(zbG (l.take (i+1))).length:Nat):Int):=by rw[W,wI (by omega)];omega
  rw[U];refine zc1 kN ?_;rintro x rfl;have D:(l.take (i+1)).map recC=(l.take i).map recC++ [recC r]:=by rw[A];simp
  have ad:((l.take i).map recC).length<=1000000:=by simp only[ybn,yan];have:=zrG l;have:=Nat.min_le_right i l.length;omega
  cases r with
  |pt q ae v=>
   simp[recC,zbV,splice];refine z62 (σ:= []) (bytes:=96) (h.more [_]) _ (by decide) rfl (by omega) (by omega) λL τ' c M=> ?_;have d:AccT 74 9 1 τ' L ((l.take (i+1)).map recC):=by rw[D];exact c
   simp[g,C];exact nx_i ⟨i+1,τ',rfl,by omega,by simp[J],by simp[K],by simp,by simpa using d,by simp⟩
  |sl j q v=>
   simp[recC,zed,splice];refine z62 (σ:= []) (bytes:=96) (h.more [_]) _ (by decide) rfl (by omega) (by omega) λL τ' c M=> ?_;have d:AccT 74 9 1 τ' L ((l.take (i+1)).map recC):=by rw[D];exact c
   simp[g,C];exact nx_i ⟨i+1,τ',rfl,by omega,by simp[J],by simp[K],by simp,by simpa using d,by simp⟩
 .have X:i=l.length:=by omega
  subst X;rw[ydx];refine zfR (z3f ht) (by simp[AV.pure,zbG]) ?_;rintro x rfl;rw[yav]at h F;have h1:∀(a e:Entry) (m:Nat),Abs.finT (a::(H++ [e])) m (f 3)=some (.lst (l.map recC)):=λa e m=>AccT.finT (σ:= [a]) (h.more [e]) m;simp[K,g,splice,zbS,zne,h1,F]
end Go.Proofs.YtdbhocoeolhjhaaGreatDoor
