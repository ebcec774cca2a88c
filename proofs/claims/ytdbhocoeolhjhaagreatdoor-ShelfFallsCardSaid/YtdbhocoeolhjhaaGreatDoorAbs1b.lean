import Derived.Test.YtdbhocoeolhjhaaGreatDoorAbs1
import Derived.MapKept
import Derived.Laws.BytesString
import Derived.Lib.ConvBytes
import Derived.Lib.AtoiErrMem
import Derived.Scope
import Derived.Deep.LoopGhost
import Derived.Defers
set_option linter.unusedSimpArgs false
set_option linter.unusedVariables false
set_option linter.constructorNameAsVariable false
namespace Go.Abs
open Go.RowKit
variable {G:Globs}
section
variable {P:Program}{base:Nat}{κ:Key}{Im:Addr->Prop}{w:World}{σ:zaa}
theorem zxS (n size:Nat):List.range (n*size+size)=List.range size++(List.range (n*size)).map (· +size):=by rw[ye6,List.range_add];congr 1;apply yd3;intro a _;omega
theorem zih (z:Array Value)(hz:0<z.size):∀n,(madeCells z (n*z.size)).toList=(List.replicate n z.toList).flatten
 |0=>by simp[madeCells]
 |n+1=>by
  have c:=zih z hz n;simp only[madeCells,ydf,Array.toList_range]at c⊢;rw[ya8,ye4,zxS,ycn,yd0,ydq,ybk];congr 1
  .apply List.ext_getElem;.simp
   .intro i b d;simp at b;simp[ybo b,b]
  .rw[<-c];apply yd3;intro a _;simp
theorem VRL.replicate {l:List AV}{vs:List Value}(h:VRL κ Im w l vs):∀n,VRL κ Im w (List.replicate n l).flatten (List.replicate n vs).flatten
 |0=>by simpa using VRL.nil
 |n+1=>by rw[ydq,ydq,ybk,ybk];exact h.append (VRL.replicate h n)
theorem zyn {o:Oper}{t e:TypeId}{l c:Operand}{l' c':Opd}{i:TypeInfo}{z:List AV}{f:Frame}{a:Act}{K:AV->zaa->Prop}(ho:o.op=.makeSlice t l c)(ht:P.underlying t=some (.slice e))(hi:P.info? e=some i)(hz:zga P e=some z)
  (hzl:z.length=i.size) (hpos:0<i.size) (hl:opd l=some l') (hc:opd c=some c') (hs:SRel base κ Im σ w) (hf:FRel κ Im w f a) (h:zat P K f σ (.mkslice e i.size i.bytes z l' c')):zfr P base κ Im w o a K:=by
 simp only[zat]at h;obtain⟨n,b,I,v,y,X,J,_,_,L⟩:=h;obtain⟨M,A⟩:=zdo (zav (κ:=κ) (Im:=Im) (w:=w) hl hf) I;obtain⟨O,B⟩:=zdo (zav (κ:=κ) (Im:=Im) (w:=w) hc hf) v;obtain⟨Y,d,r,C,Q⟩:=zfB hz;rw[hi]at r;cases r;obtain⟨s,D,_⟩:=zci (Im:=Im) (w:=w) Q;have g:d.cells.size=i.size:=by rw[<-hzl,s.1];simp
 have F:(i.bytes:Int)*(b:Int)<=281474976710656:=by
  have W:((b*i.bytes:Nat):Int)<=140737488355328:=by omega
  rw[ydt,Int.mul_comm]at W;omega
 have H:=run_make (P:=P) w t e i d ht hi C M O n b (by omega) (by omega) F (by omega);simp only[ydr]at H;have j:(madeCells d.cells (b*i.size)).size=b*i.size:=size_madeCells _ _;have p:(madeCells d.cells (b*i.size)).toList=(List.replicate b d.cells.toList).flatten:=by have:=zih d.cells (by omega) b;rwa[g]at this
 have q:(madeCells d.cells (b*i.size)).toList.take (n*i.size)=(List.replicate n d.cells.toList).flatten:=by
  rw[p];have:b=n+(b-n):=by omega
  rw[this,<-List.replicate_append_replicate,ybx,ya7 (by simp[g])];exact yal (by simp[g])
 have u:(w.alloc (.cells (madeCells d.cells (b*i.size)) e)).ownsRow w.heap.size e i.size (.slice (some ⟨w.heap.size,0,none⟩) n b) n (List.replicate n d.cells.toList).flatten:=⟨by simp[g],.inr ⟨w.heap.size,b,_,rfl,yaf _,heap_alloc_new w _,y,by simp only[maxLen];omega,j,q⟩⟩;obtain⟨κ',E,R,S,T⟩:=zo0 (e:=e) (size:=i.size) (n:=n) (m:=List.replicate n z) (im:=false) hs (by simp) hpos (λc hc=>by rw[(ycd.1 hc).2,hzl]) (λc hc x G=>by rw[(ycd.1 hc).2]at G;exact D x G) u (λk U=>Below.heap_alloc w _ k U) (by simp) rfl rfl rfl ((VRL.ofIR s).replicate n) (λh=>by simp at h);exact⟨_,_,κ',E,_,_,.inl (by simp only[execOp,ho,A,B,ya0,H,yas,ya6]),L,R,S,T⟩
theorem VR.empty {a:AV}{v:Value}(h:VR (λ_ _=>none) Im w a v):IR Im w a v:=by
 induction h with
 |im a v h=>exact h
 |ptr id j b h=>simp at h
 |row id n g l h=>simp at h
 |rowp id n i k j b l h=>simp at h
 |map id b h=>simp at h
 |sub id n i A B b l x c h=>simp at h
 |asl id j n i b x c h=>simp at h
 |fn f first e m y o z u C r s=>exact .fn f first e m y o z r s
 |iface t a v h p=>exact .iface t a v p
 |agg d m q o u p=>exact .agg d m q o p
 |tup d m o u p=>exact .tup d m o p
theorem zm9 {X r:AV}{x:Value}(hs:SRel base κ Im σ w)(hx:VR κ Im w X x)(h:zfJ σ X=some r):IR Im w r x/\(X.one=true->r.one=true):=by
 unfold zfJ at h;split at h
 .rename_i id n;obtain⟨g,b,rfl,c⟩:=hx.row_inv;split at h
  case h_2=>cases h
  rename_i e a d f;split at h
  case isFalse=>cases h
  rename_i i;simp only[yab]at h;subst h;subst i;exact⟨znV hs f c,λ_=>rfl⟩
 .simp only[yab]at h;subst h;cases hx.nils_inv;exact⟨.lnil _,λ_=>rfl⟩
 .split at h
  case isFalse=>cases h
  rename_i j;simp only[yab]at h;subst h;exact⟨hx.pure j,id⟩
theorem zqO (hs:SRel base κ Im σ w){l m:List AV}{vs:List Value}(hl:VRL κ Im w l vs)(h:z0i σ l=some m):IRL Im w m vs/\((∀c∈l,c.one=true)->∀c∈m,c.one=true):=by
 obtain⟨g,f⟩:=mapM_some h;refine⟨⟨by rw[<-g,hl.1],λj b d=>(zm9 hs (hl.2 j (by omega) d) (f j (by omega) b)).1⟩,λi c k=> ?_⟩;obtain⟨j,b,rfl⟩:=yaz.1 k;have a:j<l.length:=by omega
 have e:j<vs.length:=by rw[<-hl.1];exact a
 exact(zm9 hs (hl.2 j a e) (f j a b)).2 (i _ (yaw a))
theorem z7Q {X r:AV}{x:Value}(hs:SRel base κ Im σ w)(hx:VR κ Im w X x)(h:share σ X=some r):IR Im w r x/\((∀c∈X.cells,c.one=true)->∀c∈r.cells,c.one=true):=by
 unfold share at h;split at h;.rename_i l;simp only[yae]at h;obtain⟨m,g,rfl⟩:=h;obtain⟨t,rfl,e,a⟩:=hx.agg_inv;obtain⟨b,d⟩:=zqO hs e g;exact⟨.agg _ _ (d a) b.1 b.2,λ_=>d a⟩
 .rename_i l;simp only[yae]at h;obtain⟨m,g,rfl⟩:=h;obtain⟨t,rfl,e⟩:=hx.tup_inv;obtain⟨b,d⟩:=mapM_some g;refine⟨.tup _ _ (by rw[<-b,e.1]) (λj y f=> ?_),λo=> ?_⟩
  .have:=d j (by omega) y;split at this;.rename_i E z;simp only[yae]at this;obtain⟨C,i,k⟩:=this;have s:=e.2 j (by omega) f;rw[z]at s;obtain⟨D,u,n,a⟩:=s.agg_inv;obtain⟨q,v⟩:=zqO hs n i;rw[<-k,u];exact .agg _ _ (v a) q.1 q.2
   .exact(zm9 hs (e.2 j (by omega) f) this).1
  .exact absurd (o _ (ybr.2 rfl)) (by simp[AV.one])
 .obtain⟨b,d⟩:=zm9 hs hx h;refine⟨b,λo=> ?_⟩;rename_i p A;have B:X.cells= [X]:=by cases X<;>first|rfl|exact absurd rfl (p _)
  have a:=d (o X (by rw[B];simp));have k:r.cells= [r]:=by cases r<;>first|rfl|simp[AV.one]at a
  rw[k];simpa using a
theorem z5u {o:Oper}{t e:TypeId}{n size:Nat}{parts:Array (Nat×Operand)}{z:List AV}{ps:List (Nat×Opd)}{f:Frame}{a:Act}{K:AV->zaa->Prop}(ho:o.op=.buildSlice t n parts)(ht:P.underlying t=some (.slice e))(hsz:sizeOf? P e=some size)
  (hz:zga P e=some z) (hle:n*size<=16777216) (hzl:z.length=size) (hpos:0<size) (hps:parts.toList.mapM (znf n)=some ps) (hs:SRel base κ Im σ w) (hf:FRel κ Im w f a) (h:zat P K f σ (.mklst e size z n ps)):zfr P base κ Im w o a K:=by
 simp only[zat]at h;obtain⟨S,aa,hK⟩:=h;obtain⟨i,B,hi,ab,hm⟩:=zfB hz;obtain⟨T,ae,_⟩:=zci (Im:=Im) (w:=w) hm;have ah:B.cells.size=size:=by rw[<-hzl,T.1];simp
 obtain⟨Z,h2⟩:=mapM_some hps;obtain⟨h3,h4⟩:=mapM_some aa;have I:(madeCells B.cells (n*size)).toList=(List.replicate n B.cells.toList).flatten:=by have:=zih B.cells (by omega) n;rwa[ah]at this
 have E:VRL (λ_ _=>none) Im w (List.replicate n z).flatten (madeCells B.cells (n*size)).toList:=by rw[I];exact(VRL.ofIR T).replicate n
 have J:(List.replicate n z).flatten.length=n*size:=by simp[hzl]
 have M:=zyK (κ:=λ_ _=>none) (Im:=Im) (w:=w) (λi=>some (i*size,size)) (parts.toList.map λp=>(p.1,a.eval p.2)) S (List.replicate n z).flatten (madeCells B.cells (n*size)) E (by simp[Z,h3]) (λj C af=>by
  have ai:j<parts.toList.length:=by simpa using C
  have X:j<ps.length:=by omega
  have F:=h2 j ai X;have d:=h4 j X af;simp only[yc6];unfold znf at F;split at F
  case h_2=>cases F
  rename_i x hx;split at F
  case isFalse=>cases F
  rename_i D;simp only[yab]at F;rw[<-F]at d;simp only[yac]at d;obtain⟨v,hv,d⟩:=d;split at d
  case isFalse=>cases d
  rename_i g;simp only[yab]at d;rw[<-d];have s:=zav (κ:=κ) (Im:=Im) (w:=w) hx hf;obtain⟨g1,g2⟩:=z7Q hs s hv;have u:(parts.toList[j].1+1)*size<=n*size:=yat _ D;rw[ya8]at u;refine⟨size,rfl,g.1.symm, ?_,by rw[J];omega⟩;exact(VR.im (κ:=λ_ _=>none) _ _ g1).oneCells (by simpa using g.2))
 obtain⟨b,r,s,U⟩:=M;have O:∀c∈lay (List.replicate n z).flatten S,c.one=true:=zua S _ (λc H=>by obtain⟨l,hl,g⟩:=ybq.1 H;rw[(ycd.1 hl).2]at g;exact ae c g) (λp hp c H=>by
  obtain⟨j,C,rfl⟩:=yaz.1 hp;have d:=h4 j (by omega) C;simp only[yac]at d;obtain⟨v,hv,d⟩:=d;split at d
  case isFalse=>cases d
  rename_i g;simp only[yab]at d;rw[<-d]at H;have:=g.2;simp only[ya1]at this;exact this c H)
 have y:(lay (List.replicate n z).flatten S).length=n*size:=by rw[s.1];simp[U,size_madeCells]
 obtain⟨c1,c2,c3⟩:=zjR n size _ y;generalize hL:lay (List.replicate n z).flatten S=L at*;have Y:(execOp a.eval o).run P w=.ok (.value (.slice (some ⟨w.heap.size,0,none⟩) n n)) (w.alloc (.cells b e)):=by
  have m:(parts.map λ(i,x)=>(i,a.eval x)).toList=parts.toList.map λp=>(p.1,a.eval p.2):=by simp
  have hn:¬(n*size>2^24):=by omega
  by_cases h0:n*size=0;.have Q:madeCells B.cells (n*size)=(Array.range (n*size)).map ((#[]:Array Value)[· %(#[]:Array Value).size]!):=(by simp[h0,madeCells,Array.range_zero']);rw[Q]at r;simp only[execOp,ho,Instr.buildSlice,ya0,run_underlying ht,yas,run_sizeOf? hsz,Sem.run_ite,hn,if_false,h0,if_true,ya6,m];rw[h0]at r;simp only[r,newRow,ya0,run_newObj,yas,ya6];rfl
  .have Q:madeCells B.cells (n*size)=(Array.range (n*size)).map (B.cells[· %B.cells.size]!):=rfl;rw[Q]at r;simp only[execOp,ho,Instr.buildSlice,ya0,run_underlying ht,yas,run_sizeOf? hsz,Sem.run_ite,hn,if_false,h0,zeroValue,typeInfo,run_program,hi,ab,ya6,m,r,newRow,run_newObj];rfl
 have G:∀j,j<n*size->(w.alloc (.cells b e)).cell? ⟨w.heap.size,j,none⟩=some (b.getD j undef):=by
  intro j C;rw[cell_of_row _ _ j b e (0,0) (heap_alloc_new w _)];have:j<b.size:=by rw[U,size_madeCells];exact C
  simp[this]
 let R:Addr->Prop:=λq=>Im q∨(q.block=w.heap.size/\q.spot=none/\q.off<n*size);have H:∀q,Im q->(w.alloc (.cells b e)).cell? q=w.cell? q:=λq ha=>ya5 (Below.heap_alloc w _ _ (hs.imlt q ha).1);have aj:IR R (w.alloc (.cells b e)) (.lst (zaY n size L)) (.slice (some ⟨w.heap.size,0,none⟩) n n):=by have:=IR.lst (Im:=R) (w:=w.alloc (.cells b e)) (zaY n size L) size w.heap.size 0 n (λk j=>b.getD (k*size+j) undef) (by omega) (by simp only[maxLen];have:=Nat.le_mul_of_pos_right n hpos;omega) c2 (λc ag x hx=>O x (by rw[<-c3];exact ybq.2 ⟨c,ag,hx⟩)) (λk j W C=>by have u:(k+1)*size<=n*size:=yat _ (by omega);rw[ya8]at u;rw[ybl];exact⟨.inr ⟨rfl,rfl,by show k*size+j<n*size;omega⟩,G _ (by omega)⟩) (λk j W C=>by have ak:j<size:=(by rw[c2 _ (yaw W)]at C;exact C);obtain⟨_,_,g3,g4⟩:=zgt (zaY n size L) k j c2 W ak;have D:k*size+j<L.length:=(by rw[c3]at g3;exact g3);have A:k*size+j<b.toList.length:=(by rw[<-s.1];exact D);have F:(zaY n size L)[k][j]=L[k*size+j]:=(by rw[<-g4];simp only[c3]);have d:b.getD (k*size+j) undef=b.toList[k*size+j]:=(by simp at A;simp[A]);rw[F,d];exact(s.2 _ D A).empty.mono (λ_ h=> .inl h) H);rwa[c1]at this
 refine⟨_,_,κ,R,_,σ,.inl Y,hK,.im _ _ aj, ?_,⟨λ_ _ _ h=>h,λ_ h=> .inl h,H,λq h=> ?_,(Below.refl _ _).alloc hs.hb _⟩⟩
 .refine hs.world (λ_ h=> .inl h) (λq h=> ?_) (by simp) (λk W=>Below.heap_alloc w _ k W);rcases h with h|⟨Z,h2,_⟩
  .exact .inl h
  .exact .inr ⟨by omega,by simp;omega,h2⟩
 .rcases h with h|⟨Z,_⟩;.exact .inl h
  .exact .inr (by rw[Z];exact hs.hb)
theorem z30 {o:Oper}{t e:TypeId}{n size:Nat}{parts:Array (Nat×Operand)}{z:List AV}{ps:List (Nat×Opd)}{f:Frame}{a:Act}{K:AV->zaa->Prop}(ho:o.op=.buildSlice t n parts)(ht:P.underlying t=some (.slice e))(hsz:sizeOf? P e=some size)
  (hz:zga P e=some z) (hle:n*size<=16777216) (hzl:z.length=size) (hpos:0<size) (hps:parts.toList.mapM (znf n)=some ps) (hs:SRel base κ Im σ w) (hf:FRel κ Im w f a) (h:zat P K f σ (.mkrow e size z n ps)):zfr P base κ Im w o a K:=by
 simp only[zat]at h;obtain⟨H,U,_,hK⟩:=h;obtain⟨i,s,hi,W,hm⟩:=zfB hz;obtain⟨I,X,_⟩:=zci (Im:=Im) (w:=w) hm;have ae:s.cells.size=size:=by rw[<-hzl,I.1];simp
 obtain⟨h1,h2⟩:=mapM_some hps;obtain⟨h3,h4⟩:=mapM_some U;have B:(madeCells s.cells (n*size)).toList=(List.replicate n s.cells.toList).flatten:=by have:=zih s.cells (by omega) n;rwa[ae]at this
 have A:VRL κ Im w (List.replicate n z).flatten (madeCells s.cells (n*size)).toList:=by rw[B];exact(VRL.ofIR I).replicate n
 have C:(List.replicate n z).flatten.length=n*size:=by simp[hzl]
 have D:=zyK (κ:=κ) (Im:=Im) (w:=w) (λi=>some (i*size,size)) (parts.toList.map λp=>(p.1,a.eval p.2)) H (List.replicate n z).flatten (madeCells s.cells (n*size)) A (by simp[h1,h3]) (λj Y aa=>by
  have af:j<parts.toList.length:=by simpa using Y
  have M:j<ps.length:=by omega
  have E:=h2 j af M;have u:=h4 j M aa;simp only[yc6];unfold znf at E;split at E
  case h_2=>cases E
  rename_i x hx;split at E
  case isFalse=>cases E
  rename_i ad;simp only[yab]at E;rw[<-E]at u;split at u
  case isFalse=>cases u
  rename_i b;simp only[yab]at u;rw[<-u];have y:=zav (κ:=κ) (Im:=Im) (w:=w) hx hf;have O:(parts.toList[j].1+1)*size<=n*size:=yat _ ad;rw[ya8]at O;refine⟨size,rfl,b.1.symm, ?_,by rw[C];omega⟩;exact y.oneCells (by simpa using b.2))
 obtain⟨v,g,y,J⟩:=D;have F:∀c∈lay (List.replicate n z).flatten H,c.one=true:=zua H _ (λc S=>by obtain⟨l,hl,b⟩:=ybq.1 S;rw[(ycd.1 hl).2]at b;exact X c b) (λp hp c S=>by
  obtain⟨j,Y,rfl⟩:=yaz.1 hp;have u:=h4 j (by omega) Y;split at u
  case isFalse=>cases u
  rename_i b;simp only[yab]at u;rw[<-u]at S;have:=b.2;simp only[ya1]at this;exact this c S)
 have q:(lay (List.replicate n z).flatten H).length=n*size:=by rw[y.1];simp[J,size_madeCells]
 obtain⟨c1,c2,c3⟩:=zjR n size _ q;generalize hL:lay (List.replicate n z).flatten H=L at*;have Q:(execOp a.eval o).run P w=.ok (.value (.slice (some ⟨w.heap.size,0,none⟩) n n)) (w.alloc (.cells v e)):=by
  have d:(parts.map λ(i,x)=>(i,a.eval x)).toList=parts.toList.map λp=>(p.1,a.eval p.2):=by simp
  have hn:¬(n*size>2^24):=by omega
  by_cases T:n*size=0;.have G:madeCells s.cells (n*size)=(Array.range (n*size)).map ((#[]:Array Value)[· %(#[]:Array Value).size]!):=(by simp[T,madeCells,Array.range_zero']);rw[G]at g;simp only[execOp,ho,Instr.buildSlice,ya0,run_underlying ht,yas,run_sizeOf? hsz,Sem.run_ite,hn,if_false,T,if_true,ya6,d];rw[T]at g;simp only[g,newRow,ya0,run_newObj,yas,ya6];rfl
  .have G:madeCells s.cells (n*size)=(Array.range (n*size)).map (s.cells[· %s.cells.size]!):=rfl;rw[G]at g;simp only[execOp,ho,Instr.buildSlice,ya0,run_underlying ht,yas,run_sizeOf? hsz,Sem.run_ite,hn,if_false,T,zeroValue,typeInfo,run_program,hi,W,ya6,d,g,newRow,run_newObj];rfl
 have R:(w.alloc (.cells v e)).ownsRow w.heap.size e size (.slice (some ⟨w.heap.size,0,none⟩) n n) n v.toList:=by
  have r:v.size=n*size:=by rw[J,size_madeCells]
  refine⟨by simpa using r,.inr ⟨w.heap.size,n,_,rfl,yaf _,heap_alloc_new w _,yaf _, ?_,r,yal (by simp[r])⟩⟩;simp only[maxLen];have:=Nat.le_mul_of_pos_right n hpos;omega
 obtain⟨κ',Z,q1,q2,q3⟩:=zo0 (e:=e) (size:=size) (n:=n) (m:=zaY n size L) (im:=false) hs c1.symm hpos c2 (λc ab x hx=>F x (by rw[<-c3];exact ybq.2 ⟨c,ab,hx⟩)) R (λk hk=>Below.heap_alloc w _ k hk) (by simp) rfl rfl rfl (by rw[c3];exact y) (λh=>by simp at h);exact⟨_,_,κ',Z,_,_,.inl Q,hK,q1,q2,q3⟩
end
section
variable {P:Program}{base:Nat}{κ:Key}{Im:Addr->Prop}{w:World}{σ:zaa}
theorem zcB {t:TypeId}{x y:Value}{b:Bool}(h:∀d,(Op.equalIn (d+1) t x y).run P w=.ok b w):(Op.equal t x y).run P w=.ok b w:=h 9999
theorem zEq {ms:Array (String×TypeId)}{t:TypeId}{x:Operand}{X:AV}{v:Value}{b:Bool}(hu:P.underlying t=some (.interface ms))(hv:VR κ Im w X v)(hb:zix 0 X=some b):
  (∀op,(eqGuard op t x (.const (.nilIface)) v (.nilIface)).run P w=.ok () w)/\(binOp .eql t v (.nilIface)).run P w=.ok (.bool b) w/\(binOp .neq t v (.nilIface)).run P w=.ok (.bool !b) w:=by
 unfold zix at hb;split at hb<;>first|(cases hb;done)|skip
 all_goals try (exfalso;omega)
 .simp only[yab]at hb;subst hb;obtain rfl:v=.nilIface:=by cases hv with|im _ _ hv=>cases hv;rfl
  have a:=zcB (P:=P) (w:=w) (t:=t) (x:=.nilIface) (y:=.nilIface) (b:=true) (λd=>by simp[Op.equalIn,run_underlying hu]);exact⟨λop=>by unfold eqGuard;cases op<;>simp,by simp[binOp,a],by simp[binOp,a]⟩
 .simp only[yab]at hb;subst hb;obtain⟨u,c,rfl⟩:∃u c,v=.iface u c:=by
   cases hv with
   |im _ _ hv=>cases hv;exact⟨_,_,rfl⟩
   |iface=>exact⟨_,_,rfl⟩
  have a:=zcB (P:=P) (w:=w) (t:=t) (x:=.iface u c) (y:=.nilIface) (b:=false) (λd=>by simp[Op.equalIn,run_underlying hu]);exact⟨λop=>by unfold eqGuard;cases op<;>simp,by simp[binOp,a],by simp[binOp,a]⟩
theorem zDU {ps rs:Array TypeId}{vd:Bool}{t:TypeId}{x:Operand}{X:AV}{v:Value}{b:Bool}(hu:P.underlying t=some (.func ps rs vd))(hv:VR κ Im w X v)(hb:zix 1 X=some b):
  (∀op,(eqGuard op t x (.const (.nilFunc)) v (.nilFunc)).run P w=.ok () w)/\(binOp .eql t v (.nilFunc)).run P w=.ok (.bool b) w/\(binOp .neq t v (.nilFunc)).run P w=.ok (.bool !b) w:=by
 unfold zix at hb;split at hb<;>first|(cases hb;done)|skip
 all_goals try (exfalso;omega)
 .simp only[yab]at hb;subst hb;obtain rfl:v=.nilFunc:=by cases hv with|im _ _ hv=>cases hv;rfl
  have a:=zcB (P:=P) (w:=w) (t:=t) (x:=.nilFunc) (y:=.nilFunc) (b:=true) (λd=>by simp[Op.equalIn,run_underlying hu]);exact⟨λop=>by unfold eqGuard;cases op<;>simp,by simp[binOp,a],by simp[binOp,a]⟩
 .simp only[yab]at hb;subst hb;obtain⟨c,e,f,rfl⟩:∃c e f,v=.func c e f:=by obtain⟨g,h,rfl,_⟩:=hv.fn_inv;exact⟨_,_,_,rfl⟩
  have a:=zcB (P:=P) (w:=w) (t:=t) (x:=.func c e f) (y:=.nilFunc) (b:=false) (λd=>by simp[Op.equalIn,run_underlying hu]);exact⟨λop=>by unfold eqGuard;cases op<;>simp,by simp[binOp,a],by simp[binOp,a]⟩
theorem zEo {e:TypeId}{t:TypeId}{x:Operand}{X:AV}{v:Value}{b:Bool}(hu:P.underlying t=some (.pointer e))(hv:VR κ Im w X v)(hb:zix 2 X=some b):
  (∀op,(eqGuard op t x (.const (.pointer none)) v (.pointer none)).run P w=.ok () w)/\(binOp .eql t v (.pointer none)).run P w=.ok (.bool b) w/\(binOp .neq t v (.pointer none)).run P w=.ok (.bool !b) w:=by
 unfold zix at hb;split at hb<;>first|(cases hb;done)|skip
 all_goals try (exfalso;omega)
 .simp only[yab]at hb;subst hb;obtain rfl:v=.pointer none:=by cases hv with|im _ _ hv=>cases hv;rfl
  have c:=zcB (P:=P) (w:=w) (t:=t) (x:=.pointer none) (y:=.pointer none) (b:=true) (λd=>by simp[Op.equalIn,run_underlying hu]);exact⟨λop=>by unfold eqGuard;cases op<;>simp,by simp[binOp,c],by simp[binOp,c]⟩
 .simp only[yab]at hb;subst hb;obtain⟨a,rfl⟩:∃a,v=.pointer (some a):=by obtain⟨b,rfl,_⟩:=hv.ptr_inv;exact⟨_,rfl⟩
  have c:=zcB (P:=P) (w:=w) (t:=t) (x:=.pointer (some a)) (y:=.pointer none) (b:=false) (λd=>by simp[Op.equalIn,run_underlying hu]);exact⟨λop=>by unfold eqGuard;cases op<;>simp,by simp[binOp,c],by simp[binOp,c]⟩
 .simp only[yab]at hb;subst hb;obtain⟨a,rfl⟩:∃a,v=.pointer (some a):=by obtain⟨b,o,f,rfl,_⟩:=hv.rptr_inv;exact⟨_,rfl⟩
  have c:=zcB (P:=P) (w:=w) (t:=t) (x:=.pointer (some a)) (y:=.pointer none) (b:=false) (λd=>by simp[Op.equalIn,run_underlying hu]);exact⟨λop=>by unfold eqGuard;cases op<;>simp,by simp[binOp,c],by simp[binOp,c]⟩
 .simp only[yab]at hb;subst hb;obtain⟨a,rfl⟩:∃a,v=.pointer (some a):=by obtain⟨b,g,rfl,_⟩:=hv.rowp_inv;exact⟨_,rfl⟩
  have c:=zcB (P:=P) (w:=w) (t:=t) (x:=.pointer (some a)) (y:=.pointer none) (b:=false) (λd=>by simp[Op.equalIn,run_underlying hu]);exact⟨λop=>by unfold eqGuard;cases op<;>simp,by simp[binOp,c],by simp[binOp,c]⟩
 .simp only[yab]at hb;subst hb;obtain⟨a,rfl⟩:∃a,v=.pointer (some a):=by have:=hv.gp_inv;subst this;exact⟨_,rfl⟩
  have c:=zcB (P:=P) (w:=w) (t:=t) (x:=.pointer (some a)) (y:=.pointer none) (b:=false) (λd=>by simp[Op.equalIn,run_underlying hu]);exact⟨λop=>by unfold eqGuard;cases op<;>simp,by simp[binOp,c],by simp[binOp,c]⟩
theorem zE4 {e:TypeId}{t:TypeId}{x:Operand}{X:AV}{v:Value}{b:Bool}(hu:P.underlying t=some (.slice e))(hv:VR κ Im w X v)(hb:zix 3 X=some b):
  (∀op,(eqGuard op t x (.const (.slice none 0 0)) v (.slice none 0 0)).run P w=.ok () w)/\(binOp .eql t v (.slice none 0 0)).run P w=.ok (.bool b) w/\(binOp .neq t v (.slice none 0 0)).run P w=.ok (.bool !b) w:=by
 unfold zix at hb;split at hb<;>first|(cases hb;done)|skip
 all_goals try (exfalso;omega)
 .simp only[yab]at hb;subst hb;cases hv.nils_inv;have a:=zcB (P:=P) (w:=w) (t:=t) (x:=.slice none 0 0) (y:=.slice none 0 0) (b:=true) (λd=>by simp[Op.equalIn,run_underlying hu]);exact⟨λop=>by unfold eqGuard;cases op<;>simp,by simp[binOp,a],by simp[binOp,a]⟩
 .simp only[yab]at hb;subst hb;obtain⟨c,f,g,rfl⟩:∃c f g,v=.slice (some c) f g:=by
   rcases hv.lst_inv with ⟨_,j⟩|⟨h,b,o,k,i,rfl,_⟩;.cases j
   .exact⟨_,_,_,rfl⟩
  have a:=zcB (P:=P) (w:=w) (t:=t) (x:=.slice (some c) f g) (y:=.slice none 0 0) (b:=false) (λd=>by simp[Op.equalIn,run_underlying hu]);exact⟨λop=>by unfold eqGuard;cases op<;>simp,by simp[binOp,a],by simp[binOp,a]⟩
theorem zEa {k e:TypeId}{t:TypeId}{x:Operand}{X:AV}{v:Value}{b:Bool}(hu:P.underlying t=some (.map k e))(hv:VR κ Im w X v)(hb:zix 4 X=some b):
  (∀op,(eqGuard op t x (.const (.map none)) v (.map none)).run P w=.ok () w)/\(binOp .eql t v (.map none)).run P w=.ok (.bool b) w/\(binOp .neq t v (.map none)).run P w=.ok (.bool !b) w:=by
 unfold zix at hb;split at hb<;>first|(cases hb;done)|skip
 all_goals try (exfalso;omega)
 .simp only[yab]at hb;subst hb;cases hv.nilm_inv;have a:=zcB (P:=P) (w:=w) (t:=t) (x:=.map none) (y:=.map none) (b:=true) (λd=>by simp[Op.equalIn,run_underlying hu]);exact⟨λop=>by unfold eqGuard;cases op<;>simp,by simp[binOp,a],by simp[binOp,a]⟩
 .simp only[yab]at hb;subst hb;obtain⟨b,rfl,_⟩:=hv.map_inv;have a:=zcB (P:=P) (w:=w) (t:=t) (x:=.map (some b)) (y:=.map none) (b:=false) (λd=>by simp[Op.equalIn,run_underlying hu]);exact⟨λop=>by unfold eqGuard;cases op<;>simp,by simp[binOp,a],by simp[binOp,a]⟩
theorem z8d {op:BinOp}{t:TypeId}{x y z:Operand}{k:Nat}{n b:Bool}{X:AV}{a:Act}(hn:zrz P op t x y=some (k,n,z))(hx:VR κ Im w X (a.eval z))(h:zix k X=some b):
  (do eqGuard op t x y (a.eval x) (a.eval y);binOp op t (a.eval x) (a.eval y):Sem Value).run P w=.ok (.bool (if n then !b else b)) w:=by
 unfold zrz at hn;have c:∀(d:Value),y=.const d->z=x->n=(op==.neq)->(op=.eql∨op=.neq)->((∀op,(eqGuard op t x (.const d) (a.eval z) d).run P w=.ok () w)/\(binOp .eql t (a.eval z) d).run P w=.ok (.bool b) w/\(binOp .neq t (a.eval z) d).run P w=.ok (.bool !b) w)->(do eqGuard op t x y (a.eval x) (a.eval y);binOp op t (a.eval x) (a.eval y):Sem Value).run P w=.ok (.bool (if n then !b else b)) w:=by
  rintro d rfl rfl rfl g ⟨i,j,l⟩;have e:a.eval (.const d)=d:=rfl;rw[e,ya0,i,yas];rcases g with rfl|rfl;.exact j
  .exact l
 split at hn
 case h_3=>cases hn
 all_goals
  split at hn
  case h_6=>cases hn
  all_goals
   rename_i f;simp only[yab,Prod.mk.injEq]at hn;obtain⟨rfl,rfl,rfl⟩:=hn
  .exact c _ rfl rfl rfl (by simp) (zEq f hx h)
  .exact c _ rfl rfl rfl (by simp) (zDU f hx h)
  .exact c _ rfl rfl rfl (by simp) (zEo f hx h)
  .exact c _ rfl rfl rfl (by simp) (zE4 f hx h)
  .exact c _ rfl rfl rfl (by simp) (zEa f hx h)
theorem z3t {op:BinOp}{t:TypeId}{x y z:Operand}{n b:Bool}{a:Act}(hn:zrz P op t x y=some (3,n,z))(hv:(a.eval z=.slice none 0 0/\b=true)∨((∃ad m c,a.eval z=.slice (some ad) m c)/\b=false)):
  (do eqGuard op t x y (a.eval x) (a.eval y);binOp op t (a.eval x) (a.eval y):Sem Value).run P w=.ok (.bool (if n then !b else b)) w:=by
 unfold zrz at hn;split at hn
 case h_3=>cases hn
 all_goals
  split at hn
  case h_6=>cases hn
  all_goals
   rename_i g;simp only[yab,Prod.mk.injEq]at hn;obtain⟨h,rfl,rfl⟩:=hn
   first|(exact absurd h (by decide))|skip
  .have e:a.eval (.const (.slice none 0 0))=.slice none 0 0:=rfl;rw[e,ya0];rcases hv with ⟨hv,rfl⟩|⟨⟨ad,m,c,hv⟩,rfl⟩
   .rw[hv];have f:=zcB (P:=P) (w:=w) (t:=t) (x:=.slice none 0 0) (y:=.slice none 0 0) (b:=true) (λd=>by simp[Op.equalIn,run_underlying g]);simp[eqGuard,binOp,f]
   .rw[hv];have f:=zcB (P:=P) (w:=w) (t:=t) (x:=.slice (some ad) m c) (y:=.slice none 0 0) (b:=false) (λd=>by simp[Op.equalIn,run_underlying g]);simp[eqGuard,binOp,f]
theorem zBS {X:AV}{v:Value}{K:AV->zaa->Prop}{neg:Bool}(h:match X with
  | .lst []=>∀b:Bool,K (.bool b) σ
  |v=>∃b,zix 3 v=some b/\K (.bool (if neg then !b else b)) σ) (hx:VR κ Im w X v):∃b:Bool,((v=.slice none 0 0/\b=true)∨((∃ad m c,v=.slice (some ad) m c)/\b=false))/\K (.bool (if neg then !b else b)) σ:=by
 split at h
 .rcases hx.lst_inv with ⟨⟨g,rfl⟩,_⟩|⟨d,b,o,f,e,rfl,_⟩
  .cases g with
   |none=>exact⟨true,.inl ⟨rfl,rfl⟩,h _⟩
   |some ad=>exact⟨false,.inr ⟨⟨ad,0,0,rfl⟩,rfl⟩,h _⟩
  .exact⟨false,.inr ⟨⟨_,_,_,rfl⟩,rfl⟩,h _⟩
 .obtain⟨b,a,i⟩:=h;refine⟨b, ?_,i⟩;unfold zix at a;split at a<;>first|(cases a;done)|skip
  all_goals try (exfalso;omega)
  .simp only[yab]at a;subst a;exact .inl ⟨hx.nils_inv,rfl⟩
  .simp only[yab]at a;subst a;rcases hx.lst_inv with ⟨_,j⟩|⟨d,b,o,f,e,rfl,_⟩
   .cases j
   .exact .inr ⟨⟨_,_,_,rfl⟩,rfl⟩
theorem z2x {op:BinOp}{X Y r:AV}{x y:Value}{t:TypeId}{xo yo:Operand}(hx:VR κ Im w X x)(hy:VR κ Im w Y y)(h:zaS op X Y=some r):
  ∃v,(do eqGuard op t xo yo x y;binOp op t x y:Sem Value).run P w=.ok v w/\VR κ Im w r v:=by
 unfold zaS at h;split at h
 case h_2=>cases h
 rename_i k a f b;cases hx.int_inv;cases hy.int_inv;have i:(eqGuard op t xo yo (.int k a) (.int f b)).run P w=.ok () w:=by unfold eqGuard;cases op<;>simp<;>rfl
 simp only[ya0,i,yas];split at h
 .rename_i d;split at h
  case isFalse=>cases h
  rename_i j;have e:¬b<0:=by omega
  simp only[yae]at h;obtain⟨z,c,rfl⟩:=h;rcases d with rfl|rfl
  .simp only[zas,yab]at c;subst c;exact⟨_,by simp[binOp,Op.shift,e],.im _ _ (.int _ _)⟩
  .simp only[zas,yab]at c;subst c;exact⟨_,by simp[binOp,Op.shift,e],.im _ _ (.int _ _)⟩
 .rename_i d;split at h
  case isFalse=>cases h
  rename_i g;subst g;simp only[yae]at h;obtain⟨z,c,rfl⟩:=h;cases op<;>simp only[zbM,yab,reduceCtorEq]at c
  all_goals (subst c;exact⟨_,by simp[binOp,Op.intBits],.im _ _ (.int _ _)⟩)
theorem z2g {X r:AV}{x:Value}(hx:VR κ Im w X x)(h:zc2 X=some r):∃v,(Op.unary .xor x).run P w=.ok v w/\VR κ Im w r v:=by
 unfold zc2 at h;split at h
 case h_2=>cases h
 rename_i k a;cases hx.int_inv;simp only[yae,zbM,yab]at h;obtain⟨z,rfl,rfl⟩:=h;exact⟨_,by simp[Op.unary,Op.intBits],.im _ _ (.int _ _)⟩
theorem z2v {X Y Z r:AV}{x y z:Value}(hx:VR κ Im w X x)(hy:VR κ Im w Y y)(hz:VR κ Im w Z z)(h:zuQ X Y Z=some r):∃v,(add64Entry #[x,y,z]).run P w=.ok v w/\VR κ Im w r v:=by
 unfold zuQ at h;split at h
 case h_2=>cases h
 split at h
 case isFalse=>cases h
 rename_i a;simp only[yab]at h;subst h;cases hx.int_inv;cases hy.int_inv;cases hz.int_inv;refine⟨_,run_add64 _ _ _ a.1 a.2.1 a.2.2.1 a.2.2.2 w,.im _ _ (.tup _ [_,_] rfl λj b c=> ?_)⟩
 match j,b with
 |0,_=>exact .int _ _
 |1,_=>exact .int _ _
theorem zwq {fn : Func} (h1 : fn.name = "math/bits.Add64") (h2 : fn.origin = "") : Extern.findNext fn = none ∧ Extern.find fn = some add64Entry := by obtain⟨n,o⟩:=fn;simp only at h1 h2;subst h1 h2;exact⟨rfl,rfl⟩
theorem zsZ {kind:Nat}{d:TypeDesc}{X Y:AV}{x y:Value}{b:Bool}{t:TypeId}(hk:zes P t=some kind)(hd:P.underlying t=some d)(hx:VR κ Im w X x)(hy:VR κ Im w Y y)(h:eq1 kind X Y=some b):Instr.sameNow d x y=some b/\(b=true->x=y):=by
 unfold zes at hk;rw[hd]at hk;unfold eq1 at h;split at h
 .rename_i k p c q;split at h
  case isFalse=>cases h
  rename_i a;subst a;simp only[yab]at h;subst h;cases hx.int_inv;cases hy.int_inv;have e:(p==q)=decide (p=q):=rfl;split at hk<;>simp_all[Instr.sameNow]
 .rename_i p q;simp only[yab]at h;subst h;cases hx.str_inv;cases hy.str_inv;have e:(ByteArray.mk p.toArray==ByteArray.mk q.toArray)=decide (p=q):=by rw[Bool.eq_iff_iff,MapKept.bytes_beq];simp
  split at hk<;>simp_all[Instr.sameNow]
 .rename_i p q;simp only[yab]at h;subst h;cases hx.bool_inv;cases hy.bool_inv;split at hk<;>simp_all[Instr.sameNow]
 .cases h
theorem zfk {kind:Nat}{t:TypeId}(hk:zes P t=some kind)(e:Bool)(n:Nat)(v:Value):(Instr.checkKey e (n+1) t v).run P w=.ok () w:=by unfold zes at hk;unfold Instr.checkKey;split at hk<;>rename_i a<;>first|(cases hk;done)|(simp only[ya0,run_underlying a,yas];cases v<;>rfl)
def MEnt (κ:Key)(Im:Addr->Prop)(w:World)(kv:List (AV×AV))(es:List MapEntry):Prop:=es.length=kv.length/\∀j (h:j<kv.length) (h':j<es.length),IR Im w (kv[j]).1 (es[j]).key/\VR κ Im w (kv[j]).2 (es[j]).val
theorem zkv {kind:Nat}{t:TypeId}{d:TypeDesc}{X:AV}{x:Value}(hk:zes P t=some kind)(hd:P.underlying t=some d)(hx:VR κ Im w X x):∀{kv:List (AV×AV)} {es:List MapEntry} {i:Nat} {r:Option (Nat×AV)},MEnt κ Im w kv es->zaQ kind X kv i=some r->(match r with
   |none=>Instr.findNow d x es i=some none
   |some (j,a)=>∃v,Instr.findNow d x es i=some (some (j,v))/\VR κ Im w a v/\i<=j/\j<i+es.length/\∃h:j-i<es.length,(es[j-i]).key=x)
 | [],es,i,r,hm,h=>by obtain rfl:es= []:=yaq (by simpa using hm.1);simp only[zaQ,yab]at h;subst h;rfl
 |(k',v')::kv,[],i,r,hm,h=>by simp[MEnt]at hm
 |(k',v')::kv,e::es,i,r,hm,h=>by
  have c:=hm.2 0 (by simp) (by simp);simp only[yb8]at c;have k:MEnt κ Im w kv es:=⟨by simpa using hm.1,λj q f=>hm.2 (j+1) (by simpa using q) (by simpa using f)⟩;simp only[zaQ]at h;split at h;.rename_i g;obtain⟨b,m⟩:=zsZ hk hd hx (.im _ _ c.1) g;simp only[yab]at h;subst h;exact⟨_,by simp[Instr.findNow,b],c.2,yaf _,by simp,by simp,by simpa using(m rfl).symm⟩
  .rename_i g;obtain⟨b,_⟩:=zsZ hk hd hx (.im _ _ c.1) g;have l:=zkv hk hd hx k h;split at l;.simp[Instr.findNow,b,l]
   .obtain⟨v,n,o,u,y,z,p⟩:=l;refine⟨v,by simp[Instr.findNow,b,n],o,by omega,by simp;omega,by simp;omega, ?_⟩;rename_i j a;have s:j-i=(j-(i+1))+1:=(by omega);simp only[s,ydo];exact p
  .cases h
theorem ztJ {X:AV}{x:Value}{kv:List (AV×AV)}(hs:SRel base κ Im σ w)(hx:VR κ Im w X x)(h:ziy σ X=some kv):
  (x=.map none/\kv= [])∨∃b es clock,x=.map (some b)/\w.heap[b]? =some (.map es clock)/\MEnt κ Im w kv es.toList:=by
 unfold ziy at h;split at h;.simp only[yab]at h;subst h;exact .inl ⟨hx.nilm_inv,rfl⟩
 .rename_i id;split at h
  case h_2=>cases h
  rename_i k l;simp only[yab]at h;subst h;obtain⟨b,rfl,f⟩:=hx.map_inv;obtain⟨m,es,clock,c,_,a,d,g,_,_⟩:=hs.ent _ _ l;rw[f]at c;cases c;exact .inr ⟨b,es,clock,rfl,a,by simpa using d,λj i e=>g j i (by simpa using e)⟩
 .cases h
theorem zuy {kind:Nat}{t kt e:TypeId}{i:TypeInfo}{zv:Value}{ZV X K r:AV}{x k:Value}{ok:Bool}{kv:List (AV×AV)}(ht:P.underlying t=some (.map kt e))(hk:zes P kt=some kind)(hi:P.info? e=some i)(hz:i.zero=some zv)(hZ:constAV zv=some ZV)
  (hs:SRel base κ Im σ w) (hx:VR κ Im w X x) (hkk:VR κ Im w K k) (hm:ziy σ X=some kv) (h:zqa kind ZV ok K kv=some r):∃v,(Instr.lookup t x k ok).run P w=.ok v w/\VR κ Im w r v:=by
 obtain⟨d,o⟩:∃d,P.underlying kt=some d:=by unfold zes at hk;split at hk<;>first|(cases hk;done)|exact⟨_,by assumption⟩
 have c:(zeroValue e).run P w=.ok zv w:=by simp[zeroValue,typeInfo,hi,hz]
 have z:VR κ Im w ZV zv:=.im _ _ (IR.constAV hZ);have f:∀(a:AV) (v:Value) (b:Bool),VR κ Im w a v->VR κ Im w (if ok then .tup [a,.bool b]else a) (if ok then .tuple #[v,.bool b]else v):=by
  intro a v b A;cases ok;.exact A
  .have B:VRL κ Im w [a,.bool b] [v,.bool b]:=VRL.cons A (VRL.cons (.im _ _ (.bool b)) VRL.nil);exact .tup _ _ B.1 B.2
 obtain⟨n,p,l⟩:∃n:List MapEntry,MEnt κ Im w kv n/\∀(r:Option (Nat×Value)) (v:Value),Instr.findNow d k n 0=some r->(match r with|some (_,u)=>v=(if ok then .tuple #[u,.bool true]else u)|none=>v=(if ok then .tuple #[zv,.bool false]else zv))->(Instr.lookup t x k ok).run P w=.ok v w:=by
  rcases ztJ hs hx hm with ⟨rfl,rfl⟩|⟨b,n,s,rfl,F,y⟩
  .refine⟨[],⟨rfl,λj h=>by simp at h⟩,λr v m g=> ?_⟩;simp only[Instr.lookup,ya0,run_underlying ht,yas,ya6,zfk hk,Instr.findKey,run_underlying o,m];rcases r with _|⟨j,u⟩
   .simp only at g;subst g;simp[c]
   .simp only at g;subst g;simp
  .refine⟨n.toList,y,λr v m g=> ?_⟩;simp only[Instr.lookup,ya0,run_underlying ht,yas,ya6,MapKept.run_getObj_map F,zfk hk,Instr.findKey,run_underlying o,m];rcases r with _|⟨j,u⟩
   .simp only at g;subst g;simp[c]
   .simp only at g;subst g;simp
 unfold zqa at h;simp only[yac]at h;obtain⟨q,C,h⟩:=h;have m:=zkv hk o hkk p C;rcases q with _|⟨j,a⟩
 .simp only[yab]at h;subst h;exact⟨_,l _ _ m rfl,f _ _ _ z⟩
 .simp only[yab]at h;subst h;obtain⟨v,D,E,_⟩:=m;exact⟨_,l _ _ D rfl,f _ _ _ E⟩
end
section
variable {P:Program}{base:Nat}{κ:Key}{Im:Addr->Prop}{w:World}{σ:zaa}
theorem ztg:∀{l:List (List AV)} {s:List UInt8} {vs:List Value},bytesOf l=some s->VRL κ Im w l.flatten vs->∃ns:List Int,vs=ns.map (Value.int .u8)/\∀r:ByteArray,ns.foldl (λr n=>r.push (UInt8.ofNat n.toNat)) r=⟨(r.data.toList++s).toArray⟩
 | [],s,vs,h,hv=>by simp only[bytesOf,yab]at h;subst h;obtain rfl:vs= []:=yaq (by simpa using hv.1.symm);exact⟨[],rfl,λr=>by cases r;simp⟩
 |c::l,s,vs,h,hv=>by
  unfold bytesOf at h;split at h;.rename_i a;cases a
  .rename_i n k a;simp only[yc5]at a;obtain⟨rfl,rfl⟩:=a;simp only[yae]at h;obtain⟨i,b,rfl⟩:=h
   match vs,hv with
   | [],hv=>simp[VRL]at hv
   |v::vs,hv=>have e:=hv.2 0 (by simp) (by simp);simp only[ybk,ybp,yco,yb8]at e;cases e.int_inv;obtain⟨ns,rfl,f⟩:=ztg b (vs:=vs) ⟨by simpa using hv.1,λj g d=>by have:=hv.2 (j+1) (by simpa using g) (by simpa using d);simpa using this⟩;refine⟨n::ns,rfl,λr=> ?_⟩;simp only[yev,f];cases r;simp
  .cases h
theorem znn (size:Nat):∀(n:Nat) (l:List AV),(zaY n size l).length=n
 |0,l=>rfl
 |n+1,l=>by simp[zaY,znn size n]
theorem ztf (size:Nat):∀(n:Nat) (l:List AV) (k:Nat) (h:k<(zaY n size l).length),(zaY n size l)[k]=(l.drop (k*size)).take size
 |0,l,k,h=>by simp[zaY]at h
 |n+1,l,0,h=>by simp[zaY]
 |n+1,l,k+1,h=>by simp only[zaY,ydo];rw[ztf size n (l.drop size) k (by simpa[zaY]using h),yeq,ya8,ye4,ye6]
theorem zzS {cells:List AV}{b o len size ll hh c:Nat}{vals:Nat->Value}(hpos:0<size)(hone:∀c∈cells,c.one=true)(hc:∀j,j<cells.length->Im ⟨b,o+j,none⟩/\w.cell? ⟨b,o+j,none⟩=some (vals j))(hv:∀j (h:j<cells.length),IR Im w (cells[j]) (vals j))
  (hle:len*size<=cells.length) (h1:ll<=hh) (h2:hh<=len) (hcap:hh-ll<=c) (hmax:c<=maxLen) (ad:Addr) (had:ll<hh->ad=⟨b,o+ll*size,none⟩) (hsp:ad.spot=none):
  IR Im w (.lst (((zaY len size (cells.take (len*size))).take hh).drop ll)) (.slice (some ad) (hh-ll) c):=by
 have p:(((zaY len size (cells.take (len*size))).take hh).drop ll).length=hh-ll:=by simp[znn];omega
 have f:(cells.take (len*size)).length=len*size:=by simp;omega
 obtain⟨t,i,l⟩:=zjR len size _ f;by_cases g:ll<hh
 .have q:=yat size h2;rw[had g,<-p];refine .lst _ size b (o+ll*size) c (λk j=>vals ((ll+k)*size+j)) (by omega) hmax (λc hc=>i c (yao (yay hc))) (λc hc x m=> ?_) (λk j d n=> ?_) (λk j d n=> ?_);.refine hone x (yao (?_:x∈cells.take (len*size)));rw[<-l];exact ybq.2 ⟨c,yao (yay hc),m⟩
  .have a:(ll+k+1)*size<=len*size:=yat _ (by omega);rw[ya8,ye4]at a;have:=hc ((ll+k)*size+j) (by omega);rw[ya8]at this;rw[show o+ll*size+(k*size+j)=o+(ll*size+k*size+j) by omega,ya8];exact this
  .have a:(ll+k+1)*size<=len*size:=yat _ (by omega);rw[ya8,ye4]at a;have r:j<size:=(by have:=i _ (yao (yay (yaw d)));omega);have:=hv ((ll+k)*size+j) (by omega);have e:(((zaY len size (cells.take (len*size))).take hh).drop ll)[k][j]=cells[(ll+k)*size+j]'(by omega):=(by simp only[yd2,yck,ztf]);rw[e];exact this
 .have s:((zaY len size (cells.take (len*size))).take hh).drop ll= []:=yaq (by omega);have had:ad=⟨ad.block,ad.off,none⟩:=by cases ad;simp only at hsp;subst hsp;rfl
  rw[s,had,show hh-ll=0 by omega];exact IR.lst (Im:=Im) (w:=w) [] 0 ad.block ad.off c (λ_ _=>undef) (by simp) hmax (by simp) (by simp) (λk j d=>by simp at d) (λk j d=>by simp at d)
theorem z8m {o:Oper}{ao:AOp}{f:Frame}{a:Act}{r:AV}(hc:zzt P o=some ao)(hs:SRel base κ Im σ w)(hf:FRel κ Im w f a)(h:zaw σ f ao=some r):zjX P κ Im w o a r:=by
 unfold zzt at hc;split at hc
 case h_1 op t x y yt G=>
  split at hc
  .rename_i k n z hn;simp only[yae]at hc;obtain⟨z',hz,hc⟩:=hc;split at hc;.subst hc;simp[zaw]at h
   subst hc;simp only[zaw,ziY,yae]at h;obtain⟨b,H,rfl⟩:=h;have:=z8d (a:=a) hn (zav hz hf) H;refine⟨_, ?_,.im _ _ (.bool _)⟩;simp only[execOp,G];rw[ya0];simp only[this,yas,ya6]
  .split at hc
   case h_2=>cases hc
   have a8:∀av K y',opd x=some K->opd y=some y'->zaw σ f (.px (.bit av K y'))=some r->av=op->zjX P κ Im w o a r:=(by intro av K y' F hy hp A;subst A;simp only[zaw,ziY]at hp;obtain⟨v,D,T⟩:=z2x (P:=P) (t:=t) (xo:=x) (yo:=y) (zav F hf) (zav hy hf) hp;refine⟨v, ?_,T⟩;simp only[execOp,G];rw[ya0];simp only[D,yas,ya6]);split at hc<;>first
    |(cases hc;done)
    |(simp only[yak,yac,yau,yab]at hc
      obtain⟨K,F,y',hy,rfl⟩:=hc;exact a8 _ K y' F hy h rfl)
 case h_2 t x G=>simp only[yae]at hc;obtain⟨K,F,rfl⟩:=hc;simp only[zaw,ziY]at h;obtain⟨v,D,T⟩:=z2g (P:=P) (zav F hf) h;exact⟨v,by simp[execOp,G,D],T⟩
 case h_3 s t x G=>
  split at hc
  .split at hc;.simp only[yae]at hc;obtain⟨K,F,rfl⟩:=hc;simp[zaw]at h
   .cases hc
  .rename_i e a6 a7;split at hc
   case h_2=>cases hc
   rename_i i A hi;split at hc
   case isFalse=>cases hc
   rename_i Z;simp only[yae]at hc;obtain⟨K,F,rfl⟩:=hc;simp only[zaw,ziY,yae,yac]at h;obtain⟨s',⟨l,hl,H⟩,rfl⟩:=h;have D:=zav (κ:=κ) (Im:=Im) (w:=w) F hf;have af:∀(l:List (List AV)) (s:List UInt8),bytesOf l=some s->∀c∈l,c.length=1:=by
    intro l
    induction l with
    |nil=>intro s _ c hc;simp at hc
    |cons c0 l ih=>
     intro s h c hc;unfold bytesOf at h;split at h;.rename_i X;cases X
     .rename_i X;simp only[yc5]at X;obtain⟨rfl,rfl⟩:=X;simp only[yae]at h;obtain⟨s1,h1,_⟩:=h;rcases ybe.1 hc with rfl|hc
      .rfl
      .exact ih _ h1 _ hc
     .cases h
   rcases ziu hs D hl (af _ _ H) (by omega)with ⟨L,rfl⟩|⟨J,c,b0,L,g1,g2,g3,_⟩;.simp only[bytesOf,yab]at H;subst H;refine⟨.string ⟨#[]⟩, ?_,.im _ _ (.str [])⟩;simp only[execOp,G,L,ya0,run_convert_bytes_string w s t e _ _ _ a6 A a7,Conv.bytesToString,ya6,yas];rfl
   .obtain⟨ns,rfl,Y⟩:=ztg H g3;have a9:=run_loadCells_list (P:=P) w J _ g2;rw[g1,Nat.mul_one]at a9;have u:=run_bytesToString (P:=P) w J l.length c ns (by rw[a9]);refine⟨_, ?_,.im _ _ (.str s')⟩;simp only[execOp,G,L,ya0,run_convert_bytes_string w s t e _ _ _ a6 A a7,u,ya6,yas,Y];rfl
  .cases hc
 case h_4 t x lo hi G=>
  split at hc
  case h_2=>cases hc
  rename_i n e hu;simp only[yak,yac,yau]at hc;obtain⟨sz,Z,hc⟩:=hc;split at hc
  case isFalse=>cases hc
  rename_i d;simp only[yac,yab]at hc;obtain⟨K,F,bf,bg,az,al,rfl⟩:=hc;have D:=zav (κ:=κ) (Im:=Im) (w:=w) F hf;have ba:=zhG (κ:=κ) (Im:=Im) (w:=w) hf bg;have bb:=zhG (κ:=κ) (Im:=Im) (w:=w) hf al;have u:∀(b E I q:Nat),a.eval x=.pointer (some ⟨b,E,none⟩)->ze3 (az.map (·.ev f)) n n=some q->ze3 (bf.map (·.ev f)) 0 q=some I->I<=q/\q<=n/\∃J,(execOp a.eval o).run P w=.ok (.value (.slice (some J) (q-I) (n-I))) w/\(I<q->J=⟨b,E+I*sz,none⟩)/\J.spot=none:=by intro b E I q A h1 Y;obtain⟨H,a0,a1⟩:=za5 (P:=P) (isSlice:=false) ba bb (yaf n) h1 Y;refine⟨a0,a1,if n=I then⟨b,E,none⟩else⟨b,E+I*sz,none⟩, ?_,λW=>by rw[if_neg (by omega)],by split<;>rfl⟩;simp only[execOp,G,A,ycz,Instr.sliceAt,ya0,run_underlying hu,yas,Instr.sureAddr,ya6,H,run_sizeOf? Z,VR.add]
  simp only[zaw,ziY,zu1]at h;split at h;.rename_i id E A;rw[A]at D;simp only[yac,yae]at h;obtain⟨q,aa,I,ab,rfl⟩:=h;obtain⟨b,H,hk⟩:=D.ptr_inv;obtain⟨q1,q2,J,q3,q4,q5⟩:=u b E I q H aa ab;exact⟨_,q3,.asl id (E+I*sz) (q-I) sz b J (n-I) hk (λh=>q4 (by omega)) (by omega) (by simp only[maxLen];omega) q5⟩
  .rename_i aw A;rw[A]at D;split at h
   case isFalse=>cases h
   rename_i C;simp only[yac,yae]at h;obtain⟨q,aa,I,ab,rfl⟩:=h;obtain⟨b,o',ae,H,h1,Y,h3⟩:=D.rptr_inv;obtain⟨q1,q2,J,q3,q4,q5⟩:=u b o' I q H aa ab;exact⟨_,q3,.im _ _ (zzS d.1 h1 Y h3 C q1 q2 (by omega) (by simp only[maxLen];omega) J q4 q5)⟩
  .rename_i g E A;rw[A]at D;split at h
   case h_2=>cases h
   rename_i aw hl;split at h
   case isFalse=>cases h
   rename_i C;simp only[yac,yae]at h;obtain⟨q,aa,I,ab,rfl⟩:=h;obtain⟨b,o',ae,H,h1,Y,h3⟩:=(VR.im (κ:=κ) _ _ (hs.glob _ (zo5 hl)).2.2).rptr_inv;simp only[Value.pointer.injEq,yab,Addr.mk.injEq,and_true]at H;obtain⟨rfl,rfl⟩:=H;obtain⟨q1,q2,J,q3,q4,q5⟩:=u g E I q D.gp_inv aa ab;obtain⟨b',b3,bh,a2,g1,g2,g3⟩:=(VR.im (κ:=κ) _ _ (zn8 h1 Y h3 E)).rptr_inv;simp only[Value.pointer.injEq,yab,Addr.mk.injEq,and_true,ybl]at a2;obtain⟨rfl,rfl⟩:=a2;exact⟨_,q3,.im _ _ (zzS d.1 g1 g2 g3 (by simp;omega) q1 q2 (by omega) (by simp only[maxLen];omega) J q4 q5)⟩
  .cases h
 case h_5=>simp only[yab]at hc;subst hc;simp[zaw]at h
 case h_6|h_7=>
  split at hc;.simp only[yak,yac,yau,yab]at hc;obtain⟨_,_,_,_,_,_,_,_,rfl⟩:=hc;simp[zaw]at h
  .cases hc
 case h_8 t x k ok G=>
  split at hc
  case h_2=>cases hc
  rename_i kt e ht;simp only[yak,yac,yau,yab]at hc;obtain⟨bw,hk,i,hi,zv,hz,ZV,hZ,K,F,k',bi,rfl⟩:=hc;simp only[zaw,ziY,yac]at h;obtain⟨kv,am,h⟩:=h;obtain⟨v,u,T⟩:=zuy ht hk hi hz hZ hs (zav F hf) (zav bi hf) am h;exact⟨v,by simp[execOp,G,u],T⟩
 case h_9 c G=>
  split at hc
  .rename_i ai;split at hc
   case h_2=>cases hc
   rename_i t x bq M;split at hc
   case h_2=>cases hc
   rename_i kt e ht;simp only[yae]at hc;obtain⟨K,F,rfl⟩:=hc;simp only[zaw,ziY,yae]at h;obtain⟨kv,am,rfl⟩:=h;have e1:c.argTypes= #[t]:=zbl bq;have e2:c.args.map a.eval= #[a.eval x]:=by apply zbl;rw[ydf,M];rfl
   refine⟨.int .i64 kv.length,zeb G ai ?_,.im _ _ (.int _ _)⟩;rcases ztJ hs (zav F hf) am with ⟨L,rfl⟩|⟨b,es,an,L,H,bp⟩
   .simp[builtin,Builtin.len_,e1,e2,L,run_underlying ht,goInt]
   .have:es.size=kv.length:=(by simpa using bp.1);simp[builtin,Builtin.len_,e1,e2,L,run_underlying ht,MapKept.run_getObj_map H,goInt,this]
  .split at hc
   case h_2=>cases hc
   split at hc
   case h_2=>cases hc
   simp only[yak,yac,yau]at hc;obtain⟨i,_,hc⟩:=hc;split at hc
   case isFalse=>cases hc
   simp only[yac,yab]at hc;obtain⟨_,_,_,_,rfl⟩:=hc;simp[zaw]at h
  .split at hc
   case h_2=>cases hc
   split at hc
   case h_2=>cases hc
   simp only[yak,yac,yau]at hc;obtain⟨i,_,z,_,hc⟩:=hc;split at hc
   case isFalse=>cases hc
   simp only[yac,yab]at hc;obtain⟨_,_,rfl⟩:=hc;simp[zaw]at h
  .split at hc
   case h_2=>cases hc
   split at hc
   case h_2=>cases hc
   simp only[yak,yac,yau,yab]at hc;obtain⟨_,_,_,_,_,_,rfl⟩:=hc;simp[zaw]at h
  .rename_i g ai;split at hc
   case h_2=>cases hc
   rename_i fn br;split at hc
   case isFalse=>cases hc
   rename_i d;split at hc
   case h_2=>cases hc
   rename_i x y z M;simp only[yak,yac,yau,yab]at hc;obtain⟨K,F,y',hy,z',hz,rfl⟩:=hc;simp only[zaw,ziY]at h;obtain⟨v,D,T⟩:=z2v (P:=P) (zav F hf) (zav hy hf) (zav hz hf) h;obtain⟨n1,n2⟩:=zwq d.2.1 d.2.2;have e2:c.args.map a.eval= #[a.eval x,a.eval y,a.eval z]:=by apply zbl;rw[ydf,M];rfl
   refine⟨v, ?_,T⟩;simp only[execOp,G,resolve,ai,Act.eval,Deferred.ofValue,ya0,ya6,yas,invoke,Array.empty_append,Array.append_empty];rw[run_callFunc_extern br (by rw[d.2.1];decide) d.1 n1 n2];change ((add64Entry (c.args.map a.eval)).run P w).andThen _=_;rw[e2,D];rfl
  .cases hc
 case h_10 t x hi mx G=>
  split at hc
  case h_2=>cases hc
  rename_i e hu;simp only[yak,yac,yau,yab]at hc;obtain⟨aj,Z,K,F,az,al,b4,bj,rfl⟩:=hc;have D:=zav (κ:=κ) (Im:=Im) (w:=w) F hf;have bc:=zav (κ:=κ) (Im:=Im) (w:=w) al hf;have bd:=zav (κ:=κ) (Im:=Im) (w:=w) bj hf;simp only[zaw,ziY,zze]at h;split at h
  case h_2=>cases h
  rename_i q mm O Q;split at h
  case isFalse=>cases h
  rename_i X;subst X;obtain⟨k1,e1⟩:∃k,a.eval hi=.int k (q:Int):=by
   unfold zid at O;split at O
   case h_2=>cases O
   rename_i k n A;split at O
   case isFalse=>cases O
   simp only[yab]at O;rw[A]at bc;exact⟨k,by rw[bc.int_inv,<-O];congr 1;omega⟩
  obtain⟨k2,e2⟩:∃k,a.eval mx=.int k (q:Int):=by
   unfold zid at Q;split at Q
   case h_2=>cases Q
   rename_i k n A;split at Q
   case isFalse=>cases Q
   simp only[yab]at Q;rw[A]at bd;exact⟨k,by rw[bd.int_inv,<-Q];congr 1;omega⟩
  have u:∀(g:Option Addr) (ax U:Nat),a.eval x=.slice g ax U->q<=U->∃g',(g=none->g'=none)/\(∀J,g=some J->J.spot=none->g'=some J)/\(execOp a.eval o).run P w=.ok (.value (.slice g' q q)) w:=by
   intro g ax U A C;have H:(Instr.sliceBounds true ax U none (some (a.eval hi)) (some (a.eval mx))).run P w=.ok (0,q,q) w:=by rw[e1,e2];unfold Instr.sliceBounds;simp[zcO _ _ _ _ C,zcO _ _ _ _ (yaf q)]
   refine⟨if q=0 then g else g.map (·.add (0*aj)),λh=>by subst h;simp,λJ h Y=> ?_, ?_⟩;.subst h;cases J;simp only at Y;subst Y;simp[VR.add]
   .simp only[execOp,G,A,ycz,Option.map_some,Instr.sliceAt,ya0,run_underlying hu,yas,Instr.slice,H,run_sizeOf? Z,ya6];rfl
  -- a list's head
  have ak:∀(l:List (List AV)) (xv:Value),a.eval x=xv->IR Im w (.lst l) xv->(∀c∈l,c.length=aj)->q<=l.length->zjX P κ Im w o a (.tight (l.take q)):=by
   intro l xv A ay b1 C;have W:(l.take q).length=q:=by simp;omega
   rcases(VR.im (κ:=κ) _ _ ay).lst_inv with ⟨⟨g,ev⟩,rfl⟩|⟨ah,b,o',U,ae,ev,h1,Y,h3,h4,h5,h6⟩
   .have h0:q=0:=(by simpa using C);subst h0;obtain⟨g',_,_,T⟩:=u g 0 0 (A.trans ev) (yaf _);exact⟨_,T,.im _ _ (.tight [] g' (.lnil g'))⟩
   .obtain⟨g',_,bk,T⟩:=u _ _ _ (A.trans ev) (ybu C h1);obtain rfl:=bk _ rfl rfl;refine⟨_,T,.im _ _ ?_⟩;have h7:IR Im w (.lst (l.take q)) (.slice (some ⟨b,o',none⟩) q q):=(by have:=IR.lst (Im:=Im) (w:=w) (l.take q) ah b o' q ae (by simp;omega) (by omega) (λc hc=>h3 c (yao hc)) (λc hc=>h4 c (yao hc)) (λk j hk hj=>h5 k j (by simp at hk;omega) hj) (λk j hk hj=>by have e:(l.take q)[k]=l[k]'(by simp at hk;omega):=(by simp);simp only[e]at hj⊢;exact h6 k j _ hj);rwa[W]at this);have:=IR.tight (Im:=Im) (w:=w) (l.take q) (some ⟨b,o',none⟩) (by rw[W];exact h7);rwa[W]at this
  split at h
  .rename_i A;split at h
   case isFalse=>cases h
   rename_i h0;subst h0;simp only[yab]at h;subst h;rw[A]at D;obtain⟨g',_,_,T⟩:=u none 0 0 D.nils_inv (yaf _);exact⟨_,T,.im _ _ (.tight [] g' (.lnil g'))⟩
  .rename_i l A;split at h
   case isFalse=>cases h
   rename_i d;simp only[yab]at h;subst h;rw[A]at D;exact ak l _ rfl (D.pure (by simp[AV.pure])) d.1 d.2
  .rename_i id n A;rw[A]at D;split at h
   case h_2=>cases h
   rename_i e' ah bs S;split at h
   case isFalse=>cases h
   rename_i d;obtain⟨rfl,rfl,C⟩:=d;simp only[yab]at h;subst h;obtain⟨g,U,ev,hk⟩:=D.row_inv;have ay:=znV hs S hk;obtain⟨_,_,_,_,_,_,af,_⟩:=hs.ent _ _ S;exact ak bs _ rfl ay af C
  .cases h
 case h_11 t x G=>
  split at hc
  case h_2=>cases hc
  simp only[yae]at hc;obtain⟨K,F,rfl⟩:=hc;simp[zaw]at h
 case h_12 x G=>simp only[yae]at hc;obtain⟨K,F,rfl⟩:=hc;simp[zaw]at h
 case h_13 x G=>
  simp only[yae]at hc;obtain⟨K,F,rfl⟩:=hc;have D:=zav (κ:=κ) (Im:=Im) (w:=w) F hf;simp only[zaw,ziY,zy6]at h;split at h
  case h_2=>cases h
  rename_i id A;rw[A]at D;split at h
  case h_2=>cases h
  rename_i m n left B S;split at h
  case h_2=>cases h
  rename_i kv bu;split at h
  case isFalse=>cases h
  rename_i b6;simp only[yae]at h;obtain⟨p,hp,rfl⟩:=h;obtain⟨W,bl⟩:=yaa.1 hp;obtain⟨b,bm,hκ⟩:=D.ptr_inv;obtain⟨b',a3,_,_,c,es,an,bn,bx,c0,hm,ag,aq,Z,bo,_,_,_,_,_,_,ar⟩:=hs.ent _ _ S;rw[hκ]at a3;cases a3;obtain⟨b2,b5,be,a4,_,R,bz,a5,_⟩:=hs.ent _ _ bu;rw[hm]at a4;cases a4;rw[ag]at R;cases R;have C:B<es.size:=by omega
  obtain⟨rfl,au⟩:=ar C;obtain⟨q1,q2⟩:=a5 B W C;rw[bl]at q1 q2;have hf:es.find? (·.born==(es[B]).born)=some es[B]:=by rw[<-Array.find?_toList];exact find_born _ es.toList bo (by simp)
  refine⟨.tuple #[(es[B]).key,(es[B]).val], ?_, ?_⟩;.simp[execOp,G,bm,Instr.entry,getObj,Sem.run,aq,ag,au,hf]
  .have hl:VRL κ Im w [p.1,p.2] [(es[B]).key,(es[B]).val]:=VRL.cons (.im _ _ q1) (VRL.cons q2 VRL.nil);exact .tup _ _ hl.1 hl.2
 case h_14=>cases hc
end
section
variable {P:Program}{base:Nat}{κ:Key}{Im:Addr->Prop}{w:World}{σ:zaa}
theorem z6A {o:Oper}{t:TypeId}{a:Act}{K:AV->zaa->Prop}(ho:o.op=.makeMap t none)(hs:SRel base κ Im σ w)(h:K (.map σ.length) (σ++ [.mp []])):zfr P base κ Im w o a K:=by
 have c:∀m v,κ σ.length m=some v->False:=λm v h=>by obtain⟨e,p,_⟩:=hs.dom _ _ _ h;simp at p
 have g:=Key.with_new c 0 (.map (some w.heap.size));have l:∀k,k<w.heap.size->(w.alloc (.map #[] 0)).heap[k]? =w.heap[k]? :=λk q=>Below.heap_alloc w _ k q;have d:∀a,Im a->(w.alloc (.map #[] 0)).cell? a=w.cell? a:=λa f=>ya5 (l _ (hs.imlt a f).1);refine⟨_,w.alloc (.map #[] 0),κ.with σ.length 0 (.map (some w.heap.size)),Im,.map σ.length,_,.inl (by simp[execOp,ho,Instr.makeMap]),h,.map _ _ (Key.with_same _ _ _ _), ?_,⟨g,λ_ h=>h,d,λ_ h=> .inl h,(Below.refl _ _).alloc hs.hb _⟩⟩;refine hs.push (.mp []) g (λi n v h=> ?_) (λ_ h=>h) (λ_ h=> .inl h) (by simp) l ?_ (λb r=> ?_)
 .unfold Key.with at h;split at h;.rename_i d;exact .inr ⟨d.1,by rw[d.2];exact ycm _⟩
  .exact .inl h
 .exact⟨w.heap.size, #[],0,Key.with_same _ _ _ _,hs.hb,heap_alloc_new w _,rfl,λj h=>by simp at h,λa f s=>by have:=(hs.imlt a f).1;omega,⟨by simp,by simp⟩⟩
 .simp[Entry.block,Key.with]at r;omega
theorem zuL {kind:Nat}{X Y:AV}{x:Value}(hx:VR κ Im w X x)(h:eq1 kind X Y=some true)(n:Nat):Instr.sameBits (n+1) x x=true:=by
 unfold eq1 at h;split at h;.cases hx.int_inv;simp[Instr.sameBits]
 .cases hx.str_inv;simp[Instr.sameBits,MapKept.bytes_beq]
 .cases hx.bool_inv;simp[Instr.sameBits]
 .cases h
theorem zph {kind:Nat}{X:AV}:∀{kv:List (AV×AV)} {i j:Nat} {a:AV},zaQ kind X kv i=some (some (j,a))->∃Y,eq1 kind X Y=some true
 | [],i,j,a,h=>by simp[zaQ]at h
 |(k',v')::kv,i,j,a,h=>by
  simp only[zaQ]at h;split at h;.rename_i b;exact⟨_,b⟩
  .exact zph h
  .cases h
theorem z0g {o:Oper}{t kt e:TypeId}{kind:Nat}{m k v:Operand}{m' k' v':Opd}{f:Frame}{a:Act}{K:AV->zaa->Prop}{id:Nat}{kv kv':List (AV×AV)}(ho:o.op=.mapUpdate t m k v∨o.op=.insert t m k v)(ht:P.underlying t=some (.map kt e))(hk:zes P kt=some kind)
  (hm:opd m=some m') (hkk:opd k=some k') (hv:opd v=some v') (hs:SRel base κ Im σ w) (hf:FRel κ Im w f a) (hX:m'.ev f=.map id) (hent:σ[id]? =some (.mp kv)) (hpure:(k'.ev f).pure=true) (hput:zd2 kind (k'.ev f) (v'.ev f) kv=some kv') (hno:zbr σ=true)
  (h:K .junk (σ.set id (.mp kv'))):zfr P base κ Im w o a K:=by
 obtain⟨d,hd⟩:∃d,P.underlying kt=some d:=by unfold zes at hk;split at hk<;>first|(cases hk;done)|exact⟨_,by assumption⟩
 have W:=zav (κ:=κ) (Im:=Im) (w:=w) hm hf;have F:=zav (κ:=κ) (Im:=Im) (w:=w) hkk hf;have X:=zav (κ:=κ) (Im:=Im) (w:=w) hv hf;rw[hX]at W;obtain⟨b,hb,hκ⟩:=W.map_inv;obtain⟨b',s,g,C,I,l,D,J,S,n⟩:=hs.ent _ _ hent;rw[hb,C]at hκ;cases hκ;have ah:MEnt κ Im w kv s.toList:=⟨by simpa using D,λj R A=>J j R (by simpa using A)⟩;have L:∀w',(Instr.mapUpdate t (.map (some b)) (a.eval k) (a.eval v)).run P w=.ok () w'->(execOp a.eval o).run P w=.ok .skip w':=by intro w' hr;rcases ho with ho|ho<;>simp[execOp,ho,hb,hr]
 -- the step, once the new entries are zD1
 have key:∀(p:Array MapEntry) (c:Nat),(Instr.mapUpdate t (.map (some b)) (a.eval k) (a.eval v)).run P w=.ok () {w with heap:=w.heap.setIfInBounds b (.map p c)}->p.size=kv'.length->(∀j (h:j<kv'.length) (h':j<p.size),IR Im w (kv'[j]).1 (p[j]).key/\VR κ Im w (kv'[j]).2 (p[j]).val)->Born p c->zfr P base κ Im w o a K:=by intro p c hr U H E;obtain⟨g1,g2⟩:=MapKept.heap_set (o':=.map p c) l;have r:∀T,Im T->({w with heap:=w.heap.setIfInBounds b (.map p c)}:World).cell? T=w.cell? T:=λT ha=>ya5 (g2 _ (S T ha));refine⟨undef,_,κ,Im,.junk,_,.inr ⟨L _ hr,rfl⟩,h,.im _ _ (.junk _), ?_,⟨λ_ _ _ h=>h,λ_ h=>h,r,λ_ h=> .inl h,⟨rfl,rfl,rfl,by simp,λk hk=>g2 k (by omega)⟩⟩⟩;refine hs.set hent _ (λ_ _ _ h=>h) (λ_ _ _ h=> .inl h) (yaf _) (λ_ h=>h) r (λ_ h=> .inl h) (by simp) (λk _ hk=>g2 k (λhe=>hk (by simp[Entry.block,C,he]))) ?_ (λb' ag=> .inr (by simpa[Entry.block,C]using ag)) (λ_=>hno);exact⟨b,p,c,C,I,g1,U,λj R A=>⟨(H j R A).1.mono (λ_ h=>h) r,(H j R A).2.mono (λ_ _ _ h=>h) (λ_ h=>h) r⟩,S,E⟩
 unfold zd2 at hput;simp only[yae]at hput;obtain⟨q,hq,hput⟩:=hput;have B:=zkv hk hd F ah hq;rcases q with _|⟨j,x⟩
 .simp only at hput;subst hput;refine key (s.push {key:=a.eval k,val:=a.eval v,born:=g}) (g+1) ?_ (by simp[D]) (λj R A=> ?_) ⟨?_, ?_⟩;.simp only[Instr.mapUpdate,ya0,run_underlying ht,yas,MapKept.run_getObj_map l,zfk hk,Instr.findKey,run_underlying hd,B,ya6,MapKept.run_setObj_map _ l]
  .by_cases af:j<kv.length;.have:=J j af (by omega);rw[ycp af,Array.getElem_push_lt (by omega)];exact this
   .have M:j=kv.length:=(by simp at R;omega);subst M;have Z:kv.length=s.size:=D.symm;rw[ycj (by omega)];simp only[yc2,yb8];have e2:(s.push {key:=a.eval k,val:=a.eval v,born:=g})[kv.length]={key:=a.eval k,val:=a.eval v,born:=g}:=(by simp only[Z,Array.getElem_push_eq]);rw[e2];exact⟨F.pure hpure,X⟩
  .simp only[Array.toList_push,ycn,yce,List.map_nil];rw[yb7];refine⟨n.1,by simp,λx G y hy he=> ?_⟩;obtain⟨z,hz,rfl⟩:=yar.1 G;have:=n.2 z hz;simp at hy;omega
  .intro x G;simp only[Array.toList_push,yai,ybr]at G;rcases G with G|rfl
   .exact Nat.lt_succ_of_lt (n.2 x G)
   .exact Nat.lt_succ_self _
 .simp only at hput;subst hput;obtain⟨u,h1,h2,h3,h4,h5,h6⟩:=B;obtain⟨Y,hY⟩:=zph hq;have O:=zuL F hY 9999;have M:j<s.size:=by simpa using h4
  have aa:(((s[j]?).map (·.key)).getD (a.eval k))=a.eval k:=by rw[yb6 M];simpa using h6
  have ab:(s.modify j λe=>{e with key:=a.eval k,val:=a.eval v}).toList.map (·.born)=s.toList.map (·.born):=by
   apply List.ext_getElem;.simp
   .intro i h1 h2;simp only[yc6,Array.getElem_toList,Array.getElem_modify];split<;>rfl
  refine key (s.modify j λe=>{e with key:=a.eval k,val:=a.eval v}) g ?_ (by simp[D]) (λi hi aj=> ?_) ⟨by rw[ab];exact n.1,λx G=> ?_⟩;.simp only[Instr.mapUpdate,ya0,run_underlying ht,yas,MapKept.run_getObj_map l,zfk hk,Instr.findKey,run_underlying hd,h1,ya6,aa,Instr.keyThatStays,O,if_true,MapKept.run_setObj_map _ l]
  .simp only[List.length_set]at hi;have ai:i<s.size:=by omega
   rw[Array.getElem_modify];by_cases Q:j=i;.subst Q;simp only[if_true,List.getElem_set_self];exact⟨F.pure hpure,X⟩
   .rw[if_neg Q,yd5 Q];exact J i hi ai
  .have ae:x.born∈(s.modify j λe=>{e with key:=a.eval k,val:=a.eval v}).toList.map (·.born):=List.mem_map_of_mem G;rw[ab]at ae;obtain⟨z,hz,he⟩:=yar.1 ae;rw[<-he];exact n.2 z hz
theorem z7u {o:Oper}{c:Call}{t t2 kt e:TypeId}{kind:Nat}{x k:Operand}{x' k':Opd}{f:Frame}{a:Act}{K:AV->zaa->Prop}{σ':zaa}(ho:o.op=.call c)(hb:c.callee=.builtin .delete)(hts:c.argTypes.toList= [t,t2])(hargs:c.args.toList= [x,k])(ht:P.underlying t=some (.map kt e))(hk:zes P kt=some kind)
  (hx:opd x=some x') (hkk:opd k=some k') (hs:SRel base κ Im σ w) (hf:FRel κ Im w f a) (hdel:z3U σ kind (k'.ev f) (x'.ev f)=some σ') (h:K (.tup []) σ'):zfr P base κ Im w o a K:=by
 obtain⟨d,hd⟩:∃d,P.underlying kt=some d:=by unfold zes at hk;split at hk<;>first|(cases hk;done)|exact⟨_,by assumption⟩
 have F:=zav (κ:=κ) (Im:=Im) (w:=w) hx hf;have af:=zav (κ:=κ) (Im:=Im) (w:=w) hkk hf;have e1:c.argTypes= #[t,t2]:=zbl hts;have e2:c.args.map a.eval= #[a.eval x,a.eval k]:=by apply zbl;rw[ydf,hargs];rfl
 have s:∀R,(Builtin.delete_ #[t,t2] o.type #[a.eval x,a.eval k]).run P w=.ok (.tuple #[]) R->(execOp a.eval o).run P w=.ok (.value (.tuple #[])) R:=by intro R hr;simp only[execOp,ho,resolve,hb,ya0,ya6,yas,invoke,builtin,e1,e2,hr]
 have L:∀κ' T R,VR κ' T R (.tup []) (.tuple #[]):=λκ' T R=> .tup [] [] rfl (λj h=>by simp at h);unfold z3U at hdel;split at hdel;.rename_i W;simp only[yab]at hdel;subst hdel;rw[W]at F;have ag:=F.nilm_inv;refine⟨.tuple #[],w,κ,Im,_,_,.inl (s _ ?_),h,L _ _ _,hs,Grow.refl _ _ _ _⟩;have G:=λb=>zfk (P:=P) (w:=w) hk b 9999 (a.eval k);simp[Builtin.delete_,run_underlying ht,ag,G]
 .rename_i id W;rw[W]at F;split at hdel
  case h_2=>cases hdel
  rename_i kv I;split at hdel
  case isFalse=>cases hdel
  rename_i ae;simp only[yae]at hdel;obtain⟨A,p,rfl⟩:=hdel;obtain⟨b,M,hκ⟩:=F.map_inv;obtain⟨b',H,g,B,O,l,Q,C,S,r⟩:=hs.ent _ _ I;rw[M,B]at hκ;cases hκ;have ah:MEnt κ Im w kv H.toList:=⟨by simpa using Q,λj Z D=>C j Z (by simpa using D)⟩;have Y:∀(m:Array MapEntry),(Builtin.delete_ #[t,t2] o.type #[a.eval x,a.eval k]).run P w=.ok (.tuple #[]) {w with heap:=w.heap.setIfInBounds b (.map m g)}->m.size=A.length->(∀j (h:j<A.length) (h':j<m.size),IR Im w (A[j]).1 (m[j]).key/\VR κ Im w (A[j]).2 (m[j]).val)->Born m g->zfr P base κ Im w o a K:=by intro m hr X J E;obtain⟨g1,g2⟩:=MapKept.heap_set (o':=.map m g) l;have n:∀U,Im U->({w with heap:=w.heap.setIfInBounds b (.map m g)}:World).cell? U=w.cell? U:=λU ha=>ya5 (g2 _ (S U ha));refine⟨.tuple #[],_,κ,Im,_,_,.inl (s _ hr),h,L _ _ _, ?_,⟨λ_ _ _ h=>h,λ_ h=>h,n,λ_ h=> .inl h,⟨rfl,rfl,rfl,by simp,λk hk=>g2 k (by omega)⟩⟩⟩;refine hs.set I _ (λ_ _ _ h=>h) (λ_ _ _ h=> .inl h) (yaf _) (λ_ h=>h) n (λ_ h=> .inl h) (by simp) (λk _ hk=>g2 k (λW=>hk (by simp[Entry.block,B,W]))) ?_ (λb' aa=> .inr (by simpa[Entry.block,B]using aa)) (λ_=>ae);exact⟨b,m,g,B,O,g1,X,λj Z D=>⟨(J j Z D).1.mono (λ_ h=>h) n,(J j Z D).2.mono (λ_ _ _ h=>h) (λ_ h=>h) n⟩,S,E⟩
  have G:=λb=>zfk (P:=P) (w:=w) hk b 9999 (a.eval k);unfold z3Q at p;simp only[yae]at p;obtain⟨q,hq,p⟩:=p;have v:=zkv hk hd af ah hq;rcases q with _|⟨j,y⟩
  .simp only at p;subst p;refine Y H ?_ Q C r;simp[Builtin.delete_,run_underlying ht,M,MapKept.run_getObj_map l,G,Instr.findKey,run_underlying hd,v,MapKept.run_setObj_map _ l]
  .simp only at p;subst p;obtain⟨u,h1,h2,h3,h4,h5,h6⟩:=v;have ai:j<H.size:=by simpa using h4
   have z:(H.eraseIdxIfInBounds j).toList=H.toList.eraseIdx j:=(by simp);refine Y (H.eraseIdxIfInBounds j) ?_ ?_ (λi hi ab=> ?_) ⟨?_,λx hx=> ?_⟩;.simp[Builtin.delete_,run_underlying ht,M,MapKept.run_getObj_map l,G,Instr.findKey,run_underlying hd,h1,MapKept.run_setObj_map _ l]
   .rw[<-ya4,z,List.length_eraseIdx,List.length_eraseIdx];simp[Q]
   .have ee:(H.eraseIdxIfInBounds j)[i]=(H.toList.eraseIdx j)[i]'(by rw[<-z,ya4];exact ab):=(by simp only[<-z,Array.getElem_toList]);rw[ee];rw[List.getElem_eraseIdx,List.getElem_eraseIdx];have aj:(kv.eraseIdx j).length=kv.length-1:=(by rw[List.length_eraseIdx,if_pos (by omega)]);split;.exact C i (by omega) (by omega)
    .exact C (i+1) (by omega) (by omega)
   .rw[z];exact r.1.sublist ((List.eraseIdx_sublist _ _).map _)
   .rw[z]at hx;exact r.2 x ((List.eraseIdx_sublist _ _).mem hx)
 .cases hdel
theorem zAT {o:Oper}{t kt e:TypeId}{x:Operand}{x':Opd}{f:Frame}{a:Act}{K:AV->zaa->Prop}{σ':zaa}(ho:o.op=.range t x)(ht:P.underlying t=some (.map kt e))(hx:opd x=some x')(hs:SRel base κ Im σ w)(hf:FRel κ Im w f a)(hr:z4c σ (x'.ev f)=some σ')(h:K (.ptr σ.length 0) σ'):zfr P base κ Im w o a K:=by
 have l:=zav (κ:=κ) (Im:=Im) (w:=w) hx hf;have p:∀m v,κ σ.length m=some v->False:=λm v h=>by obtain⟨e,R,_⟩:=hs.dom _ _ _ h;simp at R
 have L:=Key.with_new p 0 (.pointer (some ⟨w.heap.size,0,none⟩));have F:∀(ob:Obj) (B:Entry),(Instr.range t (a.eval x)).run P w=.ok (.pointer (some ⟨w.heap.size,0,none⟩)) (w.alloc ob)->B.block (κ.with σ.length 0 (.pointer (some ⟨w.heap.size,0,none⟩))) σ.length=some w.heap.size->σ'=σ++ [B]->(∀q:World,q=w.alloc ob->(∀k,k<w.heap.size->q.heap[k]? =w.heap[k]?)->q.heap[w.heap.size]? =some ob->EOK (κ.with σ.length 0 (.pointer (some ⟨w.heap.size,0,none⟩))) Im base q σ.length B)->zfr P base κ Im w o a K:=by
  intro ob B C D Y Z;have r:∀k,k<w.heap.size->(w.alloc ob).heap[k]? =w.heap[k]? :=λk W=>Below.heap_alloc w _ k W;have G:∀a,Im a->(w.alloc ob).cell? a=w.cell? a:=λa z=>ya5 (r _ (hs.imlt a z).1);refine⟨_,w.alloc ob,κ.with σ.length 0 (.pointer (some ⟨w.heap.size,0,none⟩)),Im,.ptr σ.length 0,σ',.inl (by simp only[execOp,ho];rw[ya0,C];rfl),h,.ptr _ _ _ (Key.with_same _ _ _ _), ?_,⟨L,λ_ h=>h,G,λ_ h=> .inl h,(Below.refl _ _).alloc hs.hb _⟩⟩;rw[Y];refine hs.push B L (λi n v h=> ?_) (λ_ h=>h) (λ_ h=> .inl h) (by simp) r (Z _ rfl r (heap_alloc_new w _)) (λb O=> ?_)
  .unfold Key.with at h;split at h;.rename_i G;exact .inr ⟨G.1,by rw[G.2];exact ycm _⟩
   .exact .inl h
  .rw[D]at O;simp only[yab]at O;omega
 unfold z4c at hr;split at hr;.rename_i A;simp only[yab]at hr;subst hr;rw[A]at l;have M:=l.nilm_inv;refine F (.mapIter none 0 #[] 0) _ ?_ (by simp[Entry.block,Key.with_same]) rfl (λq X r J=>⟨w.heap.size,Key.with_same _ _ _ _,hs.hb,λa z A=>by have:=(hs.imlt a z).1;omega,J,rfl⟩);simp[Instr.range,run_underlying ht,M,newObj];rfl
 .rename_i id A;rw[A]at l;split at hr
  case h_2=>cases hr
  rename_i kv E;simp only[yab]at hr;subst hr;obtain⟨b,s,u⟩:=l.map_inv;obtain⟨b',S,c,y,H,d,I,T,U,g⟩:=hs.ent _ _ E;rw[s,y]at u;cases u;refine F (.mapIter (some b) c #[] c) _ ?_ (by simp[Entry.block,Key.with_same]) rfl (λq X r J=>⟨w.heap.size,Key.with_same _ _ _ _,hs.hb,λa z A=>by have:=(hs.imlt a z).1;omega,b,S,c,c, #[],c,L _ _ _ y, ?_,J,I,g.1,g.2,yaf _,yaf _,List.nodup_range,λj Q=>ye2.1 Q,λj Q=>by simp;omega,λh=>by omega⟩);.simp[Instr.range,run_underlying ht,s,MapKept.run_getObj_map d,newObj];rfl
  .rw[r b (yba.1 d).1];exact d
 .cases hr
theorem z14 {es:Array MapEntry}(hn:(es.toList.map (·.born)).Nodup){i j:Nat}(hi:i<es.size)(hj:j<es.size)(he:(es[i]).born=(es[j]).born):i=j:=by
 have a:i<(es.toList.map (·.born)).length:=by simpa using hi
 have b:j<(es.toList.map (·.born)).length:=by simpa using hj
 exact(List.getElem_inj hn (h₀:=a) (h₁:=b)).1 (by simpa using he)
theorem zBR {o:Oper}{x:Operand}{x':Opd}{f:Frame}{a:Act}{K:AV->zaa->Prop}(ho:o.op=.next x false)(hx:opd x=some x')(hs:SRel base κ Im σ w)(hf:FRel κ Im w f a)(h:zat P K f σ (.nxt x')):zfr P base κ Im w o a K:=by
 have hv:=zav (κ:=κ) (Im:=Im) (w:=w) hx hf;simp only[zat]at h;split at h
 case h_2=>exact h.elim
 rename_i id he;split at h
 case h_2=>exact h.elim
 rename_i ag n left al C;rw[he]at hv;obtain⟨b,E,Y⟩:=hv.ptr_inv;obtain⟨b',J,F,L,M⟩:=hs.ent _ _ C;rw[Y]at J;cases J;have u:VR κ Im w (.tup [.bool false]) (.tuple #[.bool false]):=.im _ _ (.tup _ [.bool false] rfl (λj h h'=>by
  have:j=0:=by simp at h;omega
  subst this;exact .bool _))
 cases ag with
 |none=>obtain⟨d,rfl⟩:=M;refine⟨.tuple #[.bool false],w,κ,Im,_,_,.inl ?_,h.1 rfl,u,hs,Grow.refl _ _ _ _⟩;simp[execOp,ho,E,Instr.next,getObj,Sem.run,d]
 |some m=>
  obtain⟨c,z,g,p,l,c0,hm,Z,d,aa,O,Q,ab,A,R,S,r,ae⟩:=M;have D:∀j (B:j<z.size),z[j]∈(leftOf z l).toList↔j∈left:=by intro j B;rw[r j B];simp[leftOf]
  rcases run_next_at (P:=P) w o.type b c p c0 l z g d Z Q ab with ⟨h0,hr⟩|⟨e,G,w1,U,hr⟩
  .have ah:left= []:=by
    rcases left with _|⟨j,left⟩;.rfl
    .exfalso;have B:=S j (by simp);have:=(D j (by omega)).2 (by simp);have T:(leftOf z l).toList= []:=yaq (by simpa using h0);rw[T]at this;simp at this
   refine⟨.tuple #[.bool false],w,κ,Im,_,_,.inl ?_,h.1 ah,u,hs,Grow.refl _ _ _ _⟩;simp only[execOp,ho,E];rw[ya0,hr];rfl
  .have ai:e∈z.toList:=(by simp only[leftOf,Array.toList_filter,ybf]at G;exact G.1);obtain⟨i,hi,s⟩:=yaz.1 ai;have X:i<z.size:=(by simpa using hi);simp only[Array.getElem_toList]at s;have aj:i∈left:=(D i X).1 (by rw[s];exact G);have hK:=h.2 i aj;have q:w1.heap=w.heap:=(by rcases U with rfl|rfl<;>rfl);have ak:b<w1.heap.size:=(by rw[q];exact(yba.1 d).1);obtain⟨y,t⟩:∃y,y=ChangeMaps.setBlock w1 b (.mapIter (some c) p (l.push e.born) g):=⟨_,rfl⟩;rw[<-t]at hr;have g1:y.heap[b]? =some (.mapIter (some c) p (l.push e.born) g):=(by rw[t];simp[ChangeMaps.setBlock,ak]);have g2:∀k,k≠b->y.heap[k]? =w.heap[k]? :=λk hk=>by rw[t];simp only[ChangeMaps.setBlock];rw[ycb (Ne.symm hk),q]
   have g3:y.heap.size=w.heap.size:=(by rw[t];simp[ChangeMaps.setBlock,q]);have v:∀W,Im W->y.cell? W=w.cell? W:=λW ha=>ya5 (g2 _ (L W ha));have I:y.os=w.os/\y.tape=w.tape/\y.output=w.output:=(by rw[t];rcases U with rfl|rfl<;>exact⟨rfl,rfl,rfl⟩);have H:c≠b:=λH=>by rw[H,d]at Z;cases Z
   refine⟨.tuple #[.bool true,e.key,e.val],y,κ,Im,_,_,.inl ?_,hK, ?_, ?_,⟨λ_ _ _ h=>h,λ_ h=>h,v,λ_ h=> .inl h,⟨I.1,I.2.1,I.2.2,by omega,λk hk=>g2 k (by omega)⟩⟩⟩;.simp only[execOp,ho,E];rw[ya0,hr];rfl
   .exact .im _ _ (.tup _ [.bool true,e.key,e.val] rfl (λj h h'=>by
     match j,h with
     |0,_=>exact .bool _
     |1,_=>exact .junk _
     |2,_=>exact .junk _))
   .refine hs.set C _ (λ_ _ _ h=>h) (λ_ _ _ h=> .inl h) (yaf _) (λ_ h=>h) v (λ_ h=> .inl h) (by omega) (λk _ hk=>g2 k (λhe=>hk (by simp[Entry.block,Y,he]))) ?_ (λb' af=> .inr (by simpa[Entry.block,Y]using af));refine⟨b,Y,F,L,c,z,g,p,l.push e.born,g,hm,by rw[g2 c H];exact Z,g1,aa,O,Q,A,A,R.erase _,λj B=>S j (List.mem_of_mem_erase B),λj B=> ?_,λhl=>⟨rfl,by simp[s]⟩⟩
    .rw[R.mem_erase_iff,r j B];simp only[Array.contains_push,Bool.or_eq_false_iff,beq_eq_false_iff_ne,ne_eq];constructor;.rintro⟨T,h2⟩;exact⟨h2,λh3=>T (z14 O B X (by rw[h3,s]))⟩
     .rintro⟨T,h2⟩;exact⟨λh3=>h2 (by subst h3;rw[s]),T⟩
theorem zxN {o:Oper}{s t e:TypeId}{x:Operand}{x':Opd}{f:Frame}{a:Act}{K:AV->zaa->Prop}{r:AV}(ho:o.op=.convert s t x)(hu1:P.underlying s=some .string)(hu2:P.underlying t=some (.slice e))(he:P.underlying e=some (.int .u8))(hx:opd x=some x')(hs:SRel base κ Im σ w)(hf:FRel κ Im w f a)
  (hr:zia (x'.ev f)=some r) (h:K r σ):zfr P base κ Im w o a K:=by
 have C:=zav (κ:=κ) (Im:=Im) (w:=w) hx hf;unfold zia at hr;split at hr
 case h_2=>cases hr
 rename_i l F;split at hr
 case isFalse=>cases hr
 rename_i G;simp only[yab]at hr;subst hr;rw[F]at C;have q:=C.str_inv;have g:=Lib.run_convert_string_bytes (P:=P) w s t e ⟨l.toArray⟩ hu1 hu2 he;have n:(ByteArray.mk l.toArray).size=l.length:=by simp[ByteArray.size]
 rw[n]at g;let u:Addr->Prop:=λd=>Im d∨(d.block=w.heap.size/\d.spot=none/\d.off<l.length);have i:∀k,k<w.heap.size->(Lib.bytesWorld w e ⟨l.toArray⟩).heap[k]? =w.heap[k]? :=Lib.bytesWorld_at_old w e _;have m:∀d,Im d->(Lib.bytesWorld w e ⟨l.toArray⟩).cell? d=w.cell? d:=λd E=>ya5 (i _ (hs.imlt d E).1);have v:IR u (Lib.bytesWorld w e ⟨l.toArray⟩) (.lst (l.map λb=> [.int .u8 b.toNat])) (.slice (some ⟨w.heap.size,0,none⟩) (l.map λb=> [AV.int .u8 (b.toNat:Int)]).length (grownCap w l.length 0 e)):=by
  refine .lst _ 1 w.heap.size 0 _ (λk j=> .int .u8 (l.getD k 0).toNat) (by simpa using grownCap_ge w l.length 0 e) (grownCap_le_maxLen _ _ _ _ (by simp only[maxLen];omega)) (λc m=> ?_) (λc m y A=> ?_) (λk j p B=> ?_) (λk j p B=> ?_);.simp only[yar]at m;obtain⟨b,_,rfl⟩:=m;rfl
  .simp only[yar]at m;obtain⟨b,_,rfl⟩:=m;simp only[ybr]at A;subst A;rfl
  .obtain rfl:j=0:=(by omega);simp only[ybn]at p;refine⟨.inr ⟨rfl,rfl,by show 0+(k*1+0)<l.length;omega⟩, ?_⟩;have:=Lib.bytesWorld_cell w e ⟨l.toArray⟩ k (by simpa[ByteArray.size]using p);simpa using this
  .simp only[ybn]at p;simp only[yc6,ybg,yc1]at B⊢;obtain rfl:j=0:=by omega
   simp only[yb8];have H:l.getD k 0=l[k]:=by simp[p]
   rw[H];exact .int _ _
 rw[ybn]at v;refine⟨_,_,κ,u,_,σ,.inl (by simp only[execOp,ho,q,ya0,g,yas,ya6]),h,.im _ _ v, ?_,⟨λ_ _ _ h=>h,λ_ h=> .inl h,m,λd h=> ?_, ?_⟩⟩
 .refine hs.world (λ_ h=> .inl h) (λd h=> ?_) (by rw[Lib.bytesWorld_size];omega) i;rcases h with h|⟨z,D,_⟩
  .exact .inl h
  .exact .inr ⟨by omega,by rw[Lib.bytesWorld_size];omega,D⟩
 .rcases h with h|⟨z,_⟩;.exact .inl h
  .exact .inr (by rw[z];exact hs.hb)
 .exact(Lib.bytesWorld_below w e _).mono hs.hb
theorem zCy {o:Oper}{c:Call}{t e:TypeId}{x:Operand}{x':Opd}{i:TypeInfo}{z:List AV}{f:Frame}{a:Act}{K:AV->zaa->Prop}{σ':zaa}(ho:o.op=.call c)(hb:c.callee=.builtin .clear)(hts:c.argTypes.toList= [t])(hargs:c.args.toList= [x])(ht:P.underlying t=some (.slice e))(hi:P.info? e=some i)(hz:zga P e=some z)
  (hzl:z.length=i.size) (hpos:0<i.size) (hx:opd x=some x') (hs:SRel base κ Im σ w) (hf:FRel κ Im w f a) (hclr:z5G σ i.size z (x'.ev f)=some σ') (h:K (.tup []) σ'):zfr P base κ Im w o a K:=by
 obtain⟨i',zv,A,bb,hm⟩:=zfB hz;rw[hi]at A;cases A;obtain⟨am,an,_⟩:=zci (Im:=Im) (w:=w) hm;have bp:zv.cells.size=i.size:=by rw[<-hzl,am.1];simp
 have C:=zav (κ:=κ) (Im:=Im) (w:=w) hx hf;have e1:c.argTypes= #[t]:=zbl hts;have e2:c.args.map a.eval= #[a.eval x]:=by apply zbl;rw[ydf,hargs];rfl
 have ai:(zeroValue e).run P w=.ok zv w:=by simp[zeroValue,typeInfo,hi,bb]
 have R:∀w',(Builtin.clear_ #[t] o.type #[a.eval x]).run P w=.ok (.tuple #[]) w'->(execOp a.eval o).run P w=.ok (.value (.tuple #[])) w':=by intro w' hr;simp only[execOp,ho,resolve,hb,ya0,ya6,yas,invoke,builtin,e1,e2,hr]
 have X:∀κ' a0 w',VR κ' a0 w' (.tup []) (.tuple #[]):=λκ' a0 w'=> .tup [] [] rfl (λj h=>by simp at h);have aj:∀g c,a.eval x=.slice g 0 c->(Builtin.clear_ #[t] o.type #[a.eval x]).run P w=.ok (.tuple #[]) w:=by intro g c L;cases g<;>simp[Builtin.clear_,L,run_underlying ht]
 have D:∀g c,a.eval x=.slice g 0 c->σ'=σ->zfr P base κ Im w o a K:=by rintro g c L rfl;exact⟨_,w,κ,Im,_,_,.inl (R _ (aj g c L)),h,X _ _ _,hs,Grow.refl _ _ _ _⟩
 have Y:∀(id T m A b u c:Nat) (d:List (List AV)),σ[id]? =some (.row T i.size d false)->κ id d.length=some (.slice (some ⟨b,0,none⟩) d.length u)->m<=A->A<=d.length->a.eval x=.slice (some ⟨b,m*i.size,none⟩) (A-m) c->m<A->σ'=σ.set id (.row T i.size (d.take m++List.replicate (A-m) z++d.drop A) false)->zfr P base κ Im w o a K:=by
  intro id T m s b u c d r S h1 h2 a3 O hσ;obtain⟨v,xs,G,H,bc,_,B,M,bo,ao⟩:=hs.ent _ _ r;rw[S]at G;cases G;rcases H.2 with ⟨bd,_⟩|⟨g,ax,U,ay,af,Q,I,az,bk,ag⟩
  .cases bd
  simp only[Value.slice.injEq,yab,Addr.mk.injEq]at ay;obtain⟨⟨rfl,_⟩,_,rfl⟩:=ay;obtain⟨aq,bj⟩:=ao b rfl;have bf:(Builtin.zeroCells zv.cells (s-m)).toList=(List.replicate (s-m) zv.cells.toList).flatten:=zih zv.cells (by omega) (s-m);generalize bi:(Builtin.zeroCells zv.cells (s-m)).toList=vs at*;have W:VRL κ Im w (List.replicate (s-m) z).flatten vs:=by rw[bf];exact(VRL.ofIR am).replicate _
  have bg:∀c∈(List.replicate (s-m) z).flatten,c.one=true:=λc hc=>by obtain⟨l,hl,ar⟩:=ybq.1 hc;rw[(ycd.1 hl).2]at ar;exact an c ar
  have ba:vs.length=(s-m)*i.size:=by rw[<-W.1];simp[hzl]
  have bq:=yat i.size h1;have br:=yat i.size h2;have bs:=yat i.size I;have bn:(s-m)*i.size=s*i.size-m*i.size:=Nat.sub_mul _ _ _;have a4:m*i.size+vs.length=s*i.size:=by omega
  have J:=zf9 (off:=m*i.size) (n:=vs.length) Q (by omega);have a5:=run_storeCells_cells (P:=P) b (m*i.size) vs 0 w (λj hj=>by simpa using(J j hj).1) (λj hj=>by simpa using(J j hj).2) (ze1 W bg);rw[ycf]at a5;have a6:(Builtin.clear_ #[t] o.type #[a.eval x]).run P w=.ok (.tuple #[]) (w.setCells b (m*i.size) vs):=by obtain⟨n1,au⟩:∃n1,s-m=n1+1:=⟨s-m-1,by omega⟩;have a7:(Builtin.zeroCells zv.cells (n1+1)).toList=vs:=(by rw[<-bi,au]);rw[a3,au];simp[Builtin.clear_,run_underlying ht,ai,a7,a5]
  obtain⟨aa,g1,g2,g3,g4,g5,g6,g7⟩:=zbB b vs (m*i.size) w U T Q (by omega);have F:∀ad,Im ad->(w.setCells b (m*i.size) vs).cell? ad=w.cell? ad:=by
   intro ad be;by_cases a9:ad.block=b;.exact absurd (aq ad be a9).1 (by simp)
   .exact ya5 (g3 _ a9)
  have q:(d.take m++List.replicate (s-m) z++d.drop s).length=d.length:=by simp;omega
  have Z:(Entry.row T i.size d false).block κ id=some b:=by simp[Entry.block,S,Value.ownBlock]
  have ak:(Entry.row T i.size (d.take m++List.replicate (s-m) z++d.drop s) false).block κ id=some b:=by simp only[Entry.block,q,S,yd8,Value.ownBlock]
  refine⟨_,_,κ,Im,_,σ',.inl (R _ a6),h,X _ _ _, ?_,⟨λ_ _ _ h=>h,λ_ h=>h,F,λ_ h=> .inl h,⟨g5,g6,g7,by omega,λk a1=>g3 k (by omega)⟩⟩⟩;rw[hσ];have bh:xs=U.toList.take (d.length*i.size):=ag.symm;have a8:aa.toList.take (d.length*i.size)=xs.take (m*i.size)++vs++xs.drop (m*i.size+vs.length):=by
   rw[g2,bh];have hA:(U.toList.take (m*i.size)).length=m*i.size:=by rw[yan];simp;omega
   rw[yax,ycx,yal (by omega),ycx,yal (l:=vs) (by omega),hA];rw[yd1,List.drop_take];rw[ybt (by omega)];rw[yax];congr 3;omega
  have al:(d.take m++List.replicate (s-m) z++d.drop s).flatten=splice d.flatten (m*i.size) (List.replicate (s-m) z).flatten:=by have hq:(List.replicate (s-m) z).flatten.length=vs.length:=W.1;simp only[splice,ybx,zc6 _ _ B,zea _ _ B,hq,a4]
  refine hs.set r _ (λ_ _ _ h=>h) (λ_ _ _ h=> .inl h) (by simp only[Entry.ver,q,yaf]) (λ_ h=>h) F (λ_ h=> .inl h) (by omega) (λk _ a1=>g3 k (λL=>a1 (by rw[L];exact Z))) ?_ (λb' a2=> .inr (by rw[ak]at a2;rw[Z];exact a2));refine⟨_,aa.toList.take (d.length*i.size),by rw[q];exact S,⟨?_,.inr ⟨b,u,aa,by rw[q],af,g1,by rw[q];exact I,az, ?_,by rw[q]⟩⟩, ?_,hpos, ?_, ?_,λh=>by simp at h,λg hg=> ?_⟩;.rw[q,yan];have:=congrArg List.length g2;simp only[yag,yan,ya3,ya4]at this;simp only[ya4];omega
  .have:=congrArg List.length g2;simp only[yag,yan,ya3,ya4]at this;omega
  .rw[al,a8];have:=VRL.splice (m*i.size) bc W;exact⟨this.1,λj h h'=>(this.2 j h h').mono (λ_ _ _ h=>h) (λ_ h=>h) F⟩
  .intro c' p;simp only[yai]at p;rcases p with (p|p)|p
   .exact B _ (yao p)
   .rw[(ycd.1 p).2,hzl]
   .exact B _ (yay p)
  .intro c' p y hy;simp only[yai]at p;rcases p with (p|p)|p
   .exact M _ (yao p) y hy
   .rw[(ycd.1 p).2]at hy;exact an y hy
   .exact M _ (yay p) y hy
  .rw[q];exact ao g hg
 unfold z5G at hclr;split at hclr;.rename_i L;rw[L]at C;simp only[yab]at hclr;exact D _ _ C.nils_inv hclr.symm
 .rename_i L;rw[L]at C;simp only[yab]at hclr;rcases C.lst_inv with ⟨⟨g,G⟩,_⟩|⟨bl,b,o,u,bm,G,_⟩
  .exact D _ _ G hclr.symm
  .exact D _ _ G hclr.symm
 .rename_i id n L;rw[L]at C;split at hclr
  case h_2=>cases hclr
  rename_i T ah d r;split at hclr
  case isFalse=>cases hclr
  rename_i E;obtain⟨hn,ab⟩:=E;simp only[yab]at hclr;subst hn;subst ab;obtain⟨g,u,G,S⟩:=C.row_inv;by_cases h0:d.length=0;.have:d= []:=yaq h0;subst this;refine D g u (by simpa using G) ?_;rw[<-hclr];obtain⟨O,ae⟩:=yaa.1 r;simp only[yc1,List.replicate_zero];rw[<-ae,ycu]
  .obtain⟨v,xs,av,H,_⟩:=hs.ent _ _ r;rw[S]at av;cases av;rw[G]at S H;rcases H.2 with ⟨_,q2⟩|⟨g',ax,U,q1,_⟩
   .omega
   .simp only[Value.slice.injEq]at q1;obtain⟨rfl,_,rfl⟩:=q1;refine Y id T 0 d.length g' u u d r S (ycm _) (yaf _) (by simpa using G) (by omega) ?_;rw[<-hclr];simp
 .rename_i id n sz m s L;rw[L]at C;split at hclr
  case h_2=>cases hclr
  rename_i T ah d r;split at hclr
  case isFalse=>cases hclr
  rename_i E;obtain⟨hn,ab,aw,k1,k2⟩:=E;simp only[yab]at hclr;subst hn;subst ab;subst aw;obtain⟨b,u,ad,c',G,S,_,_,k3,k4,_⟩:=C.sub_inv;by_cases h0:m=s;.subst h0;refine D _ c' (by simpa using G) ?_;rw[<-hclr];obtain⟨O,ae⟩:=yaa.1 r;simp only[yc2,List.replicate_zero,ybi,ya2];rw[<-ae,ycu]
  .have O:m<s:=(by omega);rw[k3 O]at G;exact Y id T m s b u c' d r S k1 k2 G O hclr.symm
 .cases hclr
theorem zAF {o:Oper}{c:Call}{t s e:TypeId}{x y:Operand}{x' y':Opd}{i:TypeInfo}{f:Frame}{a:Act}{K:AV->zaa->Prop}{σ':zaa}{m:List (List AV)}{k:Nat}(ho:o.op=.call c)(hb:c.callee=.builtin .copy)(hts:c.argTypes.toList= [t,s])(hargs:c.args.toList= [x,y])(ht:P.underlying t=some (.slice e))(hi:P.info? e=some i)
  (hpos:0<i.size) (hx:opd x=some x') (hy:opd y=some y') (hs:SRel base κ Im σ w) (hf:FRel κ Im w f a) (hm:view σ (y'.ev f)=some m) (hml:∀c∈m,c.length=i.size) (hcpy:zyZ σ i.size m (x'.ev f)=some (σ',k)) (h:K (.int .i64 (k:Nat)) σ'):zfr P base κ Im w o a K:=by
 have F:=zav (κ:=κ) (Im:=Im) (w:=w) hx hf;have bq:=zav (κ:=κ) (Im:=Im) (w:=w) hy hf;have e1:c.argTypes= #[t,s]:=zbl hts;have e2:c.args.map a.eval= #[a.eval x,a.eval y]:=by apply zbl;rw[ydf,hargs];rfl
 have ab:∀v' w',(Builtin.copy_ #[t,s] o.type #[a.eval x,a.eval y]).run P w=.ok v' w'->(execOp a.eval o).run P w=.ok (.value v') w':=by intro v' w' hr;simp only[execOp,ho,resolve,hb,ya0,ya6,yas,invoke,builtin,e1,e2,hr]
 have bb:(sizeOf e).run P w=.ok i.size w:=by simp[sizeOf,typeInfo,hi]
 -- what is read
 obtain⟨g,c',z,M,bk,af,ag,W⟩:∃g c' z,a.eval y=.slice g m.length c'/\z.length=m.length*i.size/\(∀H,g=some H->∀j u,z[j]? =some u->w.cell? (H.add j)=some u)/\(VRL κ Im w m.flatten z/\(g=none->m= []))/\(∀c∈m,∀v∈c,v.one=true):=by
  rcases ziu hs bq hm hml hpos with ⟨h1,rfl⟩|⟨H,c',z,h1,h2,h3,h4,h5,_⟩;.exact⟨none,0,[],h1,by simp,λH h=>by simp at h,⟨⟨rfl,λj h=>by simp at h⟩,λ_=>rfl⟩,by simp⟩
  .exact⟨some H,c',z,h1,h2,λb7 h=>by simp only[yab]at h;subst h;exact h3,⟨h4,λh=>by simp at h⟩,h5⟩
 obtain⟨ag,bl⟩:=ag;have ae:∀n,n<=m.length->∃X:Array Value,(Builtin.firstCells i.size n (a.eval y)).run P w=.ok X w/\X.toList=z.take (n*i.size):=by
  intro n hn;have b9:=yat i.size hn;cases g with
  |none=>have br:=bl rfl;subst br;have:n=0:=(by simpa using hn);subst this;exact⟨#[],by rw[M];exact run_firstCells_none _ _ _ _ _,by simp⟩
  |some H=>
   have hr:=run_firstCells_some (P:=P) (w:=w) i.size n H m.length c' (z.take (n*i.size)) (by rw[yan];omega) (λj v hj=>by
    rw[ybz]at hj;split at hj;.exact af H rfl j v hj
    .cases hj)
   exact⟨_,by rw[M];exact hr,by simp⟩
 have G:∀g c,a.eval x=.slice g 0 c->σ'=σ->k=0->zfr P base κ Im w o a K:=by
  rintro g0 c0 Z rfl rfl;obtain⟨X,hr,ha⟩:=ae 0 (ycm _);have bs:X= #[]:=by apply Array.toList_inj.1;simpa using ha
  subst bs;refine⟨_,w,κ,Im,_,_,.inl (ab (goInt 0) _ ?_),h,.im _ _ (.int _ _),hs,Grow.refl _ _ _ _⟩;rw[M]at hr⊢;rw[Z];cases g0<;>simp[Builtin.copy_,run_underlying ht,Builtin.lenOf,bb,hr,storeCells]
 have aj:∀(id ty B d b C c:Nat) (p:List (List AV)),σ[id]? =some (.row ty i.size p false)->κ id p.length=some (.slice (some ⟨b,0,none⟩) p.length C)->B+d<=p.length->a.eval x=.slice (some ⟨b,B*i.size,none⟩) d c->σ'=σ.set id (.row ty i.size (p.take B++m.take d++p.drop (B+min m.length d)) false)->k=min m.length d->zfr P base κ Im w o a K:=by
  intro id ty B d b C c p A hk h1 ba hσ au;obtain⟨v,xs,O,Q,bm,_,D,R,b6,a0⟩:=hs.ent _ _ A;rw[hk]at O;cases O;rcases Q.2 with ⟨bo,_⟩|⟨g',a5,ah,a6,aq,aa,T,a7,b3,ar⟩
  .cases bo
  simp only[Value.slice.injEq,yab,Addr.mk.injEq]at a6;obtain⟨⟨rfl,_⟩,_,rfl⟩:=a6;obtain⟨a1,b2⟩:=a0 b rfl;have ca:k<=d:=by omega
  have bc:k<=m.length:=by omega
  obtain⟨X,hr,a2⟩:=ae k bc;have bu:m.take d=m.take k:=by
   rw[au];rcases Nat.le_total m.length d with hh|hh
   .rw[ybt hh,yal hh,yal (yaf _)]
   .rw[Nat.min_eq_right hh]
  obtain⟨L,hL⟩:∃L,L=m.take k:=⟨_,rfl⟩;have bw:L.length=k:=by rw[hL,yan];omega
  have aw:∀c∈L,c∈m:=λc hc=>yao (by rw[hL]at hc;exact hc);obtain⟨S,al⟩:∃S,S=z.take (k*i.size):=⟨_,rfl⟩;have bd:m.flatten.take (k*i.size)=L.flatten:=by rw[hL,zc6 _ _ hml]
  have ax:VRL κ Im w L.flatten S:=by rw[<-bd,al];refine⟨by rw[yan,yan,ag.1],λj hj b8=> ?_⟩;rw[yck,yck];exact ag.2 j _ _
  have bx:∀c∈L.flatten,c.one=true:=λc hc=>by obtain⟨l,hl,bn⟩:=ybq.1 hc;exact W l (aw l hl) c bn
  have ai:S.length=k*i.size:=by rw[al,yan,bk];have:=yat i.size bc;omega
  have bz:=yat i.size (show B+k<=p.length by omega);rw[ya8]at bz;have cc:=yat i.size T;have U:=zf9 (off:=B*i.size) (n:=S.length) aa (by omega);have be:=run_storeCells_cells (P:=P) b (B*i.size) S 0 w (λj hj=>by simpa using(U j hj).1) (λj hj=>by simpa using(U j hj).2) (ze1 ax bx);rw[ycf]at be;have bf:(Builtin.copy_ #[t,s] o.type #[a.eval x,a.eval y]).run P w=.ok (goInt k) (w.setCells b (B*i.size) S):=by have bg:Nat.min m.length d=k:=au.symm;rw[M]at hr⊢;rw[ba];simp[Builtin.copy_,run_underlying ht,Builtin.lenOf,bg,bb,hr,a2,<-al,be]
  obtain⟨am,g1,g2,g3,g4,g5,g6,g7⟩:=zbB b S (B*i.size) w ah ty aa (by omega);have J:∀H,Im H->(w.setCells b (B*i.size) S).cell? H=w.cell? H:=by
   intro H bp;by_cases bj:H.block=b;.exact absurd (a1 H bp bj).1 (by simp)
   .exact ya5 (g3 _ bj)
  obtain⟨E,hE⟩:∃E,E=p.take B++L++p.drop (B+k):=⟨_,rfl⟩;have b0:σ'=σ.set id (.row ty i.size E false):=by rw[hσ,hE,hL,bu,<-au]
  have r:E.length=p.length:=by rw[hE];simp[bw];omega
  have ak:(Entry.row ty i.size p false).block κ id=some b:=by simp[Entry.block,hk,Value.ownBlock]
  have ay:(Entry.row ty i.size E false).block κ id=some b:=by simp only[Entry.block,r,hk,yd8,Value.ownBlock]
  refine⟨_,_,κ,Im,_,σ',.inl (ab _ _ bf),h,.im _ _ (.int _ _), ?_,⟨λ_ _ _ h=>h,λ_ h=>h,J,λ_ h=> .inl h,⟨g5,g6,g7,by omega,λk a8=>g3 k (by omega)⟩⟩⟩;rw[b0];have b1:xs=ah.toList.take (p.length*i.size):=ar.symm;have bh:am.toList.take (p.length*i.size)=xs.take (B*i.size)++S++xs.drop (B*i.size+S.length):=by
   rw[g2,b1];have hA:(ah.toList.take (B*i.size)).length=B*i.size:=by rw[yan];simp;omega
   rw[yax,ycx,yal (by omega),ycx,yal (l:=S) (by omega),hA];rw[yd1,List.drop_take];rw[ybt (by omega)];rw[yax];congr 3;omega
  have az:E.flatten=splice p.flatten (B*i.size) L.flatten:=by have hq:L.flatten.length=S.length:=ax.1;have bi:B*i.size+S.length=(B+k)*i.size:=(by rw[ai,ya8]);rw[hE];simp only[splice,ybx,zc6 _ _ D,zea _ _ D,hq,bi]
  refine hs.set A _ (λ_ _ _ h=>h) (λ_ _ _ h=> .inl h) (by simp only[Entry.ver,r,yaf]) (λ_ h=>h) J (λ_ h=> .inl h) (by omega) (λk _ a8=>g3 k (λZ=>a8 (by rw[Z];exact ak))) ?_ (λb' a9=> .inr (by rw[ay]at a9;rw[ak];exact a9));refine⟨_,am.toList.take (p.length*i.size),by rw[r];exact hk,⟨?_,.inr ⟨b,C,am,by rw[r],aq,g1,by rw[r];exact T,a7, ?_,by rw[r]⟩⟩, ?_,hpos, ?_, ?_,λh=>by simp at h,λg hg=> ?_⟩;.rw[r,yan];have:=congrArg List.length g2;simp only[yag,yan,ya3,ya4]at this;simp only[ya4];omega
  .have:=congrArg List.length g2;simp only[yag,yan,ya3,ya4]at this;omega
  .rw[az,bh];have:=VRL.splice (B*i.size) bm ax;exact⟨this.1,λj h h'=>(this.2 j h h').mono (λ_ _ _ h=>h) (λ_ h=>h) J⟩
  .intro c' q;rw[hE]at q;simp only[yai]at q;rcases q with (q|q)|q
   .exact D _ (yao q)
   .exact hml _ (aw _ q)
   .exact D _ (yay q)
  .intro c' q y hy;rw[hE]at q;simp only[yai]at q;rcases q with (q|q)|q
   .exact R _ (yao q) y hy
   .exact W _ (aw _ q) y hy
   .exact R _ (yay q) y hy
  .rw[r];exact a0 g hg
 unfold zyZ at hcpy;split at hcpy;.rename_i Z;rw[Z]at F;simp only[yab,Prod.mk.injEq]at hcpy;exact G _ _ F.nils_inv hcpy.1.symm hcpy.2.symm
 .rename_i Z;rw[Z]at F;simp only[yab,Prod.mk.injEq]at hcpy;rcases F.lst_inv with ⟨⟨g,O⟩,_⟩|⟨b4,b,o,C,b5,O,_⟩
  .exact G _ _ O hcpy.1.symm hcpy.2.symm
  .exact G _ _ O hcpy.1.symm hcpy.2.symm
 .rename_i id n Z;rw[Z]at F;split at hcpy
  case h_2=>cases hcpy
  rename_i ty av p A;split at hcpy
  case isFalse=>cases hcpy
  rename_i I;obtain⟨hn,Y⟩:=I;simp only[yab,Prod.mk.injEq]at hcpy;subst hn;subst Y;obtain⟨g,C,O,hk⟩:=F.row_inv;by_cases h0:p.length=0;.have:p= []:=yaq h0;subst this;refine G g C (by simpa using O) ?_ (by rw[<-hcpy.2];simp);rw[<-hcpy.1];obtain⟨an,ao⟩:=yaa.1 A;simp only[yc1,List.take_zero,List.drop_nil,ybi];rw[<-ao,ycu]
  .obtain⟨v,xs,a3,Q,_⟩:=hs.ent _ _ A;rw[hk]at a3;cases a3;rw[O]at hk Q;rcases Q.2 with ⟨_,q2⟩|⟨g',a5,ah,q1,_⟩
   .omega
   .simp only[Value.slice.injEq]at q1;obtain⟨rfl,_,rfl⟩:=q1;refine aj id ty 0 p.length g' C C p A hk (by omega) (by simpa using O) ?_ hcpy.2.symm;rw[<-hcpy.1];simp
 .rename_i id n sz B hh Z;rw[Z]at F;split at hcpy
  case h_2=>cases hcpy
  rename_i ty av p A;split at hcpy
  case isFalse=>cases hcpy
  rename_i I;obtain⟨hn,Y,a4,k1,k2⟩:=I;simp only[yab,Prod.mk.injEq]at hcpy;subst hn;subst Y;subst a4;obtain⟨b,C,H,c',O,hk,_,_,k3,k4,_⟩:=F.sub_inv;by_cases h0:B=hh;.subst h0;refine G _ c' (by simpa using O) ?_ (by rw[<-hcpy.2];simp);rw[<-hcpy.1];obtain⟨an,ao⟩:=yaa.1 A;simp only[yc2,List.take_zero,ybi,Nat.min_zero,ycf,ya2];rw[<-ao,ycu]
  .have an:B<hh:=(by omega);rw[k3 an]at O;exact aj id ty B (hh-B) b C c' p A hk (by omega) O hcpy.1.symm hcpy.2.symm
 .cases hcpy
end
section
variable {P:Program}{base:Nat}{κ:Key}{Im:Addr->Prop}{w:World}{σ:zaa}
def Lent (w:World)(Im:Addr->Prop)(lend:Bool):Addr->Prop:=λa=>if lend then a.block<w.heap.size/\a.spot=none else Im a
theorem Lent.of (hs:SRel base κ Im σ w)(lend:Bool)(a:Addr)(h:Im a):Lent w Im lend a:=by
 unfold Lent;split;.exact hs.imlt a h
 .exact h
theorem zCH (hs:SRel base κ Im σ w){lend:Bool}{X Y:AV}(h:Coe σ lend X Y):∀{x:Value},VR κ Im w X x->IR (Lent w Im lend) w Y x:=by
 induction h with
 |pure a H=>intro x C;exact(C.pure H).mono (Lent.of hs lend) (λ_ _=>rfl)
 |nils=>intro x C;cases C.nils_inv;exact .lnil _
 |row id n e c q im s hn H=>
  intro x C;obtain⟨g,T,rfl,F⟩:=C.row_inv;subst hn;cases im with
  |true=>exact(znV hs s F).mono (Lent.of hs lend) (λ_ _=>rfl)
  |false=>
   rcases H with H|⟨Q,H⟩;.cases H
   subst Q;obtain⟨v',L,M,r,u,ah,d,i,_,_⟩:=hs.ent _ _ s;rw[F]at M;cases M;rcases r.2 with ⟨v,J⟩|⟨b,af,ai,v,hg,hh,W,R,aj,Z⟩
   .have:q= []:=yaq J;subst this;simp only[Value.slice.injEq]at v;obtain⟨rfl,_,rfl⟩:=v;exact .lnil _
   .simp only[Value.slice.injEq]at v;obtain⟨rfl,_,rfl⟩:=v;have K:=r.cells (g:=b) rfl;have ak:q.flatten.length=q.length*c:=by rw[u.1,r.1]
    have D:b<w.heap.size:=(yba.1 hh).1;refine .lst q c b 0 T (λk j=>L.getD (k*c+j) undef) W R d i (λk j F y=> ?_) (λk j F y=> ?_);.have aa:k*c+j<q.length*c:=(by have:(k+1)*c<=q.length*c:=yat _ F;rw[ya8]at this;omega);rw[ybl];have p:k*c+j<L.length:=(by rw[r.1];exact aa);refine⟨by unfold Lent;rw[if_pos rfl];exact⟨D,rfl⟩, ?_⟩;have:=K (k*c+j) _ (yah p);rw[Addr.add_mid,ybl]at this;rw[this];simp[p]
    .have S:=d _ (yaw F);obtain⟨_,_,U,h5⟩:=zgt q k j d F (by omega);have p:k*c+j<L.length:=(by rw[u.1]at U;exact U);have hv:=u.2 (k*c+j) U p;rw[h5]at hv;have e:L.getD (k*c+j) undef=L[k*c+j]:=(by simp[p]);simp only[e];exact(hv.pure (H _ (yaw F) _ (yaw y))).mono (Lent.of hs true) (λ_ _=>rfl)
 |ptr id ab t E G s Q ag d H i ih=>
  intro x C;subst Q;obtain⟨b,rfl,F⟩:=C.ptr_inv;obtain⟨b',I,O,hb,z,u,_,_⟩:=hs.ent _ _ s;rw[F]at O;cases O;have D:b<w.heap.size:=(yba.1 z).1;have S:E.length=I.toList.length:=u.1;have:=zn8 (Im:=Lent w Im true) (w:=w) (l:=G) (b:=b) (o:=0) (vals:=λj=>I.toList.getD j undef) i (λj y=>by
   rw[ybl];refine⟨by unfold Lent;rw[if_pos rfl];exact⟨D,rfl⟩, ?_⟩;rw[cell_of_row w b j I t (0,0) z];have:j<I.size:=by rw[d]at y;simp at S;omega
   simp[this]) (λj y=>by
   have v:j<E.length:=(by omega);have J:j<I.toList.length:=(by omega);have e:I.toList.getD j undef=I.toList[j]:=(by simp at J;simp[J]);rw[e];exact ih j v y (u.2 j v J)) ab
  rwa[ybl]at this
 |fn f l l' m m' v J Q hm ad ae=>intro x C;obtain⟨vs,us,rfl,A,P⟩:=C.fn_inv;exact .fn _ _ _ _ _ (by rw[<-v,A.1]) (by rw[<-J,P.1]) (λj y B=>ad j (by omega) y (A.2 j (by omega) B)) (λj y B=>ae j (by omega) y (P.2 j (by omega) B))
 |agg l l' v i Q ih=>intro x C;obtain⟨vs,rfl,A,_⟩:=C.agg_inv;exact .agg _ _ i (by rw[<-v,A.1]) (λj y B=>ih j (by omega) y (A.2 j (by omega) B))
theorem zBW (hs:SRel base κ Im σ w){lend:Bool}{l m:List AV}(h:CoeL σ lend l m):∀{vs:List Value},VRL κ Im w l vs->IRL (Lent w Im lend) w m vs:=by
 induction h with
 |nil=>intro vs d;exact⟨d.1,λj h=>by simp at h⟩
 | @cons a b l m h hl ih=>
  intro vs d
  match vs,d.1 with
  |v::vs,_=>
   have g:=zCH hs h (d.2 0 (by simp) (by simp));have f:=ih (vs:=vs) ⟨by simpa using d.1,λj e c=>d.2 (j+1) (by simpa using e) (by simpa using c)⟩;refine⟨by simp[f.1],λj e c=> ?_⟩;cases j with
   |zero=>exact g
   |succ j=>exact f.2 j (by simpa using e) (by simpa using c)
theorem VR.none_key {κ':Key}(hk:∀i n v,κ' i n=some v->False){a:AV}{v:Value}(h:VR κ' Im w a v):IR Im w a v:=by
 have e:κ'=λ_ _=>none:=by
  funext i n;cases b:κ' i n with
  |none=>rfl
  |some v=>exact(hk _ _ _ b).elim
 subst e;exact h.empty
theorem zD2 {Im':Addr->Prop}{w':World}{r:AV}{v:Value}(h:IR Im w r v)(hr:rig r=true):IR Im' w' r v:=by
 induction h with
 |junk v=>simp[rig]at hr
 |int k n=>exact .int k n
 |bool b=>exact .bool b
 |str s=>exact .str s
 |flt k b=>exact .flt k b
 |nilp=>exact .nilp
 |rptr=>simp[rig]at hr
 |nils=>simp[rig]at hr
 |lnil _=>simp[rig]at hr
 |lst=>simp[rig]at hr
 |nilm=>exact .nilm
 |fn=>simp[rig]at hr
 |nilf=>exact .nilf
 |iface t a v h d=>exact .iface t a v (d (by simpa[rig]using hr))
 |nili=>exact .nili
 |agg c i e m p d=>simp[rig]at hr;exact .agg c i e m λj h f=>d j h f (hr _ (yaw h))
 |tup c i m p d=>simp[rig]at hr;exact .tup c i m λj h f=>d j h f (hr _ (yaw h))
 |any v=>exact .any v
 |gp g o=>exact .gp g o
 |tight l g h d=>simp[rig]at hr
theorem zz2 {f:FuncId}{args args':List AV}{R:AV->Prop}{vs:List Value}{lend:Bool}(hs:SRel base κ Im σ w)(hc:CoeL σ lend args args')(hp:PCalls P f args' R)(hv:VRL κ Im w args vs):
  Calls P f vs.toArray w λe w'=>∃r v Im',e=.returned v/\R r/\IR Im' w' r v/\(∀a,Lent w Im lend a->Im' a)/\(∀a,Im' a->Lent w Im lend a∨(w.heap.size<=a.block/\a.block<w'.heap.size/\a.spot=none))/\Below w.heap.size w w':=by
 have d:=zBW hs hc hv;have l:SRel w.heap.size (λ_ _=>none) (Lent w Im lend) [] w:=⟨yaf _,λ_ _ _ h=>by simp at h,λ_ _ h=>by simp at h,λ_ _ _ _ _ _ h=>by simp at h,λa h=>by
  unfold Lent at h;split at h;.exact h
  .exact hs.imlt a h,hs.glob.mono hs.hb (Lent.of hs lend) (λ_ _=>rfl) (λ_ _=>rfl)⟩
 refine(hp w.heap.size (λ_ _=>none) (Lent w Im lend) w vs l ⟨d.1,λj h c=> .im _ _ (d.2 j h c)⟩).mono ?_;rintro e w' ⟨r,σ',v,κ',Im',rfl,⟨rfl,o⟩,b,g,k⟩;refine⟨r,v,Im',rfl,o,k.none_key (λi n u h=>by obtain⟨e,m,_⟩:=b.dom _ _ _ h;simp at m),g.im,λa h=> ?_,g.below⟩;rcases g.new a h with c|c
 .exact .inl c
 .exact .inr ⟨c,(b.imlt a h).1,(b.imlt a h).2⟩
theorem ztX {f:FuncId}{args:List AV}{K:AV->zaa->Prop}{vs:List Value}(hs:SRel base κ Im σ w)(hv:VRL κ Im w args vs)(h:zuX P σ K f args):
  Calls P f vs.toArray w λe w'=>∃r σ' v κ' Im',e=.returned v/\K r σ'/\SRel base κ' Im' σ' w'/\Grow base κ Im w κ' Im' w'/\VR κ' Im' w' r v:=by
 rcases h with ⟨g,R,m,n,o⟩|⟨g,R,m,n,o⟩|h;.refine(zz2 hs m n hv).mono ?_;rintro e w' ⟨r,v,Im',rfl,l,d,p,q,b⟩;have j:∀a,Im a->Im' a:=λa c=>p a (by unfold Lent;simpa using c);have k:∀a,Im' a->Im a∨(w.heap.size<=a.block/\a.block<w'.heap.size/\a.spot=none):=λa c=>(q a c).imp (λh=>by unfold Lent at h;simpa using h) id;refine⟨r,σ,v,κ,Im',rfl,o r l,hs.world j k b.size b.block,⟨λ_ _ _ h=>h,j,λa c=>ya5 (b.block _ (hs.imlt a c).1),λa c=>(k a c).imp id (λh=>ybu hs.hb h.1),b.mono hs.hb⟩,.im _ _ d⟩
 .refine(zz2 hs m n hv).mono ?_;rintro e w' ⟨r,v,Im',rfl,l,d,p,q,b⟩;obtain⟨i,s⟩:=o r l;refine⟨r,σ,v,κ,Im,rfl,s,hs.world (λ_ h=>h) (λ_ h=> .inl h) b.size b.block,⟨λ_ _ _ h=>h,λ_ h=>h,λa c=>ya5 (b.block _ (hs.imlt a c).1),λ_ h=> .inl h,b.mono hs.hb⟩,.im _ _ (zD2 d i)⟩
 .exact h base κ Im w vs hs hv
theorem zqy {f:FuncId}(h:zaL P f=true)(args:Array Value)(w:World):(callFunc f args).run P w=.ok (.enter f args) w:=by
 unfold zaL at h;split at h;.rename_i d b;simp only[yb5,bne_iff_ne,ne_eq]at h;obtain⟨c,a⟩:=Option.isSome_iff_exists.1 h.1;simp[callFunc,b,h.2,a]
 .cases h
theorem zrl {f:FuncId}{args:List AV}{K:AV->zaa->Prop}(h:zvA P σ K f args):zuX P σ K f args:=by
 obtain⟨b,a,r,d,e,i,g⟩:=h;cases b with
 |true=>exact .inr (.inl ⟨a,λc=>c=r,d,e,λc h=>by subst h;exact⟨i rfl,g⟩⟩)
 |false=>exact .inl ⟨a,λc=>c=r,d,e,λc h=>by subst h;exact g⟩
theorem zt5 {loud:List FuncId}{K:AV->zaa->Prop}{f:Frame}{ao:AOp}(h:zat P K f σ (zuf loud ao)):zat P K f σ ao:=by
 cases ao<;>try exact h
 case call g b=>
  simp only[zuf]at h;split at h;.exact h
  .exact zrl h
 case callv x b=>
  simp only[zuf,zat]at h⊢;split
  .rename_i g first a c
   rw[c]at h;exact⟨h.1,zrl h.2⟩
  .rename_i d;split at h
   .rename_i g first a c
    exact absurd c (d _ _ _)
   .exact h
theorem zo8 {o:Oper}{ao:AOp}{f:Frame}{a:Act}{K:AV->zaa->Prop}{next:Act->World->Prop}{Q:Exit->Act->World->Prop}(hok:∀r,zaw σ f ao=some r->zjX P κ Im w o a r)(hs:SRel base κ Im σ w)(hf:FRel κ Im w f a)
  (h:∃r,zaw σ f ao=some r/\K r σ)
  (hnext:∀r σ' κ' Im' v w',K r σ'->VR κ' Im' w' r v->SRel base κ' Im' σ' w'->Grow base κ Im w κ' Im' w'->next (a.put o.dst v) w'):o.wp P a w next Q:=by
 obtain⟨r,c,d⟩:=h;obtain⟨v,b,e⟩:=hok _ c;unfold Oper.wp;rw[b];exact hnext r σ κ Im v w d e hs (Grow.refl _ _ _ _)
theorem zbs {o:Oper}{a:Act}{K:AV->zaa->Prop}{next:Act->World->Prop}{Q:Exit->Act->World->Prop}(h:zfr P base κ Im w o a K)
  (hnext:∀r σ' κ' Im' v w',K r σ'->VR κ' Im' w' r v->SRel base κ' Im' σ' w'->Grow base κ Im w κ' Im' w'->next (a.put o.dst v) w'):o.wp P a w next Q:=by
 obtain⟨v,w',κ',Im',r,σ',b,d,e,c,f⟩:=h;unfold Oper.wp;rcases b with b|⟨b,rfl⟩<;>rw[b]
 .exact hnext r σ' κ' Im' v w' d e c f
 .exact hnext r σ' κ' Im' undef w' d e c f
theorem ztp {o:Oper}{a:Act}{g:FuncId}{args:List AV}{vs:List Value}{K:AV->zaa->Prop}{next:Act->World->Prop}{Q:Exit->Act->World->Prop}(hrun:(execOp a.eval o).run P w=.ok (.enter g vs.toArray) w)(hs:SRel base κ Im σ w)(hv:VRL κ Im w args vs)(h:zuX P σ K g args)
  (hnext:∀r σ' κ' Im' v w',K r σ'->VR κ' Im' w' r v->SRel base κ' Im' σ' w'->Grow base κ Im w κ' Im' w'->next (a.put o.dst v) w'):o.wp P a w next Q:=by
 unfold Oper.wp;rw[hrun];refine(ztX hs hv h).mono ?_;rintro e w' ⟨r,σ',v,κ',Im',rfl,d,b,f,c⟩;exact hnext r σ' κ' Im' v w' d c b f
theorem zCW {o:Oper}{ao:AOp}{f:Frame}{a:Act}{K:AV->zaa->Prop}{next:Act->World->Prop}{Q:Exit->Act->World->Prop}(hc:znU P o=some ao)(hs:SRel base κ Im σ w)(hf:FRel κ Im w f a)
  (h:zat P K f σ ao)
  (hnext:∀r σ' κ' Im' v w',K r σ'->VR κ' Im' w' r v->SRel base κ' Im' σ' w'->Grow base κ Im w κ' Im' w'->next (a.put o.dst v) w'):o.wp P a w next Q:=by
 have L:=hc;unfold znU at hc;split at hc
 case h_4 t q=>simp only[yae]at hc;obtain⟨z,D,rfl⟩:=hc;exact zbs (z3L q D hs h) hnext
 case h_5 t x q=>simp only[yae]at hc;obtain⟨M,O,rfl⟩:=hc;exact zbs (zBD q O hs hf h.1 h.2) hnext
 case h_7 t n parts q=>
  split at hc
  case h_2=>cases hc
  rename_i e C;simp only[yak,yac,yau]at hc;obtain⟨p,u,z,D,hc⟩:=hc;split at hc
  case isFalse=>cases hc
  rename_i d;simp only[yac,yab]at hc;obtain⟨ps,R,rfl⟩:=hc;exact zbs (z5u q C u D d.1 d.2.1 d.2.2 R hs hf h) hnext
 case h_9 t x v q=>simp only[yak,yac,yau,yab]at hc;obtain⟨p,u,M,O,v',hv,rfl⟩:=hc;obtain⟨σ',S,T,h3,h4⟩:=h;exact zbs (z6f q u O hv hs hf S T h3 h4) hnext
 case h_17 t l c q=>
  split at hc
  case h_2=>cases hc
  rename_i e C;simp only[yak,yac,yau]at hc;obtain⟨i,I,z,D,hc⟩:=hc;split at hc
  case isFalse=>cases hc
  rename_i d;simp only[yac,yab]at hc;obtain⟨l',hl,c',U,rfl⟩:=hc;exact zbs (zyn q C I D d.1 d.2 hl U hs hf h) hnext
 case h_24 c q=>
  split at hc
  .rename_i g k;split at hc
   case h_2=>cases hc
   split at hc
   case isFalse=>cases hc
   rename_i W;simp only[yak,yac,yau,yab]at hc;obtain⟨E,j,rfl⟩:=hc;refine ztp (g:=g) ?_ hs (zj8 (κ:=κ) (Im:=Im) (w:=w) hf j) h hnext;have m:c.args.map a.eval=(c.args.toList.map a.eval).toArray:=zfj (by rw[ydf]);simp only[execOp,q,resolve,k,Act.eval,Deferred.ofValue,ya0,ya6,yas,invoke,Array.empty_append,Array.append_empty];rw[zqy W,<-m]
  .rename_i t k;simp only[yak,yac,yau,yab]at hc;obtain⟨E,j,rfl⟩:=hc;simp only[zat,ev_s]at h;split at h
   case h_2=>exact h.elim
   rename_i g first H he
   obtain⟨W,h⟩:=h;have C:=hf t;rw[he]at C;obtain⟨vs,us,J,S,T⟩:=C.fn_inv;refine ztp (g:=g) (vs:=vs++c.args.toList.map a.eval++us) ?_ hs ((S.append (zj8 (κ:=κ) (Im:=Im) (w:=w) hf j)).append T) h hnext;have m:c.args.map a.eval=(c.args.toList.map a.eval).toArray:=zfj (by rw[ydf]);have Z:a.eval (.tmp t)=.func (.func g) vs.toArray us.toArray:=J;simp only[execOp,q,resolve,k,Z,Deferred.ofValue,ya0,ya6,yas,invoke];rw[zqy W];congr 2;rw[m];simp
  .rename_i b k;simp only[yak,yac]at hc;obtain⟨E,j,hc⟩:=hc;by_cases F:∃e p A x y,ao=.app e p A x y
   .obtain⟨e,p,A,x,y,rfl⟩:=F;unfold zdV at hc;split at hc
    ·(repeat' (split at hc))<;>simp at hc
    .simp at hc
    .simp at hc
    .rename_i s t' M y' G;split at hc
     case isFalse=>(repeat' (split at hc))<;>simp at hc
     rename_i Y;subst Y;split at hc
     case h_2=>cases hc
     rename_i e' C;split at hc
     case h_2=>cases hc
     rename_i i I;split at hc
     case h_2=>cases hc
     rename_i z D;split at hc
     case isFalse=>cases hc
     rename_i d;simp only[yab,AOp.app.injEq]at hc;obtain⟨rfl,u,X,rfl,rfl⟩:=hc;exact zbs (zCc q k G j C I D d.1 d.2 u X hs hf h) hnext
    .cases hc
   .by_cases B:∃e x y,ao=.apps e x y
    .obtain⟨e,x,y,rfl⟩:=B;unfold zdV at hc;split at hc
     ·(repeat' (split at hc))<;>simp at hc
     .simp at hc
     .simp at hc
     .rename_i s t' M y' G;split at hc
      case isTrue=>(repeat' (split at hc))<;>simp at hc
      split at hc
      case h_2=>cases hc
      rename_i e' C hu;split at hc
      case h_2=>cases hc
      rename_i i I;split at hc
      case h_2=>cases hc
      rename_i D;split at hc
      case isFalse=>cases hc
      rename_i d;simp only[yab,AOp.apps.injEq]at hc;obtain⟨rfl,rfl,rfl⟩:=hc;exact zbs (z7l q k G j C hu I D d.1 d.2 hs hf h) hnext
     .cases hc
    refine zo8 (λ_=>zwb L hs hf) hs hf ?_ hnext;unfold zdV at hc;split at hc
    ·(repeat' (split at hc))<;>first
      |(cases hc;done)
      |(simp only[yab]at hc;subst hc;exact h)
    .simp only[yab]at hc;subst hc;exact h
    .simp only[yab]at hc;subst hc;exact h
    ·(repeat' (split at hc))<;>first
      |(cases hc;done)
      |(simp only[yab]at hc;exact(B ⟨_,_,_,hc.symm⟩).elim)
      |(simp only[yab]at hc;exact(F ⟨_,_,_,_,_,hc.symm⟩).elim)
    .cases hc
  .cases hc
 case h_25=>cases hc
 all_goals
  refine zo8 (λ_=>zwb L hs hf) hs hf ?_ hnext
  (repeat' (split at hc))<;>first
   |(cases hc;done)
   |(simp only[yak,yac,yae,yau,yab]at hc
     first
      |(obtain⟨_,_,rfl⟩:=hc;exact h)
      |(obtain⟨_,_,_,_,rfl⟩:=hc;exact h)
      |(obtain⟨_,_,_,_,_,_,rfl⟩:=hc;exact h)
      |(obtain⟨_,_,_,_,_,_,_,_,rfl⟩:=hc;exact h)
      |(obtain⟨_,_,_,_,hc⟩:=hc;split at hc<;>first
        |(cases hc;done)
        |(simp only[yac,yab]at hc;obtain⟨_,_,rfl⟩:=hc;exact h)))
theorem zDt {o:Oper}{ao:AOp}{f:Frame}{a:Act}{K:AV->zaa->Prop}{next:Act->World->Prop}{Q:Exit->Act->World->Prop}(hc:zzt P o=some ao)(hs:SRel base κ Im σ w)(hf:FRel κ Im w f a)
  (h:zat P K f σ ao)
  (hnext:∀r σ' κ' Im' v w',K r σ'->VR κ' Im' w' r v->SRel base κ' Im' σ' w'->Grow base κ Im w κ' Im' w'->next (a.put o.dst v) w'):o.wp P a w next Q:=by
 have aa:=hc;have d:(∃r,zaw σ f ao=some r/\K r σ)->o.wp P a w next Q:=λh=>zo8 (λ_=>z8m aa hs hf) hs hf h hnext
 unfold zzt at hc;split at hc
 case h_1 op t x y yt j=>
  split at hc
  .rename_i k n z hn;simp only[yae]at hc;obtain⟨z',O,hc⟩:=hc;split at hc
   .rename_i X;subst X hc;obtain⟨b,hb,l⟩:=zBS (K:=K) (neg:=n) h (zav O hf);have L:=z3t (P:=P) (w:=w) hn hb;unfold Oper.wp;have he:(execOp a.eval o).run P w=.ok (.value (.bool (if n then !b else b))) w:=by simp only[execOp,j];rw[ya0];simp only[L,yas,ya6]
    rw[he];exact hnext _ σ κ Im _ w l (.im _ _ (.bool _)) hs (Grow.refl _ _ _ _)
   .subst hc;exact d h
  .split at hc
   case h_2=>cases hc
   split at hc<;>first
    |(cases hc;done)
    |(simp only[yak,yac,yau,yab]at hc
      obtain⟨_,_,_,_,rfl⟩:=hc;exact d h)
 case h_2=>simp only[yae]at hc;obtain⟨_,_,rfl⟩:=hc;exact d h
 case h_3 s t x j=>
  split at hc
  .rename_i e Y Z;split at hc
   case h_2=>cases hc
   rename_i he;simp only[yae]at hc;obtain⟨F,q,rfl⟩:=hc;obtain⟨r,hr,l⟩:=h;exact zbs (zxN j Y Z he q hs hf hr l) hnext
  .split at hc
   case h_2=>cases hc
   split at hc
   case isFalse=>cases hc
   simp only[yae]at hc;obtain⟨_,_,rfl⟩:=hc;exact d h
  .cases hc
 case h_4=>
  split at hc
  case h_2=>cases hc
  simp only[yak,yac,yau]at hc;obtain⟨_,_,hc⟩:=hc;split at hc
  case isFalse=>cases hc
  simp only[yac,yab]at hc;obtain⟨_,_,_,_,_,_,rfl⟩:=hc;exact d h
 case h_5 j=>simp only[yab]at hc;subst hc;obtain⟨r,σ',⟨rfl,rfl⟩,l⟩:=h;exact zbs (z6A j hs l) hnext
 case h_6 t m k v j=>
  split at hc
  case h_2=>cases hc
  rename_i kt e B;simp only[yak,yac,yau,yab]at hc;obtain⟨E,G,m',R,k',u,v',S,rfl⟩:=hc;obtain⟨r,σ',⟨rfl,id,kv,T,A,H,I,U,W,rfl⟩,l⟩:=h;exact zbs (z0g (.inl j) B G R u S hs hf A H I U W l) hnext
 case h_7 t m k v j=>
  split at hc
  case h_2=>cases hc
  rename_i kt e B;simp only[yak,yac,yau,yab]at hc;obtain⟨E,G,m',R,k',u,v',S,rfl⟩:=hc;obtain⟨r,σ',⟨rfl,id,kv,T,A,H,I,U,W,rfl⟩,l⟩:=h;exact zbs (z0g (.inr j) B G R u S hs hf A H I U W l) hnext
 case h_8=>
  split at hc
  case h_2=>cases hc
  simp only[yak,yac,yau,yab]at hc;obtain⟨_,_,_,_,_,_,_,_,_,_,_,_,rfl⟩:=hc;exact d h
 case h_9 c j=>
  split at hc
  .split at hc
   case h_2=>cases hc
   split at hc
   case h_2=>cases hc
   simp only[yae]at hc;obtain⟨_,_,rfl⟩:=hc;exact d h
  .rename_i p;split at hc
   case h_2=>cases hc
   rename_i t s x y C g;split at hc
   case h_2=>cases hc
   rename_i e B;simp only[yak,yac,yau]at hc;obtain⟨i,M,hc⟩:=hc;split at hc
   case isFalse=>cases hc
   rename_i J;simp only[yac,yab]at hc;obtain⟨F,q,y',hy,rfl⟩:=hc;obtain⟨r,σ',⟨m,k,A,H,_,I,rfl⟩,l⟩:=h;exact zbs (zAF j p C g B M J q hy hs hf A H I l) hnext
  .rename_i p;split at hc
   case h_2=>cases hc
   rename_i t x C g;split at hc
   case h_2=>cases hc
   rename_i e B;simp only[yak,yac,yau]at hc;obtain⟨i,M,z,O,hc⟩:=hc;split at hc
   case isFalse=>cases hc
   rename_i D;simp only[yac,yab]at hc;obtain⟨F,q,rfl⟩:=hc;obtain⟨r,σ',⟨rfl,A⟩,l⟩:=h;exact zbs (zCy j p C g B M O D.1 D.2 q hs hf A l) hnext
  .rename_i p;split at hc
   case h_2=>cases hc
   rename_i t t2 x k C g;split at hc
   case h_2=>cases hc
   rename_i kt e B;simp only[yak,yac,yau,yab]at hc;obtain⟨E,G,F,q,k',u,rfl⟩:=hc;obtain⟨r,σ',⟨rfl,A⟩,l⟩:=h;exact zbs (z7u j p C g B G q u hs hf A l) hnext
  .split at hc
   case h_2=>cases hc
   split at hc
   case isFalse=>cases hc
   split at hc
   case h_2=>cases hc
   simp only[yak,yac,yau,yab]at hc;obtain⟨_,_,_,_,_,_,rfl⟩:=hc;exact d h
  .cases hc
 case h_10 t x M mx j=>
  split at hc
  case h_2=>cases hc
  simp only[yak,yac,yau,yab]at hc;obtain⟨_,_,_,_,_,_,_,_,rfl⟩:=hc;exact d h
 case h_11 t x j=>
  split at hc
  case h_2=>cases hc
  rename_i kt e B;simp only[yae]at hc;obtain⟨F,q,rfl⟩:=hc;obtain⟨r,σ',⟨rfl,A⟩,l⟩:=h;exact zbs (zAT j B q hs hf A l) hnext
 case h_12 x j=>simp only[yae]at hc;obtain⟨F,q,rfl⟩:=hc;exact zbs (zBR j q hs hf h) hnext
 case h_13 x j=>simp only[yae]at hc;obtain⟨F,q,rfl⟩:=hc;exact d h
 case h_14=>cases hc
theorem zDK {o:Oper}{ao:AOp}{f:Frame}{a:Act}{K:AV->zaa->Prop}{next:Act->World->Prop}{Q:Exit->Act->World->Prop}(hc:zwk P o=some ao)(hs:SRel base κ Im σ w)(hf:FRel κ Im w f a)
  (h:zat P K f σ ao)
  (hnext:∀r σ' κ' Im' v w',K r σ'->VR κ' Im' w' r v->SRel base κ' Im' σ' w'->Grow base κ Im w κ' Im' w'->next (a.put o.dst v) w'):o.wp P a w next Q:=by
 unfold zwk at hc;split at hc;.rename_i c b;simp only[yab]at hc;subst hc;exact zCW b hs hf h hnext
 .exact zDt hc hs hf h hnext
theorem zzi {o:Oper}{e s n:Nat}{z:List AV}{ps:List (Nat×Opd)}(hc:zzt P o=some (.mklst e s z n ps)):False:=by
 unfold zzt at hc;revert hc
 repeat' split
 all_goals simp[yac]
theorem z3F {loud:List FuncId}{o:Oper}{ao:AOp}{f:Frame}{a:Act}{K:AV->zaa->Prop}{next:Act->World->Prop}{Q:Exit->Act->World->Prop}(hc:zwk P o=some ao)(hs:SRel base κ Im σ w)(hf:FRel κ Im w f a)
  (h:zat P K f σ (z8J loud ao))
  (hnext:∀r σ' κ' Im' v w',K r σ'->VR κ' Im' w' r v->SRel base κ' Im' σ' w'->Grow base κ Im w κ' Im' w'->next (a.put o.dst v) w'):o.wp P a w next Q:=by
 unfold z8J at h;split at h
 case h_2=>exact zDK hc hs hf h hnext
 rename_i e c z n s;split at h
 case isFalse=>exact zDK hc hs hf h hnext
 have m:=hc;unfold zwk at hc;split at hc
 case h_2=>exact(zzi hc).elim
 rename_i u i;simp only[yab]at hc;subst hc;have hc:=i;unfold znU at hc;split at hc
 case h_7 t y parts p=>
  split at hc
  case h_2=>cases hc
  rename_i x l;simp only[yak,yac,yau]at hc;obtain⟨c,d,z,j,hc⟩:=hc;split at hc
  case isFalse=>cases hc
  rename_i b;simp only[yac,yab]at hc;obtain⟨k,g,hc⟩:=hc;simp only[AOp.mklst.injEq]at hc;obtain⟨rfl,rfl,rfl,rfl,rfl⟩:=hc;exact zbs (z30 p l d j b.1 b.2.1 b.2.2 g hs hf h) hnext
 case h_24=>
  exfalso;split at hc<;>try (simp at hc;done)
  .split at hc<;>try (simp at hc;done)
   split at hc<;>simp[yac]at hc
  .simp[yac]at hc
  .simp only[yak,yac]at hc;obtain⟨q,_,hc⟩:=hc;unfold zdV at hc;split at hc<;>(repeat' split at hc)<;>simp at hc
 all_goals
  exfalso;revert hc
  repeat' split
  all_goals simp[yac]
end
section
variable {P:Program}
def NEv [Globs](P:Program)(f:Frame)(σ:zaa)(r:AV):AOp->Prop
 | .qcall fn args=>∃(lend:Bool) (args':List AV),CoeL σ lend (args.map (·.ev f)) args'/\PCalls P fn args' (λr'=>r'=r)/\(lend=true->rig r=true)
 | .qcallv x args=>match x.ev f with
  | .fn (.func g) first captured=>zaL P g=true/\∃(lend:Bool) (args':List AV),CoeL σ lend (first++args.map (·.ev f)++captured) args'/\PCalls P g args' (λr'=>r'=r)/\(lend=true->rig r=true)
  |_=>False
 | .mklst _ size zero n parts=>∃ps,(parts.mapM λ(p:Nat×Opd)=>(share σ (p.2.ev f)).bind λv=>if v.cells.length=size/\v.cells.all AV.one then some (p.1*size,v.cells)else none)=some ps/\r=.lst (zaY n size (lay (List.replicate n zero).flatten ps))
 | .tobytes x=>zia (x.ev f)=some r
 |o=>zaw σ f o=some r
theorem zzR {o:AOp}{K:AV->zaa->Prop}{f:Frame}{σ:zaa}(hn:o.neutral=true)(h:zat P K f σ o):∃r,NEv P f σ r o/\K r σ:=by
 cases o<;>first|(simp[AOp.neutral]at hn;done)|skip
 case qcall t j=>obtain⟨b,a,r,d,i,k,l⟩:=h;exact⟨r,⟨b,a,d,i,k⟩,l⟩
 case qcallv x j=>
  simp only[zat]at h;split at h
  .rename_i g first c s
   obtain⟨p,b,a,r,d,i,k,l⟩:=h;exact⟨r,by simp only[NEv,s];exact⟨p,b,a,d,i,k⟩,l⟩
  .exact h.elim
 case mklst e m zero n parts=>obtain⟨q,d,i⟩:=h;exact⟨_,⟨q,d,rfl⟩,i⟩
 all_goals exact h
theorem z0e {o:AOp}{K:AV->zaa->Prop}{f:Frame}{σ:zaa}{r:AV}(hn:o.neutral=true)(h:NEv P f σ r o)(hK:K r σ):zat P K f σ o:=by
 cases o<;>first|(simp[AOp.neutral]at hn;done)|skip
 case qcall s i=>obtain⟨b,a,d,j,k⟩:=h;exact⟨b,a,r,d,j,k,hK⟩
 case qcallv x i=>
  simp only[NEv]at h;simp only[zat];split at h
  .rename_i g first c q
   simp only[q];obtain⟨m,b,a,d,j,k⟩:=h;exact⟨m,b,a,r,d,j,k,hK⟩
  .exact h.elim
 case mklst e l zero n parts=>obtain⟨p,d,rfl⟩:=h;exact⟨p,d,hK⟩
 all_goals exact⟨r,h,hK⟩
theorem zan {x:Opd}{f f':Frame}(h:∀t∈x.slots,f t=f' t):x.ev f=x.ev f':=by
 cases x with
 |s t=>exact h t (by simp[Opd.slots])
 |c v=>rfl
theorem zhL {l:List Opd}{f f':Frame}(h:∀t∈l.flatMap Opd.slots,f t=f' t):l.map (·.ev f)=l.map (·.ev f'):=by apply yd3;intro x b;exact zan λt a=>h t (ydn.2 ⟨x,b,a⟩)
theorem zhQ {l:Option Opd}{f f':Frame}(h:∀t∈l.toList.flatMap Opd.slots,f t=f' t):l.map (·.ev f)=l.map (·.ev f'):=by
 cases l with
 |none=>rfl
 |some x=>simp only[Option.map_some];rw[zan λt a=>h t (by simpa using a)]
theorem zkg {α β:Type}{g g':α->Option β}:∀{l:List α},(∀a∈l,g a=g' a)->l.mapM g=l.mapM g'
 | [],_=>rfl
 |a::l,h=>by rw[ych,ych,h a (by simp),zkg λb c=>h b (by simp[c])]
theorem zye {o:XOp}{σ:zaa}{f f':Frame}(h:∀t∈o.reads,f t=f' t):ziY σ f o=ziY σ f' o:=by
 cases o<;>simp only[XOp.reads,yai]at h<;>simp only[ziY]
 case look d zero k x y=>rw[zan (x:=x) λt a=>h t (.inl a),zan (x:=y) λt a=>h t (.inr a)]
 case bit m x y=>rw[zan (x:=x) λt a=>h t (.inl a),zan (x:=y) λt a=>h t (.inr a)]
 case cry x y z=>rw[zan (x:=x) λt a=>h t (.inl (.inl a)),zan (x:=y) λt a=>h t (.inl (.inr a)),zan (x:=z) λt a=>h t (.inr a)]
 case aslc e b x g c=>rw[zan (x:=x) λt a=>h t (.inl (.inl a)),zhQ (l:=g) λt a=>h t (.inl (.inr a)),zhQ (l:=c) λt a=>h t (.inr a)]
 case iload n b x=>rw[zan (x:=x) λt a=>h t a]
 case sl3 b x c j=>rw[zan (x:=x) λt a=>h t (.inl (.inl a)),zan (x:=c) λt a=>h t (.inl (.inr a)),zan (x:=j) λt a=>h t (.inr a)]
 case iidx b x i=>rw[zan (x:=x) λt a=>h t (.inl a),zan (x:=i) λt a=>h t (.inr a)]
 all_goals (rename_i x;rw[zan (x:=x) λt a=>h t a])
theorem zyY {o:AOp}{σ:zaa}{f f':Frame}(h:∀t∈o.reads,f t=f' t):zaw σ f o=zaw σ f' o:=by
 cases o<;>simp only[AOp.reads,yai]at h<;>simp only[zaw]
 case px o=>exact zye h
 case build zero k=>congr 1;exact zkg λp j=>by rw[zan (x:=p.2.2) λt d=>h t (ydn.2 ⟨p,j,d⟩)]
 case mkfn n l m=>rw[zhL λt d=>h t (.inl d),zhL λt d=>h t (.inr d)]
 case sslc x e g=>rw[zan (x:=x) λt d=>h t (.inl (.inl d)),zhQ (l:=e) λt d=>h t (.inl (.inr d)),zhQ (l:=g) λt d=>h t (.inr d)]
 case slc i x e g=>rw[zan (x:=x) λt d=>h t (.inl (.inl d)),zhQ (l:=e) λt d=>h t (.inl (.inr d)),zhQ (l:=g) λt d=>h t (.inr d)]
 case pick c a b=>rw[zan (x:=c) λt d=>h t (.inl (.inl d)),zan (x:=a) λt d=>h t (.inl (.inr d)),zan (x:=b) λt d=>h t (.inr d)]
 all_goals first
  |rfl
  |(rename_i x y;rw[zan (x:=x) λt d=>h t (.inl d),zan (x:=y) λt d=>h t (.inr d)])
  |(rename_i x;rw[zan (x:=x) λt d=>h t d])
  |(rename_i x _;rw[zan (x:=x) λt d=>h t d])
theorem zlw {o:AOp}{K:AV->zaa->Prop}{σ:zaa}{f f':Frame}(h:∀t∈o.reads,f t=f' t)(h0:zat P K f σ o):zat P K f' σ o:=by
 have i:=zyY (G:=G) (σ:=σ) h;cases o<;>simp only[AOp.reads,yai]at h
 case alloc=>exact h0
 case box t x=>simp only[zat]at h0⊢;rwa[<-zan (x:=x) h]
 case store n x y=>simp only[zat]at h0⊢;rwa[<-zan (x:=x) λt a=>h t (.inl a),<-zan (x:=y) λt a=>h t (.inr a)]
 case mkslice e s b z x y=>simp only[zat]at h0⊢;rwa[<-zan (x:=x) λt a=>h t (.inl a),<-zan (x:=y) λt a=>h t (.inr a)]
 case mklst e c zero n q=>simp only[zat]at h0⊢;obtain⟨m,d,g⟩:=h0;refine⟨m, ?_,g⟩;rw[<-d];exact zkg λp i=>by rw[zan (x:=p.2) λt a=>h t (ydn.2 ⟨p,i,a⟩)]
 case mkrow e c zero n q=>simp only[zat]at h0⊢;obtain⟨m,d,g⟩:=h0;refine⟨m, ?_,g⟩;rw[<-d];exact zkg λp i=>by rw[zan (x:=p.2) λt a=>h t (ydn.2 ⟨p,i,a⟩)]
 case app e s b x y=>simp only[zat]at h0⊢;rwa[<-zan (x:=x) λt a=>h t (.inl a),<-zan (x:=y) λt a=>h t (.inr a)]
 case apps e x y=>simp only[zat]at h0⊢;rwa[<-zan (x:=x) λt a=>h t (.inl a),<-zan (x:=y) λt a=>h t (.inr a)]
 case call u l=>simp only[zat]at h0⊢;rwa[<-zhL h]
 case qcall u l=>simp only[zat]at h0⊢;rwa[<-zhL h]
 case callv x l=>simp only[zat]at h0⊢;rwa[<-zan (x:=x) λt a=>h t (.inl a),<-zhL (l:=l) λt a=>h t (.inr a)]
 case qcallv x l=>simp only[zat]at h0⊢;rwa[<-zan (x:=x) λt a=>h t (.inl a),<-zhL (l:=l) λt a=>h t (.inr a)]
 case tobytes x=>simp only[zat]at h0⊢;rwa[<-zan (x:=x) h]
 case ex o=>
  obtain⟨r,σ',d,g⟩:=h0;refine⟨r,σ', ?_,g⟩;cases o<;>simp only[EOp.reads,yai]at h<;>simp only[zCG]at d⊢
  case mkmap=>exact d
  case mset j x k v=>rwa[<-zan (x:=x) λt a=>h t (.inl (.inl a)),<-zan (x:=k) λt a=>h t (.inl (.inr a)),<-zan (x:=v) λt a=>h t (.inr a)]
  case clr c z x=>rwa[<-zan (x:=x) h]
  case cpy c x y=>rwa[<-zan (x:=x) λt a=>h t (.inl a),<-zan (x:=y) λt a=>h t (.inr a)]
  case mdel j x k=>rwa[<-zan (x:=x) λt a=>h t (.inl a),<-zan (x:=k) λt a=>h t (.inr a)]
  case rng x=>rwa[<-zan (x:=x) h]
 case nlc neg x=>simp only[zat]at h0⊢;rwa[<-zan (x:=x) h]
 case nxt x=>simp only[zat]at h0⊢;rwa[<-zan (x:=x) h]
 case apt e s b x y=>simp only[zat]at h0⊢;rwa[<-zan (x:=x) λt a=>h t (.inl a),<-zan (x:=y) λt a=>h t (.inr a)]
 case bad=>exact h0.elim
 all_goals
  obtain⟨r,d,g⟩:=h0;exact⟨r,by rw[<-i];exact d,g⟩
theorem z63 {o:AOp}{σ:zaa}{f f':Frame}{r:AV}(hn:o.neutral=true)(h:∀t∈o.reads,f t=f' t)(h0:NEv P f σ r o):NEv P f' σ r o:=by have c:=zlw (P:=P) h (z0e (K:=λa _=>a=r) hn h0 rfl);obtain⟨a,b,rfl⟩:=zzR hn c;exact b
theorem z5e {o:AOp}{σ σ':zaa}{f:Frame}{r:AV}(hb:o.blind=true)(h:NEv P f σ r o):NEv P f σ' r o:=by
 cases o<;>first|(simp[AOp.blind]at hb;done)|exact h|skip
 rename_i o;cases o<;>first|(simp[AOp.blind]at hb;done)|exact h
theorem zdK {α:Type}{l:List α}{e a:α}{i:Nat}(h:l[i]? =some a):(l++ [e])[i]? =some a:=by rw[yap (yaa.1 h).1];exact h
theorem ziI {σ:zaa}{e:Entry}{X r:AV}(h:zfJ σ X=some r):zfJ (σ++ [e]) X=some r:=by
 unfold zfJ at h⊢;split at h
 .split at h
  case h_2=>cases h
  rename_i a;simp only[zdK a];exact h
 .exact h
 .exact h
theorem zjj {α β:Type}{g g':α->Option β}(hg:∀a b,g a=some b->g' a=some b):∀{l:List α} {m:List β},l.mapM g=some m->l.mapM g'=some m
 | [],m,h=>by simpa using h
 |a::l,m,h=>by rw[ych]at h⊢;simp only[yak,yac,yau,yab]at h⊢;obtain⟨b,d,e,c,rfl⟩:=h;exact⟨b,hg _ _ d,e,zjj hg c,rfl⟩
theorem z1i {σ:zaa}{e:Entry}{X r:AV}(h:share σ X=some r):share (σ++ [e]) X=some r:=by
 unfold share at h⊢;split at h;.simp only[yae]at h⊢;obtain⟨m,d,rfl⟩:=h;exact⟨m,zjj (λ_ _=>ziI) d,rfl⟩
 .simp only[yae]at h⊢;obtain⟨m,d,rfl⟩:=h;refine⟨m,zjj (λa b c=> ?_) d,rfl⟩;split at c;.simp only[yae]at c⊢;obtain⟨g,f,rfl⟩:=c;exact⟨g,zjj (λ_ _=>ziI) f,rfl⟩
  .exact ziI c
 .exact ziI h
theorem z8P {σ:zaa}{e:Entry}{lend:Bool}{X Y:AV}(h:Coe σ lend X Y):Coe (σ++ [e]) lend X Y:=by
 induction h with
 |pure a k=>exact .pure a k
 |nils=>exact .nils
 |row id n y g o z p A k=>exact .row id n y g o z (zdK p) A k
 |ptr id q t d c p r i j k b s=>exact .ptr id q t d c (zdK p) r i j s b
 |fn f l u m B v C r D w x=>exact .fn f l u m B v C w x
 |agg l u v b r s=>exact .agg l u v b s
theorem zw4 {σ:zaa}{e:Entry}{lend:Bool}{l m:List AV}(h:CoeL σ lend l m):CoeL (σ++ [e]) lend l m:=by
 induction h with
 |nil=>exact .nil
 |cons h b a=>exact .cons (z8P h) a
theorem zvt {σ:zaa}{e:Entry}{X:AV}{n:Nat}{l:List AV}(h:zbz σ X n=some l):zbz (σ++ [e]) X n=some l:=by
 cases X<;>simp only[zbz]at h⊢<;>first
  |exact h
  |(split at h
    .rename_i a;simp only[zdK a];exact h
    .cases h)
theorem zxw {σ:zaa}{e:Entry}{X:AV}{l:List (List AV)}(h:view σ X=some l):view (σ++ [e]) X=some l:=by
 cases X<;>simp only[view]at h⊢<;>first
  |exact h
  |(split at h
    .rename_i a;simp only[zdK a];exact h
    .cases h)
theorem zpn {σ:zaa}{e:Entry}{X:AV}{kv:List (AV×AV)}(h:ziy σ X=some kv):ziy (σ++ [e]) X=some kv:=by
 unfold ziy at h⊢;split at h;.exact h
 .split at h;.rename_i a;simp only[zdK a];exact h
  .cases h
 .cases h
theorem z2s {o:XOp}{σ:zaa}{e:Entry}{f:Frame}{r:AV}(h:ziY σ f o=some r):ziY (σ++ [e]) f o=some r:=by
 cases o<;>simp only[ziY]at h⊢<;>try exact h
 case tostr x=>simp only[yae,yac]at h⊢;obtain⟨s,⟨l,a,j⟩,b⟩:=h;exact⟨s,⟨l,zxw a,j⟩,b⟩
 case look g zero n x k=>simp only[yac]at h⊢;obtain⟨l,a,b⟩:=h;exact⟨l,zpn a,b⟩
 case mlen x=>simp only[yae]at h⊢;obtain⟨l,a,b⟩:=h;exact⟨l,zpn a,b⟩
 case sl3 i x p q=>
  unfold zze at h⊢;split at h
  case h_2=>cases h
  split at h
  case isFalse=>cases h
  rename_i c;rw[if_pos c];split at h;.exact h
  .exact h
  .split at h
   case h_2=>cases h
   rename_i d;simp only[zdK d];exact h
  .cases h
 case ient x=>
  unfold zy6 at h⊢;split at h
  case h_2=>cases h
  split at h
  case h_2=>cases h
  rename_i d;split at h
  case h_2=>cases h
  rename_i m;simp only[zdK d,zdK m];exact h
theorem z0Y {o:AOp}{σ:zaa}{e:Entry}{f:Frame}{r:AV}(h:zaw σ f o=some r):zaw (σ++ [e]) f o=some r:=by
 cases o<;>simp only[zaw]at h⊢<;>try exact h
 case load g a x=>simp only[yac]at h⊢;obtain⟨l,c,d⟩:=h;exact⟨l,zvt c,d⟩
 case len x=>simp only[yae]at h⊢;obtain⟨l,c,d⟩:=h;exact⟨l,zxw c,d⟩
 case px o=>exact z2s h
 case iaddr a x i=>
  split at h;.exact h
  .split at h;.rename_i b;simp only[zdK b];exact h
   .cases h
  .exact h
  .exact h
  .cases h
 case slc a x j k=>
  split at h;.exact h
  .exact h
  .split at h;.rename_i b;simp only[zdK b];exact h
   .rename_i b;simp only[zdK b];exact h
   .cases h
  .exact h
  .exact h
  .cases h
theorem z8G {o:AOp}{σ:zaa}{e:Entry}{f:Frame}{r:AV}(hn:o.neutral=true)(h:NEv P f σ r o):NEv P f (σ++ [e]) r o:=by
 cases o<;>first|(simp[AOp.neutral]at hn;done)|skip
 case qcall t k=>obtain⟨d,c,g,i,l⟩:=h;exact⟨d,c,zw4 g,i,l⟩
 case qcallv x k=>
  simp only[NEv]at h⊢;split at h;.obtain⟨m,d,c,g,i,l⟩:=h;exact⟨m,d,c,zw4 g,i,l⟩
  .exact h
 case mklst u p zero n parts=>obtain⟨q,g,i⟩:=h;refine⟨q,zjj (λa b j=> ?_) g,i⟩;simp only[yac]at j⊢;obtain⟨v,s,m⟩:=j;exact⟨v,z1i s,m⟩
 case tobytes x=>exact h
 all_goals exact z0Y h
end
section
variable {P:Program}{base:Nat}{κ:Key}{Im:Addr->Prop}{w:World}{σ:zaa}
theorem zkl {o:AOp}{K K':AV->zaa->Prop}{f:Frame}{σ:zaa}(h:zat P K f σ o)(hK:∀r σ',K r σ'->(o.neutral=true->σ'=σ)->(o.makes=true->∃e,σ'=σ++ [e])->K' r σ'):zat P K' f σ o:=by
 by_cases j:o.neutral=true;.obtain⟨r,k,p⟩:=zzR j h;exact z0e j k (hK r σ p (λ_=>rfl) (λQ=>by cases o<;>simp[AOp.neutral,AOp.makes]at j Q))
 .cases o<;>first|(exact absurd rfl j)|skip
  case alloc t S=>exact hK _ _ h (λa=>absurd a j) (λ_=>⟨_,rfl⟩)
  case box t x=>exact⟨h.1,hK _ _ h.2 (λa=>absurd a j) (λ_=>⟨_,rfl⟩)⟩
  case store n x y=>obtain⟨σ',k,p,q,u⟩:=h;exact⟨σ',k,p,q,hK _ _ u (λa=>absurd a j) (λa=>by simp[AOp.makes]at a)⟩
  case mkslice e s b z x y=>obtain⟨n,c,k,p,q,u,I,J,L,M⟩:=h;exact⟨n,c,k,p,q,u,I,J,L,hK _ _ M (λa=>absurd a j) (λ_=>⟨_,rfl⟩)⟩
  case mkrow e s z n ps=>obtain⟨T,k,p,q⟩:=h;exact⟨T,k,p,hK _ _ q (λa=>absurd a j) (λ_=>⟨_,rfl⟩)⟩
  case app e s b x y=>
   simp only[zat]at h⊢;obtain⟨m,k,p,q,u⟩:=h;refine⟨m,k,p,q, ?_⟩;split at u
   .rcases u with ⟨w,v⟩|⟨C,w,D,E,v⟩;.exact .inl ⟨w,hK _ _ v (λa=>absurd a j) (λa=>by simp[AOp.makes]at a)⟩
    exact .inr ⟨C,w,D,E,hK _ _ v (λa=>absurd a j) (λa=>by simp[AOp.makes]at a)⟩
   .obtain⟨B,C,D,w,E,v,H,F⟩:=u;exact⟨B,C,D,w,E,v,H,hK _ _ F (λa=>absurd a j) (λa=>by simp[AOp.makes]at a)⟩
   .obtain⟨B,D,w,E,v,H,F,U,W⟩:=u;exact⟨B,D,w,E,v,H,F,U,hK _ _ W (λa=>absurd a j) (λa=>by simp[AOp.makes]at a)⟩
   .obtain⟨C,w,D,E,v,H,F⟩:=u;exact⟨C,w,D,E,v,H,hK _ _ F (λa=>absurd a j) (λa=>by simp[AOp.makes]at a)⟩
   .exact u.elim
  case apps e x y=>
   simp only[zat]at h⊢;obtain⟨l,k,u⟩:=h;refine⟨l,k, ?_⟩;split at u
   .rcases u with ⟨w,v⟩|⟨C,w,v⟩;.exact .inl ⟨w,hK _ _ v (λa=>absurd a j) (λa=>by simp[AOp.makes]at a)⟩
    exact .inr ⟨C,w,hK _ _ v (λa=>absurd a j) (λa=>by simp[AOp.makes]at a)⟩
   .obtain⟨B,C,D,E,v,F⟩:=u;exact⟨B,C,D,E,v,hK _ _ F (λa=>absurd a j) (λa=>by simp[AOp.makes]at a)⟩
   .exact u.elim
  case call fn l=>
   rcases h with ⟨d,R,k,p,q⟩|⟨d,R,k,p,q⟩|h;.exact .inl ⟨d,R,k,p,λr A=>hK _ _ (q r A) (λa=>absurd a j) (λa=>by simp[AOp.makes]at a)⟩
   .exact .inr (.inl ⟨d,R,k,p,λr A=>⟨(q r A).1,hK _ _ (q r A).2 (λa=>absurd a j) (λa=>by simp[AOp.makes]at a)⟩⟩)
   .exact .inr (.inr (h.mono λr σ' A=>hK _ _ A (λa=>absurd a j) (λa=>by simp[AOp.makes]at a)))
  case callv x l=>
   simp only[zat]at h⊢;split at h
   .rename_i g first G he
    refine⟨h.1, ?_⟩;rcases h.2 with ⟨d,R,k,p,q⟩|⟨d,R,k,p,q⟩|h
    .exact .inl ⟨d,R,k,p,λr A=>hK _ _ (q r A) (λa=>absurd a j) (λa=>by simp[AOp.makes]at a)⟩
    .exact .inr (.inl ⟨d,R,k,p,λr A=>⟨(q r A).1,hK _ _ (q r A).2 (λa=>absurd a j) (λa=>by simp[AOp.makes]at a)⟩⟩)
    .exact .inr (.inr (h.mono λr σ' A=>hK _ _ A (λa=>absurd a j) (λa=>by simp[AOp.makes]at a)))
   .exact h.elim
  case ex o=>
   obtain⟨r,σ',k,p⟩:=h;refine⟨r,σ',k,hK _ _ p (λa=>absurd a j) (λQ=> ?_)⟩;cases o;.exact⟨_,k.2⟩
   all_goals simp[AOp.makes]at Q
  case nlc neg x=>
   simp only[zat]at h⊢;split at h;.exact λb=>hK _ _ (h b) (λa=>absurd a j) (λa=>by simp[AOp.makes]at a)
   .obtain⟨b,k,p⟩:=h;exact⟨b,k,hK _ _ p (λa=>absurd a j) (λa=>by simp[AOp.makes]at a)⟩
  case apt e s b x y=>obtain⟨l,m,C,k,p,q,u,I,J,L,M,X,O⟩:=h;exact⟨l,m,C,k,p,q,u,I,J,L,M,X,hK _ _ O (λa=>absurd a j) (λ_=>⟨_,rfl⟩)⟩
  case nxt x=>
   simp only[zat]at h⊢;split at h
   case h_2=>exact h.elim
   split at h
   case h_2=>exact h.elim
   exact⟨λY=>hK _ _ (h.1 Y) (λa=>absurd a j) (λa=>by simp[AOp.makes]at a),λi Z=>hK _ _ (h.2 i Z) (λa=>absurd a j) (λa=>by simp[AOp.makes]at a)⟩
  case bad=>exact h.elim
def JEv [Globs](P:Program)(j:AIns)(f:Frame)(σ:zaa)(r:AV):Prop:=match j.g with
 |none=>NEv P f σ r j.o
 |some (t,b)=>∃w,zyJ (f t) b w/\(w=true->NEv P f σ r j.o)/\(w=false->r=.any undef)
theorem z6k {j:AIns}{K:Frame->zaa->Prop}{f:Frame}{σ:zaa}(hn:j.o.neutral=true)(h:zbf P K j f σ):∃r,JEv P j f σ r/\K (f.put j.d r) σ:=by
 obtain⟨g,d,o⟩:=j;cases g with
 |none=>obtain⟨r,a,e⟩:=zzR (K:=λr σ'=>K (f.put d r) σ') hn h;exact⟨r,a,e⟩
 |some p=>
  obtain⟨t,b⟩:=p;obtain⟨c,a,e,i⟩:=h;cases c with
  |true=>obtain⟨r,k,l⟩:=zzR hn (e rfl);exact⟨r,⟨true,a,λ_=>k,nofun⟩,l⟩
  |false=>exact⟨.any undef,⟨false,a,nofun,λ_=>rfl⟩,i rfl⟩
theorem z8Z {j:AIns}{K:Frame->zaa->Prop}{f:Frame}{σ:zaa}{r:AV}(hn:j.o.neutral=true)(h:JEv P j f σ r)(hK:K (f.put j.d r) σ):zbf P K j f σ:=by
 obtain⟨g,d,o⟩:=j;cases g with
 |none=>exact z0e (K:=λr σ'=>K (f.put d r) σ') hn h hK
 |some p=>obtain⟨t,b⟩:=p;obtain⟨c,e,i,k⟩:=h;refine⟨c,e,λa=>z0e (K:=λr σ'=>K (f.put d r) σ') hn (i a) hK,λa=> ?_⟩;rw[<-k a];exact hK
theorem z9e {j:AIns}{f f':Frame}{σ σ':zaa}{r:AV}(hn:j.o.neutral=true)(hf:∀t∈j.reads,f t=f' t)(hσ:σ'=σ∨(∃e,σ'=σ++ [e])∨j.o.blind=true)(h:JEv P j f σ r):JEv P j f' σ' r:=by
 have g:∀t∈j.o.reads,f t=f' t:=λt m=>hf t (by unfold AIns.reads;simp[m]);have d:NEv P f σ r j.o->NEv P f' σ' r j.o:=λn=>by
  have a:=z63 hn g n;rcases hσ with rfl|⟨e,rfl⟩|l
  .exact a
  .exact z8G hn a
  .exact z5e l a
 unfold JEv at h⊢;split at h;.exact d h
 .rename_i t b q;obtain⟨c,a,i,k⟩:=h;exact⟨c,by rw[<-hf t (by unfold AIns.reads;simp[q])];exact a,λp=>d (i p),k⟩
theorem z72 (f:Frame)(d d':Option Nat)(r r':AV)(h:∀x,d=some x->d'≠some x):(f.put d r).put d' r'=(f.put d' r').put d r:=by
 cases d with
 |none=>rfl
 |some x=>
  cases d' with
  |none=>rfl
  |some y=>have a:x≠y:=λe=>h x rfl (by rw[e]);funext t;simp only[Frame.put_some];by_cases b:t=y<;>by_cases c:t=x<;>simp[b,c]<;>omega
theorem zvo {f:Frame}{d:Option Nat}{r:AV}{t:Nat}(h:d≠some t):f.put d r t=f t:=by
 cases d with
 |none=>rfl
 |some x=>simp only[Frame.put_some];rw[if_neg];intro e;exact h (by rw[e])
theorem z9C {j i:AIns}{K:Frame->zaa->Prop}{f:Frame}{σ:zaa}(hc:zqx j i=true)(h:zbf P (zbf P K i) j f σ):zbf P (zbf P K j) i f σ:=by
 unfold zqx at hc;simp only[yb5,ydu]at hc;obtain⟨⟨⟨z,C⟩,D⟩,E⟩:=hc;have w:∀d,j.d=some d->d∉i.reads/\i.d≠some d:=λd A=>by rw[A]at C;simpa using C
 have B:∀d,i.d=some d->d∉j.reads:=λd A=>by rw[A]at D;simpa using D
 obtain⟨r,F,h⟩:=z6k z h;have g:∀t∈i.reads,(f.put j.d r) t=f t:=λt u=>zvo λe=>(w t e).1 u;have q:∀a,(f.put j.d r).put i.d a=(f.put i.d a).put j.d r:=λa=>z72 f _ _ _ _ λx H=>(w x H).2;have k:∀a σ2,K ((f.put j.d r).put i.d a) σ2->(σ2=σ∨(∃e,σ2=σ++ [e])∨j.o.blind=true)->zbf P K j (f.put i.d a) σ2:=λa σ2 v I=>z8Z z (z9e z (λt u=>(zvo λe=>B t e u).symm) I F) (by rw[<-q];exact v);have l:∀σ2,(i.o.neutral=true->σ2=σ)->(i.o.makes=true->∃e,σ2=σ++ [e])->(σ2=σ∨(∃e,σ2=σ++ [e])∨j.o.blind=true):=λσ2 m n=>by
  rcases E with (s|s)|s;.exact .inr (.inr s)
  .exact .inl (m s)
  .exact .inr (.inl (n s))
 have y:∀t∈i.o.reads,(f.put j.d r) t=f t:=λt u=>g t (by unfold AIns.reads;simp[u]);unfold zbf at h;show zbf P (zbf P K j) i f σ;unfold zbf;split at h;.exact zkl (zlw y h) λa σ2 v m n=>k a σ2 v (l σ2 m n)
 .rename_i t b J;obtain⟨c,m,n,G⟩:=h;refine⟨c,by rw[<-g t (by unfold AIns.reads;simp[J])];exact m,λp=> ?_,λp=> ?_⟩;.exact zkl (zlw y (n p)) λa σ2 v m n=>k a σ2 v (l σ2 m n)
  .exact k (.any undef) σ (G p) (.inl rfl)
theorem zrM {i:AIns}{K K':Frame->zaa->Prop}{f:Frame}{σ:zaa}(hK:∀f σ,K f σ->K' f σ)(h:zbf P K i f σ):zbf P K' i f σ:=by
 unfold zbf at h⊢;split at h;.exact zkl h λr σ' a _ _=>hK _ _ a
 .obtain⟨c,d,e,g⟩:=h;exact⟨c,d,λb=>zkl (e b) λr σ' a _ _=>hK _ _ a,λb=>hK _ _ (g b)⟩
theorem zz3 {Q:Frame->zaa->Prop}{i:AIns}{post:List AIns}:∀(pre:List AIns) (f:Frame) (σ:zaa),(∀j∈pre,zqx j i=true)->zcZ P Q (pre++i::post) f σ->zbf P (zcZ P Q (pre++post)) i f σ
 | [],f,σ,_,h=>h
 |j::pre,f,σ,hc,h=>by have d:zbf P (zbf P (zcZ P Q (pre++post)) i) j f σ:=zrM (λa σ' b=>zz3 pre a σ' (λk c=>hc k (by simp[c])) b) h;exact z9C (hc j (by simp)) d
theorem z9H {N:Nat}{ops:Array Oper}{loud:List FuncId}{o:Oper}{f:Frame}{a:Act}{K:Frame->zaa->Prop}{next:Act->World->Prop}{Q:Exit->Act->World->Prop}(hs:SRel base κ Im σ w)(hf:FRel κ Im w f a)(hN:a.tmps.size=N)
  (h:zbf P K (zg0 loud (zkN loud (zdi P N ops o))) f σ∨zbf P K (zkN loud (zdi P N ops o)) f σ)
  (hnext:∀f' σ' κ' Im' a' w',K f' σ'->FRel κ' Im' w' f' a'->a'.tmps.size=N->a'.defers=a.defers->SRel base κ' Im' σ' w'->Grow base κ Im w κ' Im' w'->next a' w'):
  if Region.wanted o (yielded ops a.tmps)then o.wp P a w next Q else next (a.put o.dst undef) w:=by
 have l:zbf P K (zkN loud (zdi P N ops o)) f σ:=by
  rcases h with h|h
  .generalize zkN loud (zdi P N ops o)=i at h;obtain⟨g,d,X⟩:=i;cases g with
   |none=>exact zt5 (loud:=loud) (K:=λr σ'=>K (f.put d r) σ') h
   |some p=>obtain⟨t,b⟩:=p;obtain⟨c,m,y,z⟩:=h;exact⟨c,m,λE=>zt5 (loud:=loud) (K:=λr σ'=>K (f.put d r) σ') (y E),z⟩
  .exact h
 clear h;unfold zdi at l;split at l
 case isFalse=>exact l.elim
 rename_i L;split at l;.exact l.elim
 rename_i U E
 -- a slot that is written
 have q:∀{κ' Im' w'} {r:AV} {v:Value},FRel κ' Im' w' f a->VR κ' Im' w' r v->FRel κ' Im' w' (f.put o.dst r) (a.put o.dst v)/\(a.put o.dst v).tmps.size=N/\(a.put o.dst v).defers=a.defers:=by
  intro κ' Im' w' r v A e;cases D:o.dst with
  |none=>exact⟨A,hN,rfl⟩
  |some d=>
   rw[D]at L;have G:d<N:=by simpa[zDC]using L
   refine⟨λt=> ?_,by simp[Act.put,hN],rfl⟩;simp only[Frame.put_some,Act.put];by_cases s:t=d
   .subst s;rw[if_pos rfl];have:(a.tmps.setIfInBounds t v).getD t undef=v:=by simp[hN,G]
    rw[this];exact e
   .rw[if_neg s];have:(a.tmps.setIfInBounds d v).getD t undef=a.tmps.getD t undef:=by simp only[ybj];rw[ycb (Ne.symm s)]
    rw[this];exact A t
 have B:zat P (λr σ'=>K (f.put o.dst r) σ') f σ (z8J loud U)->o.wp P a w next Q:=λS=>z3F E hs hf S λr σ' κ' Im' v w' T e F J=>by obtain⟨m,y,z⟩:=q (hf.grow J) e;exact hnext _ _ _ _ _ _ T m y z F J
 split at l;.rename_i n;rw[if_pos (by simp[Region.wanted,n])];exact B l
 .rename_i j b n;split at l
  case h_2=>exact l.elim
  rename_i t s;obtain⟨c,m,y,z⟩:=l;have k:=hf t;have W:Region.wanted o (yielded ops a.tmps)=c:=by
   rcases m with ⟨m,rfl⟩|⟨I,m,rfl⟩
   .rw[m]at k;have e:a.tmps.getD t undef=undef:=by generalize a.tmps.getD t undef=u at k;cases k with|im _ _ h=>cases h;rfl
    have H:yielded ops a.tmps j=none:=by
     unfold yielded;rw[s];rw[ybj]at e;cases x:a.tmps[t]? with
     |none=>simp[x]
     |some u=>rw[x]at e;simp at e;subst e;simp[x,undef]
    simp[Region.wanted,n,H]
   .rw[m]at k;have e:=k.bool_inv;have C:a.tmps[t]? =some (.bool I):=by
     rw[ybj]at e;cases x:a.tmps[t]? with
     |none=>rw[x]at e;simp[undef]at e
     |some u=>rw[x]at e;simpa using e
    have H:yielded ops a.tmps j=some I:=(by unfold yielded;rw[s];simp[C]);simp[Region.wanted,n,H]
  rw[W];cases c with
  |true=>exact B (y rfl)
  |false=>obtain⟨M,O,R⟩:=q hf (.im _ _ (.any undef));exact hnext _ _ _ _ _ _ (z rfl) M O R hs (Grow.refl _ _ _ _)
structure St [Globs](base:Nat)(κ:Key)(Im:Addr->Prop)(w:World)(N:Nat)(D:List Deferred)(f:Frame)(σ:zaa)(κ':Key)(Im':Addr->Prop)(a':Act)(w':World):Prop where
 fr:FRel κ' Im' w' f a'
 sz:a'.tmps.size=N
 df:a'.defers=D
 st:SRel base κ' Im' σ w'
 gr:Grow base κ Im w κ' Im' w'
theorem zAk {N:Nat}{ops:Array Oper}{loud:List FuncId}{D:List Deferred}{κ₀:Key}{Im₀:Addr->Prop}{w₀:World}{QA:Frame->zaa->Prop}{Q:Exit->Act->World->Prop}
  (hQ:∀f σ κ Im a w,QA f σ->St base κ₀ Im₀ w₀ N D f σ κ Im a w->Q .normal a w):∀(l:List Oper) (f:Frame) (σ:zaa) (κ:Key) (Im:Addr->Prop) (a:Act) (w:World),zcZ P QA (l.map λo=>zkN loud (zdi P N ops o)) f σ->St base κ₀ Im₀ w₀ N D f σ κ Im a w->wpList P ops Q l a w
 | [],f,σ,κ,Im,a,w,h,hst=>hQ f σ κ Im a w h hst
 |o::l,f,σ,κ,Im,a,w,h,hst=>by
  have:=z9H (loud:=loud) (Q:=Q) (next:=wpList P ops Q l) hst.st hst.fr hst.sz (.inr h) (λd σ' κ' b e g i j k m n p=>zAk hQ l d σ' κ' b e g i ⟨j,k,m.trans hst.df,n,hst.gr.trans p⟩);unfold wpList;split;.rename_i c;rw[if_pos c]at this;exact .inl this
  .rename_i c;rw[if_neg c]at this;exact this
end
end Go.Abs
