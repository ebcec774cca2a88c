import Derived.WalkKit
import Derived.WalkSpells
import Derived.WalkLawsBesides
import Derived.Deep.Quiet
import Derived.StillTail
import Derived.Deep.MidRow
import Derived.Lib.AppendStr
import Derived.Laws.Externs
import Derived.Maps.RangeRun
namespace Go
abbrev yaa := @List.getElem?_eq_some_iff
abbrev yab := @Option.some.injEq
abbrev yac := @Option.bind_eq_some_iff
abbrev yad := @List.mem_of_getElem?
abbrev yae := @Option.map_eq_some_iff
abbrev yaf := @Nat.le_refl
abbrev yag := @List.length_append
abbrev yah := @List.getElem?_eq_getElem
abbrev yai := @List.mem_append
abbrev yaj := @List.getElem?_set_ne
abbrev yak := @Option.bind_eq_bind
abbrev yal := @List.take_of_length_le
abbrev yam := @List.getElem?_append_right
abbrev yan := @List.length_take
abbrev yao := @List.mem_of_mem_take
abbrev yap := @List.getElem?_append_left
abbrev yaq := @List.eq_nil_of_length_eq_zero
abbrev yar := @List.mem_map
abbrev yas := @Result.andThen_ok
abbrev yat := @Nat.mul_le_mul_right
abbrev yau := @Option.pure_def
abbrev yav := @List.take_length
abbrev yaw := @List.getElem_mem
abbrev yax := @List.append_assoc
abbrev yay := @List.mem_of_mem_drop
abbrev yaz := @List.mem_iff_getElem
abbrev ya0 := @Sem.run_bind
abbrev ya1 := @List.all_eq_true
abbrev ya2 := @List.take_append_drop
abbrev ya3 := @List.length_drop
abbrev ya4 := @Array.length_toList
abbrev ya5 := @World.cell?_of_block
abbrev ya6 := @Sem.run_pure
abbrev ya7 := @List.take_append_of_le_length
abbrev ya8 := @Nat.add_mul
abbrev ya9 := @List.nodup_iff_pairwise_ne
abbrev yba := @Array.getElem?_eq_some_iff
abbrev ybb := @List.getElem?_of_mem
abbrev ybc := @Nat.add_sub_cancel_left
abbrev ybd := @List.drop_eq_getElem_cons
abbrev ybe := @List.mem_cons
abbrev ybf := @List.mem_filter
abbrev ybg := @List.length_cons
abbrev ybh := @List.take_add_one
abbrev ybi := @List.append_nil
abbrev ybj := @Array.getD_eq_getD_getElem?
abbrev ybk := @List.flatten_cons
abbrev ybl := @Nat.zero_add
abbrev ybm := @List.pairwise_iff_getElem
abbrev ybn := @List.length_map
abbrev ybo := @Nat.mod_eq_of_lt
abbrev ybp := @List.cons_append
abbrev ybq := @List.mem_flatten
abbrev ybr := @List.mem_singleton
abbrev ybs := @List.getElem?_set_self
abbrev ybt := @Nat.min_eq_left
abbrev ybu := @Nat.le_trans
abbrev ybv := @List.getElem?_eq_none
abbrev ybw := @Nat.mul_comm
abbrev ybx := @List.flatten_append
abbrev yby := @List.getElem?_drop
abbrev ybz := @List.getElem?_take
abbrev yb0 := @List.pairwise_map
abbrev yb1 := @List.mem_cons_of_mem
abbrev yb2 := @Array.getElem?_toList
abbrev yb3 := @Nat.mod_lt
abbrev yb4 := @List.drop_of_length_le
abbrev yb5 := @Bool.and_eq_true
abbrev yb6 := @Array.getElem?_eq_getElem
abbrev yb7 := @List.nodup_append
abbrev yb8 := @List.getElem_cons_zero
abbrev yb9 := @Nat.div_mul_le_self
abbrev yca := @List.getElem?_map
abbrev ycb := @Array.getElem?_setIfInBounds_ne
abbrev ycc := @Nat.lt_of_lt_of_le
abbrev ycd := @List.mem_replicate
abbrev yce := @List.map_cons
abbrev ycf := @Nat.add_zero
abbrev ycg := @List.getElem?_take_of_lt
abbrev ych := @List.mapM_cons
abbrev yci := @List.take_left'
abbrev ycj := @List.getElem_append_right
abbrev yck := @List.getElem_take
abbrev ycl := @Nat.lt_trichotomy
abbrev ycm := @Nat.zero_le
abbrev ycn := @List.map_append
abbrev yco := @List.nil_append
abbrev ycp := @List.getElem_append_left
abbrev ycq := @Nat.div_add_mod
abbrev ycr := @Bool.false_eq_true
abbrev ycs := @List.length_filter_le
abbrev yct := @List.set_append_right
abbrev ycu := @List.set_getElem_self
abbrev ycv := @Nat.div_lt_iff_lt_mul
abbrev ycw := @List.length_pos_iff
abbrev ycx := @List.take_append
abbrev ycy := @List.drop_append_of_le_length
abbrev ycz := @Option.map_none
abbrev yc0 := @Nat.lt_of_le_of_lt
abbrev yc1 := @List.length_nil
abbrev yc2 := @Nat.sub_self
abbrev yc3 := @Nat.two_pow_add_eq_or_of_lt
abbrev yc4 := @Nat.mul_le_mul_left
abbrev yc5 := @List.cons.injEq
abbrev yc6 := @List.getElem_map
abbrev yc7 := @Nat.mul_assoc
abbrev yc8 := @List.getElem?_cons_zero
abbrev yc9 := @List.getElem?_cons_succ
abbrev yda := @Int.tmod_eq_emod_of_nonneg
abbrev ydb := @Nat.pow_succ
abbrev ydc := @List.exists_mem_of_ne_nil
abbrev ydd := @Nat.two_pow_pos
abbrev yde := @Nat.div_le_self
abbrev ydf := @Array.toList_map
abbrev ydg := @Nat.le_succ
abbrev ydh := @List.map_take
abbrev ydi := @Nat.mul_div_cancel
abbrev ydj := @List.length_eq_zero_iff
abbrev ydk := @List.pairwise_append
abbrev ydl := @World.cell?_alloc_at
abbrev ydm := @Nat.lt_or_ge
abbrev ydn := @List.mem_flatMap
abbrev ydo := @List.getElem_cons_succ
abbrev ydp := @List.drop_eq_nil_of_le
abbrev ydq := @List.replicate_succ
abbrev ydr := @Int.toNat_natCast
abbrev yds := @List.mem_or_eq_of_mem_set
abbrev ydt := @Int.natCast_mul
abbrev ydu := @Bool.or_eq_true
abbrev ydv := @World.cell?_setCells_out
abbrev ydw := @List.filter_append
abbrev ydx := @List.drop_length
abbrev ydy := @BitVec.ofInt_natCast
abbrev ydz := @List.pairwise_mergeSort
abbrev yd0 := @List.map_map
abbrev yd1 := @List.take_take
abbrev yd2 := @List.getElem_drop
abbrev yd3 := @List.map_congr_left
abbrev yd4 := @List.take_succ_cons
abbrev yd5 := @List.getElem_set_ne
abbrev yd6 := @World.frozen?_setCells
abbrev yd7 := @Int.fdiv_eq_ediv_of_nonneg
abbrev yd8 := @Option.bind_some
abbrev yd9 := @List.not_mem_nil
abbrev yea := @Nat.add_assoc
abbrev yeb := @List.cons_lt_cons_iff
abbrev yec := @BitVec.toNat_ofNat
abbrev yed := @Nat.pow_le_pow_right
abbrev yee := @List.contains_eq_mem
abbrev yef := @List.nodup_cons
abbrev yeg := @List.ext_getElem?
abbrev yeh := @List.flatMap_cons
abbrev yei := @List.length_filterMap_le
abbrev yej := @Nat.mul_add
abbrev yek := @List.flatMap_append
abbrev yel := @List.mergeSort_perm
abbrev yem := @List.filter_sublist
abbrev yen := @Nat.div_eq_of_lt
abbrev yeo := @List.drop_append
abbrev yep := @Nat.le_of_not_lt
abbrev yeq := @List.drop_drop
abbrev yer := @Nat.mul_le_mul
abbrev yes := @World.cell?_alloc_past
abbrev yet := @List.pairwise_cons
abbrev yeu := @Option.toList_some
abbrev yev := @List.foldl_cons
abbrev yew := @Array.getElem?_modify
abbrev yex := @Nat.pow_add
abbrev yey := @Nat.le_of_lt
abbrev yez := @List.mem_attach
abbrev ye0 := @Array.size_append
abbrev ye1 := @List.size_toArray
abbrev ye2 := @List.mem_range
abbrev ye3 := @List.take_prefix
abbrev ye4 := @Nat.one_mul
abbrev ye5 := @Nat.min_def
abbrev ye6 := @Nat.add_comm
end Go
set_option linter.unusedSimpArgs false
set_option linter.unusedVariables false
set_option linter.constructorNameAsVariable false
namespace Go.Abs
open Go.RowKit
inductive AV where
 |junk
 |int (k:IntKind) (n:Int)
 |bool (b:Bool)
 |str (s:List UInt8)
 |flt (k:FloatKind) (bits:Nat)
 |nilp
 |ptr (id off:Nat)
 |rptr (cells:List AV)
 |nils
 |lst (l:List (List AV))
 |row (id n:Nat)
 |rowp (id n size k off:Nat)
 |map (id:Nat)
 |nilm
 |fn (f:Fn) (first captured:List AV)
 |nilf
 |iface (t:TypeId) (v:AV)
 |nili
 |agg (cells:List AV)
 |tup (vs:List AV)
 |any (v:Value)
 |gp (g off:Nat)
 |sub (id n size lo hi:Nat)
 |asl (id off n size:Nat)
 |tight (l:List (List AV))
 deriving Inhabited
class Globs where
 tab:List (Nat×List AV)
def AV.one:AV->Bool
 | .junk| .agg _| .tup _| .any _=>false
 |_=>true
def AV.pure:AV->Bool
 | .ptr ..| .row ..| .rowp ..| .map ..| .sub ..| .asl ..=>false
 | .fn _ a b=>a.attach.all (λ⟨x,_⟩=>x.pure)&&b.attach.all (λ⟨x,_⟩=>x.pure)
 | .iface _ v=>v.pure
 | .agg l| .tup l=>l.attach.all λ⟨x,_⟩=>x.pure
 |_=>true
inductive IR (Im:Addr->Prop)(w:World):AV->Value->Prop
 |junk (v:Value):IR Im w .junk v
 |int (k:IntKind) (n:Int):IR Im w (.int k n) (.int k n)
 |bool (b:Bool):IR Im w (.bool b) (.bool b)
 |str (s:List UInt8):IR Im w (.str s) (.string ⟨s.toArray⟩)
 |flt (k:FloatKind) (bits:Nat):IR Im w (.flt k bits) (.float k bits)
 |nilp:IR Im w .nilp (.pointer none)
 |rptr (cells:List AV) (b o:Nat) (vals:Nat->Value) (hone:∀c∈cells,c.one=true) (hc:∀j,j<cells.length->Im ⟨b,o+j,none⟩/\w.cell? ⟨b,o+j,none⟩=some (vals j)) (hv:∀j (h:j<cells.length),IR Im w (cells[j]) (vals j)):IR Im w (.rptr cells) (.pointer (some ⟨b,o,none⟩))
 |nils:IR Im w .nils (.slice none 0 0)
 |lnil (g:Option Addr):IR Im w (.lst []) (.slice g 0 0)
 |lst (l:List (List AV)) (size b o cap:Nat) (vals:Nat->Nat->Value) (hcap:l.length<=cap) (hmax:cap<=maxLen) (hs:∀c∈l,c.length=size) (hone:∀c∈l,∀x∈c,x.one=true) (hc:∀k j,k<l.length->j<size->Im ⟨b,o+(k*size+j),none⟩/\w.cell? ⟨b,o+(k*size+j),none⟩=some (vals k j)) (hv:∀k j (h:k<l.length) (h':j<l[k].length),IR Im w (l[k][j]) (vals k j)):IR Im w (.lst l) (.slice (some ⟨b,o,none⟩) l.length cap)
 |nilm:IR Im w .nilm (.map none)
 |fn (f:Fn) (first captured:List AV) (vs us:List Value) (h1:first.length=vs.length) (h2:captured.length=us.length) (hv:∀j (h:j<first.length) (h':j<vs.length),IR Im w (first[j]) (vs[j])) (hu:∀j (h:j<captured.length) (h':j<us.length),IR Im w (captured[j]) (us[j])):
   IR Im w (.fn f first captured) (.func f vs.toArray us.toArray)
 |nilf:IR Im w .nilf .nilFunc
 |iface (t:TypeId) (a:AV) (v:Value) (h:IR Im w a v):IR Im w (.iface t a) (.iface t v)
 |nili:IR Im w .nili .nilIface
 |agg (cells:List AV) (vs:List Value) (hone:∀c∈cells,c.one=true) (h1:cells.length=vs.length) (hv:∀j (h:j<cells.length) (h':j<vs.length),IR Im w (cells[j]) (vs[j])):
   IR Im w (.agg cells) (.agg vs.toArray)
 |tup (cells:List AV) (vs:List Value) (h1:cells.length=vs.length) (hv:∀j (h:j<cells.length) (h':j<vs.length),IR Im w (cells[j]) (vs[j])):
   IR Im w (.tup cells) (.tuple vs.toArray)
 |any (v:Value):IR Im w (.any v) v
 |gp (g off:Nat):IR Im w (.gp g off) (.pointer (some ⟨g,off,none⟩))
 |tight (l:List (List AV)) (g:Option Addr) (h:IR Im w (.lst l) (.slice g l.length l.length)):IR Im w (.tight l) (.slice g l.length l.length)
inductive VR (κ:Nat->Nat->Option Value)(Im:Addr->Prop)(w:World):AV->Value->Prop
 |im (a:AV) (v:Value) (h:IR Im w a v):VR κ Im w a v
 |ptr (id off b:Nat) (h:κ id 0=some (.pointer (some ⟨b,0,none⟩))):VR κ Im w (.ptr id off) (.pointer (some ⟨b,off,none⟩))
 |row (id n:Nat) (g:Option Addr) (cap:Nat) (h:κ id n=some (.slice g n cap)):VR κ Im w (.row id n) (.slice g n cap)
 |rowp (id n size k off b cap:Nat) (h:κ id n=some (.slice (some ⟨b,0,none⟩) n cap)):VR κ Im w (.rowp id n size k off) (.pointer (some ⟨b,k*size+off,none⟩))
 |map (id b:Nat) (h:κ id 0=some (.map (some b))):VR κ Im w (.map id) (.map (some b))
 |asl (id off n size b:Nat) (ad:Addr) (c:Nat) (h:κ id 0=some (.pointer (some ⟨b,0,none⟩))) (h3:0<n->ad=⟨b,off,none⟩) (h4:n<=c) (h5:c<=maxLen) (h6:ad.spot=none):VR κ Im w (.asl id off n size) (.slice (some ad) n c)
 |sub (id n size lo hi b cap:Nat) (ad:Addr) (c:Nat) (h:κ id n=some (.slice (some ⟨b,0,none⟩) n cap)) (h1:lo<=hi) (h2:hi<=n) (h3:lo<cap->ad=⟨b,lo*size,none⟩) (h4:hi-lo<=c/\c=cap-lo) (h5:c<=maxLen) (h6:ad.spot=none):VR κ Im w (.sub id n size lo hi) (.slice (some ad) (hi-lo) c)
 |fn (f:Fn) (first captured:List AV) (vs us:List Value) (h1:first.length=vs.length) (h2:captured.length=us.length) (hv:∀j (h:j<first.length) (h':j<vs.length),VR κ Im w (first[j]) (vs[j])) (hu:∀j (h:j<captured.length) (h':j<us.length),VR κ Im w (captured[j]) (us[j])):
   VR κ Im w (.fn f first captured) (.func f vs.toArray us.toArray)
 |iface (t:TypeId) (a:AV) (v:Value) (h:VR κ Im w a v):VR κ Im w (.iface t a) (.iface t v)
 |agg (cells:List AV) (vs:List Value) (hone:∀c∈cells,c.one=true) (h1:cells.length=vs.length) (hv:∀j (h:j<cells.length) (h':j<vs.length),VR κ Im w (cells[j]) (vs[j])):
   VR κ Im w (.agg cells) (.agg vs.toArray)
 |tup (cells:List AV) (vs:List Value) (h1:cells.length=vs.length) (hv:∀j (h:j<cells.length) (h':j<vs.length),VR κ Im w (cells[j]) (vs[j])):
   VR κ Im w (.tup cells) (.tuple vs.toArray)
theorem IR.mono {Im Im':Addr->Prop}{w w':World}(hIm:∀a,Im a->Im' a)(hc:∀a,Im a->w'.cell? a=w.cell? a){a:AV}{v:Value}(h:IR Im w a v):IR Im' w' a v:=by
 induction h with
 |junk v=>exact .junk v
 |int k n=>exact .int k n
 |bool b=>exact .bool b
 |str s=>exact .str s
 |flt k b=>exact .flt k b
 |nilp=>exact .nilp
 |rptr c b o m d e A p=>exact .rptr c b o m d (λj q=>⟨hIm _ (e j q).1,(hc _ (e j q).1).trans (e j q).2⟩) p
 |nils=>exact .nils
 |lnil g=>exact .lnil g
 |lst l r b o C m u x G d e A p=>exact .lst l r b o C m u x G d (λk j B q=>⟨hIm _ (e k j B q).1,(hc _ (e k j B q).1).trans (e k j B q).2⟩) p
 |nilm=>exact .nilm
 |fn f first i y H z I A J D E=>exact .fn f first i y H z I D E
 |nilf=>exact .nilf
 |iface t a v h p=>exact .iface t a v p
 |nili=>exact .nili
 |agg c y d z A p=>exact .agg c y d z p
 |tup c y z A p=>exact .tup c y z p
 |any v=>exact .any v
 |gp g F=>exact .gp g F
 |tight l g h p=>exact .tight l g p
theorem VR.mono {κ κ':Nat->Nat->Option Value}{Im Im':Addr->Prop}{w w':World}(hκ:∀i n v,κ i n=some v->κ' i n=some v)(hIm:∀a,Im a->Im' a)(hc:∀a,Im a->w'.cell? a=w.cell? a)
  {a:AV} {v:Value} (h:VR κ Im w a v):VR κ' Im' w' a v:=by
 induction h with
 |im a v h=>exact .im a v (h.mono hIm hc)
 |ptr id l b h=>exact .ptr id l b (hκ _ _ _ h)
 |row id n g m h=>exact .row id n g m (hκ _ _ _ h)
 |rowp id n d k l b m h=>exact .rowp id n d k l b m (hκ _ _ _ h)
 |map id b h=>exact .map id b (hκ _ _ _ h)
 |asl id l n d b s c h u x y z=>exact .asl id l n d b s c (hκ _ _ _ h) u x y z
 |sub id n d E F b m s c h o A u x y z=>exact .sub id n d E F b m s c (hκ _ _ _ h) o A u x y z
 |fn f first j p G o A D H B C=>exact .fn f first j p G o A B C
 |iface t a v h q=>exact .iface t a v q
 |agg e p r o D q=>exact .agg e p r o q
 |tup e p o D q=>exact .tup e p o q
theorem VR.pure {κ:Nat->Nat->Option Value}{Im:Addr->Prop}{w:World}{a:AV}{v:Value}(h:VR κ Im w a v)(hp:a.pure=true):IR Im w a v:=by
 induction h with
 |im a v h=>exact h
 |ptr|row|rowp|map|sub|asl=>simp[AV.pure]at hp
 |fn f first c e o g p n q l m=>simp[AV.pure]at hp;exact .fn f first c e o g p (λj h d=>l j h d (hp.1 _ (yaw h))) (λj h d=>m j h d (hp.2 _ (yaw h)))
 |iface t a v h i=>exact .iface t a v (i (by simpa[AV.pure]using hp))
 |agg b e k g n i=>simp[AV.pure]at hp;exact .agg b e k g λj h d=>i j h d (hp _ (yaw h))
 |tup b e g n i=>simp[AV.pure]at hp;exact .tup b e g λj h d=>i j h d (hp _ (yaw h))
theorem VR.oneCell {κ:Nat->Nat->Option Value}{Im:Addr->Prop}{w:World}{a:AV}{v:Value}(h:VR κ Im w a v)(hp:a.one=true):v.oneCell'=true:=by
 cases h with
 |im a v h=>cases h<;>first|rfl|simp[AV.one]at hp
 |ptr|row|rowp|map|fn|iface|sub|asl=>rfl
 |agg|tup=>simp[AV.one]at hp
inductive Entry where
 |dead (n:Nat)
 |var (t:TypeId) (cells:List AV)
 |row (e:TypeId) (size:Nat) (els:List (List AV)) (im:Bool)
 |mp (kv:List (AV×AV))
 |itr (mid:Option Nat) (n:Nat) (left:List Nat) (last:Nat)
 |obj (o:Obj)
 deriving Inhabited
def Entry.isItr:Entry->Bool
 | .itr ..=>true
 |_=>false
def zbr (σ:List Entry):Bool:=σ.all λe=> !e.isItr
abbrev zaa:=List Entry
abbrev Frame:=Nat->AV
def Frame.put (f:Frame)(d:Option Nat)(v:AV):Frame:=match d with
 |some d=>λt=>if t=d then v else f t
 |none=>f
@[simp] theorem Frame.put_none (f:Frame) (v:AV):Frame.put f none v=f:=rfl
@[simp] theorem Frame.put_some (f:Frame) (d t:Nat) (v:AV):Frame.put f (some d) v t=if t=d then v else f t:=rfl
inductive Opd where
 |s (t:Nat)
 |c (v:AV)
 deriving Inhabited
def Opd.ev (f:Frame):Opd->AV
 | .s t=>f t
 | .c v=>v
@[simp] theorem ev_s (f:Frame) (t:Nat):(Opd.s t).ev f=f t:=rfl
@[simp] theorem ev_c (f:Frame) (v:AV):(Opd.c v).ev f=v:=rfl
def AV.cells:AV->List AV
 | .agg l=>l
 |v=> [v]
def zaY:Nat->Nat->List AV->List (List AV)
 |0,_,_=> []
 |n+1,size,l=>l.take size::zaY n size (l.drop size)
def view (σ:zaa):AV->Option (List (List AV))
 | .nils=>some []
 | .lst l=>some l
 | .row id n=>match σ[id]? with
  |some (.row _ _ els _)=>if els.length=n then some els else none
  |_=>none
 | .sub id n size lo hi=>match σ[id]? with
  |some (.row _ size' els _)=>if els.length=n/\size'=size then some ((els.take hi).drop lo)else none
  |_=>none
 | .asl id off n size=>match σ[id]? with
  |some (.var _ cells)=>if off+n*size<=cells.length then some (zaY n size ((cells.drop off).take (n*size)))else none
  |_=>none
 |_=>none
def zbz [Globs](σ:zaa):AV->Nat->Option (List AV)
 | .ptr id off,n=>match σ[id]? with
  |some (.var _ cells)=>if off+n<=cells.length then some ((cells.drop off).take n)else none
  |_=>none
 | .rptr cells,n=>if n<=cells.length then some (cells.take n)else none
 | .gp g off,n=>match Globs.tab.lookup g with
  |some cells=>if off+n<=cells.length then some ((cells.drop off).take n)else none
  |none=>none
 | .rowp id n₀ size k off,n=>match σ[id]? with
  |some (.row _ size' els _)=>if els.length=n₀/\size'=size/\off+n<=size then(els[k]?).map λc=>(c.drop off).take n else none
  |_=>none
 |_,_=>none
def splice (cells:List AV)(off:Nat)(vs:List AV):List AV:=cells.take off++vs++cells.drop (off+vs.length)
def zzn (σ:zaa):AV->List AV->Option zaa
 | .ptr id off,vs=>match σ[id]? with
  |some (.var t cells)=>if off+vs.length<=cells.length then some (σ.set id (.var t (splice cells off vs)))else none
  |_=>none
 | .rowp id n₀ size k off,vs=>match σ[id]? with
  |some (.row e size' els false)=>if els.length=n₀/\size'=size/\off+vs.length<=size then
    match els[k]? with
    |some c=>some (σ.set id (.row e size' (els.set k (splice c off vs)) false))
    |none=>none
   else none
  |_=>none
 |_,_=>none
def zfJ (σ:zaa):AV->Option AV
 | .row id n=>match σ[id]? with
  |some (.row _ _ els true)=>if els.length=n then some (.lst els)else none
  |_=>none
 | .nils=>some (.lst [])
 |v=>if v.pure then some v else none
def z0i (σ:zaa)(l:List AV):Option (List AV):=l.mapM (zfJ σ)
def share (σ:zaa):AV->Option AV
 | .agg l=>(z0i σ l).map AV.agg
 | .tup l=>(l.mapM fun
   |AV.agg l=>(z0i σ l).map AV.agg
   |v=>zfJ σ v).map AV.tup
 |v=>zfJ σ v
def lay (cells:List AV):List (Nat×List AV)->List AV
 | []=>cells
 |(off,vs)::rest=>lay (splice cells off vs) rest
inductive XOp where
 |isnil (kind:Nat) (neg:Bool) (x:Opd)
 |tostr (x:Opd)
 |look (kind:Nat) (zero:AV) (ok:Bool) (x k:Opd)
 |mlen (x:Opd)
 |bit (op:BinOp) (x y:Opd)
 |inv (x:Opd)
 |cry (x y z:Opd)
 |iload (ag:Bool) (size:Nat) (x:Opd)
 |iidx (size:Nat) (x i:Opd)
 |aslc (len size:Nat) (x:Opd) (lo hi:Option Opd)
 |sl3 (size:Nat) (x hi mx:Opd)
 |ient (x:Opd)
 deriving Inhabited
inductive EOp where
 |mkmap
 |mset (kind:Nat) (x k v:Opd)
 |clr (size:Nat) (zero:List AV) (x:Opd)
 |cpy (size:Nat) (x y:Opd)
 |mdel (kind:Nat) (x k:Opd)
 |rng (x:Opd)
 deriving Inhabited
inductive AOp where
 |mv (x:Opd)
 |pick (c a b:Opd)
 |bin (op:BinOp) (x y:Opd)
 |beq (neg:Bool) (x y:Opd)
 |eqs (neg:Bool) (kinds:List Nat) (x y:Opd)
 |not (x:Opd)
 |neg (x:Opd)
 |conv (k:IntKind) (x:Opd)
 |ext (x:Opd) (i:Nat)
 |alloc (t:Nat) (cells:List AV)
 |box (t:Nat) (x:Opd)
 |build (zero:List AV) (parts:List (Nat×Nat×Opd))
 |field (off size:Nat) (ag:Bool) (x:Opd)
 |load (ag:Bool) (size:Nat) (x:Opd)
 |store (size:Nat) (x v:Opd)
 |nilck (x:Opd)
 |faddr (off:Nat) (x:Opd)
 |iaddr (size:Nat) (x i:Opd)
 |aaddr (len size:Nat) (x i:Opd)
 |sidx (x i:Opd)
 |aidx (len size:Nat) (ag:Bool) (x i:Opd)
 |slen (x:Opd)
 |len (x:Opd)
 |sslc (x:Opd) (lo hi:Option Opd)
 |slc (size:Nat) (x:Opd) (lo hi:Option Opd)
 |mkslice (e size bytes:Nat) (zero:List AV) (len cap:Opd)
 |mklst (e size:Nat) (zero:List AV) (n:Nat) (parts:List (Nat×Opd))
 |mkrow (e size:Nat) (zero:List AV) (n:Nat) (parts:List (Nat×Opd))
 |app (e size bytes:Nat) (x y:Opd)
 |apps (e:Nat) (x y:Opd)
 |mm (mx:Bool) (x y:Opd)
 |call (f:FuncId) (args:List Opd)
 |callv (x:Opd) (args:List Opd)
 |qcall (f:FuncId) (args:List Opd)
 |qcallv (x:Opd) (args:List Opd)
 |mkfn (fn:Fn) (first captured:List Opd)
 |mkif (t:TypeId) (x:Opd)
 |tobytes (x:Opd)
 |px (o:XOp)
 |ex (o:EOp)
 |nlc (neg:Bool) (x:Opd)
 |nxt (x:Opd)
 |apt (e size bytes:Nat) (x y:Opd)
 |bad
 deriving Inhabited
structure AIns where
 g:Option (Nat×Bool)
 d:Option Nat
 o:AOp
 deriving Inhabited
inductive ACode where
 |skip
 |ops (l:List AIns)
 |all (l:List (List AIns))
 |seq (a b:ACode)
 |cond (c:Opd) (x y:ACode)
 |block (id:Nat) (c:ACode)
 |loop (c:ACode)
 |exit (id:Nat)
 |ret
 |gh
 |bad
 deriving Inhabited
inductive AExit where
 |normal
 |exit (id:Nat)
 |ret
def zzs (op:BinOp)(x y:Int):Option Bool:=match op with
 | .eql=>some (x==y)| .neq=>some (x !=y)| .lss=>some (decide (x<y))| .leq=>some (decide (x<=y))| .gtr=>some (decide (x>y))| .geq=>some (decide (x≥y))
 |_=>none
def abin (op:BinOp):AV->AV->Option AV
 | .int k a,.int k' b=>if k=k' then
   match op with
   | .add=>some (.int k (k.wrap (a+b)))
   | .sub=>some (.int k (k.wrap (a-b)))
   | .mul=>some (.int k (k.wrap (a*b)))
   | .quo=>if b=0 then none else some (.int k (k.wrap (a.tdiv b)))
   | .rem=>if b=0 then none else some (.int k (a.tmod b))
   |op=>(zzs op a b).map .bool
  else none
 | .str a,.str b=>match op with
   | .add=>if a.length+b.length<=9223372036854775807 then some (.str (a++b))else none
   | .eql=>some (.bool (decide (a=b)))
   | .neq=>some (.bool (!decide (a=b)))
   | .lss=>some (.bool (Op.bytesLess a b))
   | .leq=>some (.bool (Op.bytesLess a b||decide (a=b)))
   | .gtr=>some (.bool !(Op.bytesLess a b||decide (a=b)))
   | .geq=>some (.bool !(Op.bytesLess a b))
   |_=>none
 |_,_=>none
def eq1:Nat->AV->AV->Option Bool
 |0,.int k a,.int k' b=>if k=k' then some (decide (a=b))else none
 |1,.str a,.str b=>some (decide (a=b))
 |2,.bool a,.bool b=>some (a==b)
 |_,_,_=>none
def zil:List Nat->List AV->List AV->Option Bool
 | [],[],[]=>some true
 |k::ks,a::l,b::m=>(eq1 k a b).bind λx=>(zil ks l m).map λy=>x&&y
 |_,_,_=>none
def zg5 (ag:Bool)(l:List AV):Option AV:=if ag then some (.agg l)else match l with
 | [v]=>some v
 |_=>none
def zid:AV->Option Nat
 | .int _ n=>if 0<=n then some n.toNat else none
 |_=>none
def ze3 (v:Option AV)(dflt lim:Nat):Option Nat:=match v with
 |none=>some dflt
 |some v=>(zid v).bind λn=>if n<=lim then some n else none
def zix:Nat->AV->Option Bool
 |0,.nili=>some true
 |0,.iface _ _=>some false
 |1,.nilf=>some true
 |1,.fn _ _ _=>some false
 |2,.nilp=>some true
 |2,.ptr _ _=>some false
 |2,.rptr _=>some false
 |2,.rowp _ _ _ _ _=>some false
 |2,.gp _ _=>some false
 |3,.nils=>some true
 |3,.lst (_::_)=>some false
 |4,.nilm=>some true
 |4,.map _=>some false
 |_,_=>none
def bytesOf:List (List AV)->Option (List UInt8)
 | []=>some []
 | [.int .u8 n]::l=>(bytesOf l).map (UInt8.ofNat n.toNat:: ·)
 |_::_=>none
def zaQ (kind:Nat)(k:AV):List (AV×AV)->Nat->Option (Option (Nat×AV))
 | [],_=>some none
 |(k',v)::l,i=>match eq1 kind k k' with
  |some true=>some (some (i,v))
  |some false=>zaQ kind k l (i+1)
  |none=>none
def zbM (op:BinOp)(k:IntKind)(a b:Int):Option Int:=match op with
 | .and=>some (k.wrap (BitVec.ofInt k.bits a&&&BitVec.ofInt k.bits b).toNat)
 | .or=>some (k.wrap (BitVec.ofInt k.bits a|||BitVec.ofInt k.bits b).toNat)
 | .xor=>some (k.wrap (BitVec.ofInt k.bits a^^^BitVec.ofInt k.bits b).toNat)
 | .andNot=>some (k.wrap (BitVec.ofInt k.bits a&&& ~~~BitVec.ofInt k.bits b).toNat)
 |_=>none
def zas (op:BinOp)(k:IntKind)(a:Int)(n:Nat):Option Int:=match op with
 | .shl=>some (k.wrap (a*2^min n k.bits))
 | .shr=>some (a.fdiv (2^min n k.bits))
 |_=>none
def zaS (op:BinOp):AV->AV->Option AV
 | .int k a,.int k' b=>if op=.shl∨op=.shr then(if 0<=b then(zas op k a b.toNat).map (.int k)else none)else if k=k' then(zbM op k a b).map (.int k)else none
 |_,_=>none
def zc2:AV->Option AV
 | .int k a=>(zbM .xor k (if k.signed then -1 else k.max) a).map (.int k)
 |_=>none
def zuQ:AV->AV->AV->Option AV
 | .int .u64 x,.int .u64 y,.int .u64 c=>if 0<=x/\0<=y/\0<=c/\c<=1 then some (.tup [.int .u64 ((x+y+c)%18446744073709551616),.int .u64 ((x+y+c)/18446744073709551616)])else none
 |_,_,_=>none
def znm (ag:Bool)(size:Nat):AV->Option AV
 | .rptr cells=>if size<=cells.length then zg5 ag (cells.take size)else none
 |_=>none
def zpW (size:Nat)(i:Option Nat)(x:AV):Option AV:=match i,x with
 |some i,.lst l=>(l[i]?).bind λc=>if c.length=size then some (.rptr c)else none
 |_,_=>none
def zu1 [Globs](len size:Nat)(lo hi:Option AV)(X:AV):Option AV:=match X with
 | .ptr id off=>(ze3 hi len len).bind λh=>(ze3 lo 0 h).map λl=> .asl id (off+l*size) (h-l) size
 | .rptr cells=>if len*size<=cells.length then(ze3 hi len len).bind λh=>(ze3 lo 0 h).map λl=> .lst (((zaY len size (cells.take (len*size))).take h).drop l)else none
 | .gp g off=>match Globs.tab.lookup g with
  |some cells=>if off+len*size<=cells.length then(ze3 hi len len).bind λh=>(ze3 lo 0 h).map λl=> .lst (((zaY len size ((cells.drop off).take (len*size))).take h).drop l)else none
  |none=>none
 |_=>none
def ziy (σ:zaa):AV->Option (List (AV×AV))
 | .nilm=>some []
 | .map id=>match σ[id]? with
  |some (.mp kv)=>some kv
  |_=>none
 |_=>none
def zqa (kind:Nat)(zero:AV)(ok:Bool)(k:AV)(kv:List (AV×AV)):Option AV:=(zaQ kind k kv 0).bind fun
 |some (_,v)=>some (if ok then .tup [v,.bool true]else v)
 |none=>some (if ok then .tup [zero,.bool false]else zero)
def zze (σ:zaa)(size:Nat)(hi mx:Option Nat)(X:AV):Option AV:=match hi,mx with
 |some h,some m=>if h=m then
   match X with
   | .nils=>if h=0 then some (.tight [])else none
   | .lst l=>if(∀c∈l,c.length=size)/\h<=l.length then some (.tight (l.take h))else none
   | .row id n=>match σ[id]? with
    |some (.row _ size' els true)=>if els.length=n/\size'=size/\h<=n then some (.tight (els.take h))else none
    |_=>none
   |_=>none
  else none
 |_,_=>none
def zy6 (σ:zaa):AV->Option AV
 | .ptr id 0=>match σ[id]? with
  |some (.itr (some m) n _ last)=>match σ[m]? with
   |some (.mp kv)=>if kv.length=n then(kv[last]?).map λp=> .tup [p.1,p.2]else none
   |_=>none
  |_=>none
 |_=>none
def ziY [Globs](σ:zaa)(f:Frame):XOp->Option AV
 | .isnil kind neg x=>(zix kind (x.ev f)).map λb=> .bool (if neg then !b else b)
 | .tostr x=>((view σ (x.ev f)).bind bytesOf).map .str
 | .look kind zero ok x k=>(ziy σ (x.ev f)).bind (zqa kind zero ok (k.ev f))
 | .mlen x=>(ziy σ (x.ev f)).map λkv=> .int .i64 kv.length
 | .bit op x y=>zaS op (x.ev f) (y.ev f)
 | .inv x=>zc2 (x.ev f)
 | .cry x y z=>zuQ (x.ev f) (y.ev f) (z.ev f)
 | .iload ag size x=>znm ag size (x.ev f)
 | .iidx size x i=>zpW size (zid (i.ev f)) (x.ev f)
 | .aslc len size x lo hi=>zu1 len size (lo.map (·.ev f)) (hi.map (·.ev f)) (x.ev f)
 | .sl3 size x hi mx=>zze σ size (zid (hi.ev f)) (zid (mx.ev f)) (x.ev f)
 | .ient x=>zy6 σ (x.ev f)
def zd2 (kind:Nat)(k v:AV)(kv:List (AV×AV)):Option (List (AV×AV)):=(zaQ kind k kv 0).map fun
 |some (i,_)=>kv.set i (k,v)
 |none=>kv++ [(k,v)]
def z5G (σ:zaa)(size:Nat)(zero:List AV):AV->Option zaa
 | .nils| .lst []=>some σ
 | .row id n=>match σ[id]? with
  |some (.row e size' els false)=>if els.length=n/\size'=size then some (σ.set id (.row e size' (List.replicate n zero) false))else none
  |_=>none
 | .sub id n sz lo hi=>match σ[id]? with
  |some (.row e size' els false)=>if els.length=n/\size'=size/\sz=size/\lo<=hi/\hi<=n then some (σ.set id (.row e size' (els.take lo++List.replicate (hi-lo) zero++els.drop hi) false))else none
  |_=>none
 |_=>none
def zyZ (σ:zaa)(size:Nat)(m:List (List AV)):AV->Option (zaa×Nat)
 | .nils| .lst []=>some (σ,0)
 | .row id n=>match σ[id]? with
  |some (.row e size' els false)=>if els.length=n/\size'=size then some (σ.set id (.row e size' (m.take n++els.drop (min m.length n)) false),min m.length n)else none
  |_=>none
 | .sub id n sz lo hi=>match σ[id]? with
  |some (.row e size' els false)=>if els.length=n/\size'=size/\sz=size/\lo<=hi/\hi<=n then some (σ.set id (.row e size' (els.take lo++m.take (hi-lo)++els.drop (lo+min m.length (hi-lo))) false),min m.length (hi-lo))else none
  |_=>none
 |_=>none
def z3Q (kind:Nat)(k:AV)(kv:List (AV×AV)):Option (List (AV×AV)):=(zaQ kind k kv 0).map fun
 |some (i,_)=>kv.eraseIdx i
 |none=>kv
def z3U (σ:zaa)(kind:Nat)(k:AV):AV->Option zaa
 | .nilm=>some σ
 | .map id=>match σ[id]? with
  |some (.mp kv)=>if zbr σ then(z3Q kind k kv).map λkv'=>σ.set id (.mp kv')else none
  |_=>none
 |_=>none
def z4c (σ:zaa):AV->Option zaa
 | .nilm=>some (σ++ [.itr none 0 [] 0])
 | .map id=>match σ[id]? with
  |some (.mp kv)=>some (σ++ [.itr (some id) kv.length (List.range kv.length) kv.length])
  |_=>none
 |_=>none
def zCG (σ:zaa)(f:Frame)(r:AV)(σ':zaa):EOp->Prop
 | .mkmap=>r=.map σ.length/\σ'=σ++ [.mp []]
 | .mset kind x k v=>r=.junk/\∃id kv kv',x.ev f=.map id/\σ[id]? =some (.mp kv)/\(k.ev f).pure=true/\zd2 kind (k.ev f) (v.ev f) kv=some kv'/\zbr σ=true/\σ'=σ.set id (.mp kv')
 | .clr size zero x=>r=.tup []/\z5G σ size zero (x.ev f)=some σ'
 | .cpy size x y=>∃m k,view σ (y.ev f)=some m/\(∀c∈m,c.length=size)/\0<size/\zyZ σ size m (x.ev f)=some (σ',k)/\r=.int .i64 (k:Nat)
 | .mdel kind x k=>r=.tup []/\z3U σ kind (k.ev f) (x.ev f)=some σ'
 | .rng x=>r=.ptr σ.length 0/\z4c σ (x.ev f)=some σ'
def zia:AV->Option AV
 | .str l=>if l.length<=140737488355328 then some (.lst (l.map λb=> [.int .u8 b.toNat]))else none
 |_=>none
def zaw [Globs](σ:zaa)(f:Frame):AOp->Option AV
 | .mv x=>some (x.ev f)
 | .pick c a b=>match c.ev f with
  | .bool c=>some (if c then a.ev f else b.ev f)
  |_=>none
 | .bin op x y=>abin op (x.ev f) (y.ev f)
 | .beq neg x y=>match x.ev f,y.ev f with
  | .bool a,.bool b=>some (.bool (if neg then a !=b else a==b))
  |_,_=>none
 | .eqs neg ks x y=>match x.ev f,y.ev f with
  | .agg l,.agg m=>(zil ks l m).map λb=> .bool (if neg then !b else b)
  |_,_=>none
 | .not x=>match x.ev f with
  | .bool b=>some (.bool !b)
  |_=>none
 | .neg x=>match x.ev f with
  | .int k n=>some (.int k (k.wrap (0-n)))
  |_=>none
 | .conv k x=>match x.ev f with
  | .int _ n=>some (.int k (k.wrap n))
  |_=>none
 | .ext x i=>match x.ev f with
  | .tup l=>l[i]?
  |_=>none
 | .build zero parts=>(parts.mapM λ(p:Nat×Nat×Opd)=>if(p.2.2.ev f).cells.length=p.2.1/\(p.2.2.ev f).cells.all AV.one then some (p.1,(p.2.2.ev f).cells)else none).map λl=> .agg (lay zero l)
 | .field off size ag x=>match x.ev f with
  | .agg l=>if off+size<=l.length then zg5 ag ((l.drop off).take size)else none
  |_=>none
 | .load ag size x=>(zbz σ (x.ev f) size).bind (zg5 ag)
 | .nilck x=>match x.ev f with
  | .ptr id off=>some (.ptr id off)
  | .rptr l=>some (.rptr l)
  | .rowp a b c d e=>some (.rowp a b c d e)
  | .gp a b=>some (.gp a b)
  | .fn (.func g) a b=>some (.fn (.func g) a b)
  |_=>none
 | .faddr off x=>match x.ev f with
  | .ptr id o=>some (.ptr id (o+off))
  | .rptr l=>if off<=l.length then some (.rptr (l.drop off))else none
  | .rowp id n size k o=>some (.rowp id n size k (o+off))
  | .gp g o=>some (.gp g (o+off))
  |_=>none
 | .iaddr size x i=>match zid (i.ev f),x.ev f with
  |some i,.lst l=>(l[i]?).bind λc=>if c.length=size then some (.rptr c)else none
  |some i,.row id n=>match σ[id]? with
   |some (.row _ size' els _)=>if els.length=n/\size'=size/\i<n then some (.rowp id n size i 0)else none
   |_=>none
  |some i,.sub id n sz lo hi=>if sz=size/\lo+i<hi then some (.rowp id n size (lo+i) 0)else none
  |some i,.asl id off n sz=>if sz=size/\i<n then some (.ptr id (off+i*size))else none
  |_,_=>none
 | .aaddr len size x i=>match zid (i.ev f),x.ev f with
  |some i,.ptr id o=>if i<len then some (.ptr id (o+i*size))else none
  |some i,.rptr l=>if i<len/\i*size<=l.length then some (.rptr (l.drop (i*size)))else none
  |some i,.rowp id n s k o=>if i<len then some (.rowp id n s k (o+i*size))else none
  |some i,.gp g o=>if i<len then some (.gp g (o+i*size))else none
  |_,_=>none
 | .sidx x i=>match zid (i.ev f),x.ev f with
  |some i,.str l=>(l[i]?).map λb=> .int .u8 b.toNat
  |_,_=>none
 | .aidx len size ag x i=>match zid (i.ev f),x.ev f with
  |some i,.agg l=>if i<len/\i*size+size<=l.length then zg5 ag ((l.drop (i*size)).take size)else none
  |_,_=>none
 | .slen x=>match x.ev f with
  | .str l=>some (.int .i64 l.length)
  |_=>none
 | .len x=>(view σ (x.ev f)).map λl=> .int .i64 l.length
 | .sslc x lo hi=>match x.ev f with
  | .str l=>(ze3 (hi.map (·.ev f)) l.length l.length).bind λh=>(ze3 (lo.map (·.ev f)) 0 h).map λlo=> .str ((l.take h).drop lo)
  |_=>none
 | .slc size x lo hi=>match x.ev f with
  | .nils=>(ze3 (hi.map (·.ev f)) 0 0).bind λh=>(ze3 (lo.map (·.ev f)) 0 h).map λ_=> .nils
  | .lst l=>if∀c∈l,c.length=size then(ze3 (hi.map (·.ev f)) l.length l.length).bind λh=>(ze3 (lo.map (·.ev f)) 0 h).map λlo=> .lst ((l.take h).drop lo)else none
  | .row id n=>match σ[id]? with
   |some (.row _ size' els true)=>if els.length=n/\size'=size then(ze3 (hi.map (·.ev f)) n n).bind λh=>(ze3 (lo.map (·.ev f)) 0 h).map λlo=> .lst ((els.take h).drop lo)else none
   |some (.row _ size' els false)=>if els.length=n/\size'=size then(if 0<n then(ze3 (hi.map (·.ev f)) n n).bind λh=>(ze3 (lo.map (·.ev f)) 0 h).map λlo=> .sub id n size lo h else(ze3 (hi.map (·.ev f)) n n).bind λh=>(ze3 (lo.map (·.ev f)) 0 h).map λ_=> .junk)else none
   |_=>none
  | .sub id n sz l0 h0=>if sz=size then(ze3 (hi.map (·.ev f)) (h0-l0) (h0-l0)).bind λh=>(ze3 (lo.map (·.ev f)) 0 h).map λlo=> .sub id n size (l0+lo) (l0+h)else none
  | .asl id off n sz=>if sz=size then(ze3 (hi.map (·.ev f)) n n).bind λh=>(ze3 (lo.map (·.ev f)) 0 h).map λlo=> .asl id (off+lo*size) (h-lo) size else none
  |_=>none
 | .mm mx x y=>match x.ev f,y.ev f with
  | .int k a,.int k' b=>if k=k' then some (.int k (if mx then(if a<b then b else a)else(if b<a then b else a)))else none
  |_,_=>none
 | .mkfn fn first captured=>some (.fn fn (first.map (·.ev f)) (captured.map (·.ev f)))
 | .mkif t x=>some (.iface t (x.ev f))
 | .px o=>ziY σ f o
 |_=>none
abbrev Key:=Nat->Nat->Option Value
def VRL (κ:Key)(Im:Addr->Prop)(w:World)(as:List AV)(vs:List Value):Prop:=as.length=vs.length/\∀j (h:j<as.length) (h':j<vs.length),VR κ Im w (as[j]) (vs[j])
def IRL (Im:Addr->Prop)(w:World)(as:List AV)(vs:List Value):Prop:=as.length=vs.length/\∀j (h:j<as.length) (h':j<vs.length),IR Im w (as[j]) (vs[j])
def Entry.block (κ:Key)(id:Nat):Entry->Option Nat
 | .dead _=>none
 | .var _ _=>match κ id 0 with
  |some (.pointer (some a))=>some a.block
  |_=>none
 | .row _ _ els _=>(κ id els.length).bind Value.ownBlock
 | .mp _=>match κ id 0 with
  |some (.map (some b))=>some b
  |_=>none
 | .itr ..| .obj _=>match κ id 0 with
  |some (.pointer (some a))=>some a.block
  |_=>none
def Born (es:Array MapEntry)(clock:Nat):Prop:=(es.toList.map (·.born)).Nodup/\∀x∈es.toList,x.born<clock
def ItOK (es:Array MapEntry)(clock since:Nat)(seen:Array Nat)(c0 n:Nat)(left:List Nat)(last:Nat):Prop:=es.size=n/\(es.toList.map (·.born)).Nodup/\(∀x∈es.toList,x.born<since)/\since<=c0/\since<=clock/\left.Nodup/\(∀j∈left,j<n)/\(∀j (h:j<es.size),j∈left↔seen.contains (es[j]).born=false)/\(∀(h:last<es.size),c0=clock/\seen.back? =some (es[last]).born)
def EOK (κ:Key)(Im:Addr->Prop)(base:Nat)(w:World)(id:Nat):Entry->Prop
 | .dead _=>True
 | .var t cells=>∃b cs,κ id 0=some (.pointer (some ⟨b,0,none⟩))/\base<=b/\w.heap[b]? =some (.cells cs t (0,0))/\VRL κ Im w cells cs.toList/\(∀c∈cells,c.one=true)/\∀a,Im a->a.block≠b
 | .row e size els im=>∃v xs,κ id els.length=some v/\w.ownsRow base e size v els.length xs/\VRL κ Im w els.flatten xs/\0<size/\(∀c∈els,c.length=size)/\(∀c∈els,∀x∈c,x.one=true)/\(im=true->IRL Im w els.flatten xs)/\∀g,v.ownBlock=some g->(∀a,Im a->a.block=g->im=true/\a.off<els.length*size)/\(im=true->∀o,o<els.length*size->Im ⟨g,o,none⟩)
 | .mp kv=>∃b es clock,κ id 0=some (.map (some b))/\base<=b/\w.heap[b]? =some (.map es clock)/\es.size=kv.length/\(∀j (h:j<kv.length) (h':j<es.size),IR Im w (kv[j]).1 (es[j]).key/\VR κ Im w (kv[j]).2 (es[j]).val)/\(∀a,Im a->a.block≠b)/\Born es clock
 | .itr mid n left last=>∃b,κ id 0=some (.pointer (some ⟨b,0,none⟩))/\base<=b/\(∀a,Im a->a.block≠b)/\match mid with
   |none=>w.heap[b]? =some (.mapIter none 0 #[] 0)/\left= []
   |some m=>∃c es clock since seen c0,κ m 0=some (.map (some c))/\w.heap[c]? =some (.map es clock)/\w.heap[b]? =some (.mapIter (some c) since seen c0)/\ItOK es clock since seen c0 n left last
 | .obj o=>∃b,κ id 0=some (.pointer (some ⟨b,0,none⟩))/\base<=b/\(∀a,Im a->a.block≠b)/\w.heap[b]? =some o/\∀es clock,o≠ .map es clock
def Entry.ver:Entry->Nat
 | .row _ _ els _=>els.length
 | .dead n=>n
 |_=>0
def GOK [Globs](base:Nat)(Im:Addr->Prop)(w:World):Prop:=∀p∈Globs.tab,p.1<base/\(∃cs t fz,w.heap[p.1]? =some (.cells cs t fz)/\cs.size=p.2.length)/\IR Im w (.rptr p.2) (.pointer (some ⟨p.1,0,none⟩))
theorem GOK.mono {G:Globs}{base base':Nat}{Im Im':Addr->Prop}{w w':World}(h:GOK base Im w)(hb:base<=base')(hIm:∀a,Im a->Im' a)(hc:∀a,Im a->w'.cell? a=w.cell? a)(hh:∀k,k<base->w'.heap[k]? =w.heap[k]?):GOK base' Im' w':=λp g=>by obtain⟨b,⟨c,t,fz,d,e⟩,f⟩:=h p g;exact⟨ycc b hb,⟨c,t,fz,(hh _ b).trans d,e⟩,f.mono hIm hc⟩
structure SRel [Globs](base:Nat)(κ:Key)(Im:Addr->Prop)(σ:zaa)(w:World):Prop where
 hb:base<=w.heap.size
 dom:∀id n v,κ id n=some v->∃e,σ[id]? =some e/\n<=e.ver
 ent:∀id e,σ[id]? =some e->EOK κ Im base w id e
 sep:∀(i j:Nat) (e e':Entry) (b:Nat),i≠j->σ[i]? =some e->σ[j]? =some e'->e.block κ i=some b->e'.block κ j≠some b
 imlt:∀a,Im a->a.block<w.heap.size/\a.spot=none
 glob:GOK base Im w
structure Grow (base:Nat)(κ:Key)(Im:Addr->Prop)(w:World)(κ':Key)(Im':Addr->Prop)(w':World):Prop where
 kap:∀i n v,κ i n=some v->κ' i n=some v
 im:∀a,Im a->Im' a
 cell:∀a,Im a->w'.cell? a=w.cell? a
 new:∀a,Im' a->Im a∨base<=a.block
 below:Below base w w'
theorem Grow.refl (base:Nat)(κ:Key)(Im:Addr->Prop)(w:World):Grow base κ Im w κ Im w:=⟨λ_ _ _ h=>h,λ_ h=>h,λ_ _=>rfl,λ_ h=> .inl h,Below.refl _ _⟩
theorem Grow.trans {base:Nat}{κ κ' κ'':Key}{Im Im' Im'':Addr->Prop}{w w' w'':World}(h:Grow base κ Im w κ' Im' w')(h':Grow base κ' Im' w' κ'' Im'' w''):Grow base κ Im w κ'' Im'' w'':=⟨λi n v b=>h'.kap _ _ _ (h.kap _ _ _ b),λa b=>h'.im _ (h.im _ b),λa b=>(h'.cell _ (h.im _ b)).trans (h.cell _ b),λa b=>(h'.new a b).elim (λx=>h.new a x) .inr,h.below.trans h'.below⟩
theorem VR.grow {base:Nat}{κ κ':Key}{Im Im':Addr->Prop}{w w':World}(g:Grow base κ Im w κ' Im' w'){a:AV}{v:Value}(h:VR κ Im w a v):VR κ' Im' w' a v:=h.mono g.kap g.im g.cell
theorem VRL.grow {base:Nat}{κ κ':Key}{Im Im':Addr->Prop}{w w':World}(g:Grow base κ Im w κ' Im' w'){a:List AV}{v:List Value}(h:VRL κ Im w a v):VRL κ' Im' w' a v:=⟨h.1,λj c b=>(h.2 j c b).grow g⟩
def FRel (κ:Key)(Im:Addr->Prop)(w:World)(f:Frame)(a:Act):Prop:=∀t,VR κ Im w (f t) (a.tmps.getD t undef)
theorem FRel.grow {base:Nat}{κ κ':Key}{Im Im':Addr->Prop}{w w':World}(g:Grow base κ Im w κ' Im' w'){f:Frame}{a:Act}(h:FRel κ Im w f a):FRel κ' Im' w' f a:=λt=>(h t).grow g
variable [Globs]
def ACalls (P:Program)(f:FuncId)(args:List AV)(σ:zaa)(R:AV->zaa->Prop):Prop:=∀base κ Im w vs,SRel base κ Im σ w->VRL κ Im w args vs->Calls P f vs.toArray w λe w'=>∃r σ' v κ' Im',e=.returned v/\R r σ'/\SRel base κ' Im' σ' w'/\Grow base κ Im w κ' Im' w'/\VR κ' Im' w' r v
def PCalls (P:Program)(f:FuncId)(args:List AV)(R:AV->Prop):Prop:=ACalls P f args [] λr σ'=>σ'= []/\R r
theorem ACalls.mono {P:Program}{f:FuncId}{args:List AV}{σ:zaa}{R R':AV->zaa->Prop}(h:ACalls P f args σ R)(hr:∀r σ',R r σ'->R' r σ'):ACalls P f args σ R':=λbase κ Im w b c d=>(h base κ Im w b c d).mono λ_ _ ⟨r,σ',v,κ',Im',e,g,a⟩=>⟨r,σ',v,κ',Im',e,hr _ _ g,a⟩
theorem PCalls.mono {P:Program}{f:FuncId}{args:List AV}{R R':AV->Prop}(h:PCalls P f args R)(hr:∀r,R r->R' r):PCalls P f args R':=ACalls.mono h λ_ _ ⟨a,b⟩=>⟨a,hr _ b⟩
inductive Coe (σ:zaa)(lend:Bool):AV->AV->Prop
 |pure (a:AV) (h:a.pure=true):Coe σ lend a a
 |nils:Coe σ lend .nils (.lst [])
 |row (id n e size:Nat) (els:List (List AV)) (im:Bool) (h:σ[id]? =some (.row e size els im)) (hn:els.length=n) (hp:im=true∨(lend=true/\∀c∈els,∀x∈c,x.pure=true)):Coe σ lend (.row id n) (.lst els)
 |ptr (id off:Nat) (t:TypeId) (cells cells':List AV) (h:σ[id]? =some (.var t cells)) (hl:lend=true) (hoff:off<=cells.length) (hlen:cells'.length=cells.length) (hp:∀j (h:j<cells.length) (h':j<cells'.length),Coe σ lend (cells[j]) (cells'[j])) (hone:∀c∈cells',c.one=true):Coe σ lend (.ptr id off) (.rptr (cells'.drop off))
 |fn (f:Fn) (l l' m m':List AV) (h1:l.length=l'.length) (h2:m.length=m'.length) (hl:∀j (h:j<l.length) (h':j<l'.length),Coe σ lend (l[j]) (l'[j])) (hm:∀j (h:j<m.length) (h':j<m'.length),Coe σ lend (m[j]) (m'[j])):
   Coe σ lend (.fn f l m) (.fn f l' m')
 |agg (l l':List AV) (h1:l.length=l'.length) (hone:∀c∈l',c.one=true) (hl:∀j (h:j<l.length) (h':j<l'.length),Coe σ lend (l[j]) (l'[j])):Coe σ lend (.agg l) (.agg l')
inductive CoeL (σ:zaa)(lend:Bool):List AV->List AV->Prop
 |nil:CoeL σ lend [] []
 |cons {a b:AV} {l m:List AV} (h:Coe σ lend a b) (hl:CoeL σ lend l m):CoeL σ lend (a::l) (b::m)
def rig:AV->Bool
 | .int ..| .bool _| .str _| .flt ..| .nilp| .nilm| .nilf| .nili| .any _| .gp ..=>true
 | .tup l| .agg l=>l.attach.all λ⟨x,_⟩=>rig x
 | .iface _ v=>rig v
 |_=>false
def zuX (P:Program)(σ:zaa)(K:AV->zaa->Prop)(f:FuncId)(args:List AV):Prop:=(∃args' R,CoeL σ false args args'/\PCalls P f args' R/\∀r,R r->K r σ)∨
 (∃args' R,CoeL σ true args args'/\PCalls P f args' R/\∀r,R r->rig r=true/\K r σ)∨
 ACalls P f args σ K
def zvA (P:Program)(σ:zaa)(K:AV->zaa->Prop)(f:FuncId)(args:List AV):Prop:=∃(lend:Bool) (args':List AV) (r:AV),CoeL σ lend args args'/\PCalls P f args' (λr'=>r'=r)/\(lend=true->rig r=true)/\K r σ
def zgp (σ:zaa):AV->Option (List (List AV))
 | .nils=>some []
 | .lst l=>some l
 | .row id n=>match σ[id]? with
  |some (.row _ _ els true)=>if els.length=n then some els else none
  |_=>none
 |_=>none
def znD (σ:zaa)(y:AV)(m:List (List AV)):Prop:=zgp σ y=some m∨∀c∈m,∀x∈c,x.pure=true
def byteEls (l:List UInt8):List (List AV):=l.map λb=> [.int .u8 b.toNat]
def zaL (P:Program)(f:FuncId):Bool:=match P.funcs[f]? with
 | some fn => fn.body.isSome && fn.name != "runtime.NumGoroutine"
 |none=>false
def zat (P:Program)(K:AV->zaa->Prop)(f:Frame)(σ:zaa):AOp->Prop
 | .alloc t cells=>K (.ptr σ.length 0) (σ++ [.var t cells])
 | .box t x=>(∀c∈(x.ev f).cells,c.one=true)/\K (.ptr σ.length 0) (σ++ [.var t (x.ev f).cells])
 | .store size x v=>∃σ',(v.ev f).cells.length=size/\(∀c∈(v.ev f).cells,c.one=true)/\zzn σ (x.ev f) (v.ev f).cells=some σ'/\K .junk σ'
 | .mkslice e size bytes zero len cap=>∃n c,zid (len.ev f)=some n/\zid (cap.ev f)=some c/\n<=c/\c*bytes<=140737488355328/\c<=9223372036854775807/\0<size/\zero.length=size/\K (.row σ.length n) (σ++ [.row e size (List.replicate n zero) false])
 | .mklst _ size zero n parts=>∃ps,(parts.mapM λ(p:Nat×Opd)=>(share σ (p.2.ev f)).bind λv=>if v.cells.length=size/\v.cells.all AV.one then some (p.1*size,v.cells)else none)=some ps/\K (.lst (zaY n size (lay (List.replicate n zero).flatten ps))) σ
 | .mkrow e size zero n parts=>∃ps,(parts.mapM λ(p:Nat×Opd)=>if(p.2.ev f).cells.length=size/\(p.2.ev f).cells.all AV.one then some (p.1*size,(p.2.ev f).cells)else none)=some ps/\0<size/\K (.row σ.length n) (σ++ [.row e size (zaY n size (lay (List.replicate n zero).flatten ps)) false])
 | .app e size bytes x y=>∃m,view σ (y.ev f)=some m/\0<size/\(∀c∈m,c.length=size)/\match x.ev f with
   | .nils=>(m= []/\K .nils σ)∨∃im,(im=true->znD σ (y.ev f) m)/\m.length*bytes<=140737488355328/\m.length<=9223372036854775807/\K (.row σ.length m.length) (σ++ [.row e size m im])
   | .row id n=>∃els im,σ[id]? =some (.row e size els im)/\(im=true->znD σ (y.ev f) m)/\els.length=n/\(n+m.length)*bytes<=140737488355328/\n+m.length<=9223372036854775807/\K (.row id (n+m.length)) (σ.set id (.row e size (els++m) im))
   | .sub id n sz lo hi=>∃els,σ[id]? =some (.row e size els false)/\els.length=n/\0<n/\sz=size/\lo=0/\(hi+m.length)*bytes<=140737488355328/\hi+m.length<=9223372036854775807/\K (.row σ.length (hi+m.length)) (σ.set id (.dead n)++ [.row e size (els.take hi++m) false])
   | .tight l=>∃im,(∀c∈l,c.length=size)/\m≠ []/\(im=true->znD σ (y.ev f) m)/\(l.length+m.length)*bytes<=140737488355328/\l.length+m.length<=9223372036854775807/\K (.row σ.length (l.length+m.length)) (σ++ [.row e size (l++m) im])
   |_=>False
 | .apps e x y=>∃l,y.ev f=.str l/\match x.ev f with
   | .nils=>(l= []/\K .nils σ)∨∃im,l.length<=140737488355328/\K (.row σ.length l.length) (σ++ [.row e 1 (byteEls l) im])
   | .row id n=>∃els im,σ[id]? =some (.row e 1 els im)/\els.length=n/\n+l.length<=140737488355328/\K (.row id (n+l.length)) (σ.set id (.row e 1 (els++byteEls l) im))
   |_=>False
 | .call fn args=>zuX P σ K fn (args.map (·.ev f))
 | .callv x args=>match x.ev f with
  | .fn (.func g) first captured=>zaL P g=true/\zuX P σ K g (first++args.map (·.ev f)++captured)
  |_=>False
 | .qcall fn args=>zvA P σ K fn (args.map (·.ev f))
 | .qcallv x args=>match x.ev f with
  | .fn (.func g) first captured=>zaL P g=true/\zvA P σ K g (first++args.map (·.ev f)++captured)
  |_=>False
 | .bad=>False
 | .tobytes x=>∃r,zia (x.ev f)=some r/\K r σ
 | .ex o=>∃r σ',zCG σ f r σ' o/\K r σ'
 | .apt e size bytes x y=>∃(l m:List (List AV)) (im:Bool),x.ev f=.tight l/\view σ (y.ev f)=some m/\0<size/\(∀c∈m,c.length=size)/\(∀c∈l,c.length=size)/\m≠ []/\(im=true->znD σ (y.ev f) m)/\(l.length+m.length)*bytes<=140737488355328/\l.length+m.length<=9223372036854775807/\K (.row σ.length (l.length+m.length)) (σ++ [.row e size (l++m) im])
 | .nxt x=>match x.ev f with
  | .ptr id 0=>match σ[id]? with
   |some (.itr mid n left last)=>(left= []->K (.tup [.bool false]) σ)/\∀i∈left,K (.tup [.bool true,.junk,.junk]) (σ.set id (.itr mid n (left.erase i) i))
   |_=>False
  |_=>False
 | .nlc neg x=>match x.ev f with
  | .lst []=>∀b:Bool,K (.bool b) σ
  |v=>∃b,zix 3 v=some b/\K (.bool (if neg then !b else b)) σ
 |o=>∃r,zaw σ f o=some r/\K r σ
def zyJ (v:AV)(b w:Bool):Prop:=(v=.any undef/\w=false)∨∃c,v=.bool c/\w=(c==b)
def zbf (P:Program)(K:Frame->zaa->Prop)(i:AIns)(f:Frame)(σ:zaa):Prop:=match i.g with
 |none=>zat P (λr σ'=>K (f.put i.d r) σ') f σ i.o
 |some (t,b)=>∃w,zyJ (f t) b w/\(w=true->zat P (λr σ'=>K (f.put i.d r) σ') f σ i.o)/\(w=false->K (f.put i.d (.any undef)) σ)
def zcZ (P:Program)(Q:Frame->zaa->Prop):List AIns->Frame->zaa->Prop
 | [],f,σ=>Q f σ
 |i::rest,f,σ=>zbf P (zcZ P Q rest) i f σ
def AExit.then (N:Frame->zaa->Prop)(Q:AExit->Frame->zaa->Prop):AExit->Frame->zaa->Prop
 | .normal,f,σ=>N f σ
 |e,f,σ=>Q e f σ
def AExit.inBlock (id:Nat)(Q:AExit->Frame->zaa->Prop):AExit->Frame->zaa->Prop
 | .exit id',f,σ=>if id'=id then Q .normal f σ else Q (.exit id') f σ
 |e,f,σ=>Q e f σ
def Frz (σ σ':zaa):Prop:=∃(id e size:Nat) (els els':List (List AV)),σ[id]? =some (.row e size els false)/\(els.mapM λ(c:List AV)=>c.mapM (zfJ σ))=some els'/\σ'=σ.set id (.row e size els' true)
def awp (P:Program):ACode->(AExit->Frame->zaa->Prop)->Frame->zaa->Prop
 | .skip,Q,f,σ=>Q .normal f σ
 | .ops l,Q,f,σ=>zcZ P (Q .normal) l f σ
 | .all ls,Q,f,σ=>∀l∈ls,zcZ P (Q .normal) l f σ
 | .seq a b,Q,f,σ=>awp P a (AExit.then (awp P b Q) Q) f σ
 | .cond c x y,Q,f,σ=>∃b,c.ev f=.bool b/\(b=true->awp P x Q f σ)/\(b=false->awp P y Q f σ)
 | .block id c,Q,f,σ=>awp P c (AExit.inBlock id Q) f σ
 | .loop c,Q,f,σ=>∃(I:Nat->Frame->zaa->Prop) (n:Nat),I n f σ/\∀n f σ,I n f σ->awp P c (AExit.then (λf' σ'=>∃n',n'<n/\I n' f' σ') Q) f σ
 | .exit id,Q,f,σ=>Q (.exit id) f σ
 | .ret,Q,f,σ=>Q .ret f σ
 | .gh,Q,f,σ=>Q .normal f σ∨∃σ',Frz σ σ'/\Q .normal f σ'
 | .bad,_,_,_=>False
end Go.Abs
namespace Go.Abs
open Go.RowKit
def const1:Value->Option AV
 | .int k n=>some (.int k n)
 | .bool b=>some (.bool b)
 | .float k b=>some (.flt k b)
 | .string s=>some (.str s.data.toList)
 | .pointer none=>some .nilp
 | .slice none 0 0=>some .nils
 | .map none=>some .nilm
 | .nilFunc=>some .nilf
 | .nilIface=>some .nili
 |_=>none
def constAV:Value->Option AV
 | .agg cs=>(cs.toList.mapM const1).map .agg
 |v=>const1 v
def opd:Operand->Option Opd
 | .tmp t=>some (.s t)
 | .const v=>(constAV v).map .c
 | .func f=>some (.c (.fn (.func f) [] []))
 | .global g=>some (.c (.gp g 0))
def zga (P:Program)(t:TypeId):Option (List AV):=do
 let i<-P.info? t;let z<-i.zero
 z.cells.toList.mapM const1
def zpH (P:Program)(t:TypeId):Option Bool:=match P.underlying t with
 |some (.struct _)|some (.array _ _)=>some true
 |some _=>some false
 |none=>none
def sizeOf? (P:Program)(t:TypeId):Option Nat:=(P.info? t).map (·.size)
def zfC (P:Program):Nat->List Field->Option (List Nat)
 |_,[]=>some []
 | i, f :: fs => if f.name ≠ "_" ∧ f.offset = i then
   match P.underlying f.type with
   |some (.int _)=>(zfC P (i+1) fs).map (0:: ·)
   |some .string=>(zfC P (i+1) fs).map (1:: ·)
   |some .bool=>(zfC P (i+1) fs).map (2:: ·)
   |_=>none
  else none
def zjx (P:Program)(t:TypeId):Option (List Nat):=match P.underlying t with
 |some (.struct fs)=>if P.stoodInHeld t=false/\P.eqGuardType P.depth t=false then zfC P 0 fs.toList else none
 |_=>none
def zdV (P:Program)(b:Builtin)(ts:List TypeId)(args:List Opd):Option AOp:=match b,ts,args with
 | .len,[t],[x]=>match P.underlying t with
  |some .string=>some (.slen x)
  |some (.slice _)=>some (.len x)
  |some (.array n _)=>some (.mv (.c (.int .i64 n)))
  |_=>none
 | .min,[_,_],[x,y]=>some (.mm false x y)
 | .max,[_,_],[x,y]=>some (.mm true x y)
 | .append,[s,t],[x,y]=>if s=t then match P.underlying s with
  |some (.slice e)=>match P.info? e with
   |some i=>match i.zero with
    |some z=>if z.cells.size=i.size/\0<i.size then some (.app e i.size i.bytes x y)else none
    |none=>none
   |none=>none
  |_=>none
  else match P.underlying s,P.underlying t with
   |some (.slice e),some .string=>match P.info? e with
    |some i=>match i.zero with
     |some (.int .u8 0)=>if i.size=1/\i.bytes=1 then some (.apps e x y)else none
     |_=>none
    |none=>none
   |_,_=>none
 |_,_,_=>none
def zqe (n:Nat)(place:Nat->Option (Nat×Nat))(p:Nat×Operand):Option (Nat×Nat×Opd):=match place p.1,opd p.2 with
 |some (off,s),some x=>if off+s<=n then some (off,s,x)else none
 |_,_=>none
def znf (len:Nat)(p:Nat×Operand):Option (Nat×Opd):=match opd p.2 with
 |some x=>if p.1<len then some (p.1,x)else none
 |none=>none
def znU (P:Program)(o:Oper):Option AOp:=match o.op with
 | .move x| .assign x=>(opd x).map .mv
 | .pick c a b=>do return .pick (<-opd c) (<-opd a) (<-opd b)
 | .alloc t=>(zga P t).map (.alloc t)
 | .box t x=>(opd x).map (.box t)
 | .build t parts=>match P.underlying t with
  |some (.struct fs)=>do
   let z<-zga P t;let places<-fs.toList.mapM (λf=>(P.info? f.type).map λi=>(f.offset,i.size));let ps<-parts.toList.mapM (zqe z.length λi=>places.toArray[i]?)
   return .build z ps
  |some (.array _ e)=>do
   let z<-zga P t;let s<-sizeOf? P e;let ps<-parts.toList.mapM (zqe z.length λi=>some (i*s,s))
   return .build z ps
  |_=>none
 | .buildSlice t len parts=>match P.underlying t with
  |some (.slice e)=>do
   let s<-sizeOf? P e;let z<-zga P e
   if len*s<=16777216/\z.length=s/\0<s then do
    let ps<-parts.toList.mapM (znf len)
    return .mklst e s z len ps
   else none
  |_=>none
 | .load t x=>do return .load (<-zpH P t) (<-sizeOf? P t) (<-opd x)
 | .store t x v=>do return .store (<-sizeOf? P t) (<-opd x) (<-opd v)
 | .nilCheck x=>(opd x).map .nilck
 | .binOp op t x y _=>match P.underlying t with
  |some .bool=>match op with
   | .eql=>do return .beq false (<-opd x) (<-opd y)
   | .neq=>do return .beq true (<-opd x) (<-opd y)
   |_=>none
  |some (.int _)|some .string=>match op with
   | .add| .sub| .mul| .quo| .rem| .eql| .neq| .lss| .leq| .gtr| .geq=>do return .bin op (<-opd x) (<-opd y)
   |_=>none
  |_=>match op with
   | .eql=>do return .eqs false (<-zjx P t) (<-opd x) (<-opd y)
   | .neq=>do return .eqs true (<-zjx P t) (<-opd x) (<-opd y)
   |_=>none
 | .unOp .not _ x=>(opd x).map .not
 | .unOp .neg _ x=>(opd x).map .neg
 | .convert s t x=>match P.underlying s,P.underlying t with
  |some (.int _),some (.int k)=>(opd x).map (.conv k)
  |_,_=>none
 | .makeInterface t x=>match P.underlying t with
  |some (.interface _)=>none
  |some _=>(opd x).map (.mkif t)
  |none=>none
 | .makeFunc fn first captured=>do return .mkfn fn (<-first.toList.mapM opd) (<-captured.toList.mapM opd)
 | .makeSlice t l c=>match P.underlying t with
  |some (.slice e)=>do
   let i<-P.info? e;let z<-zga P e
   if z.length=i.size/\0<i.size then return .mkslice e i.size i.bytes z (<-opd l) (<-opd c)else none
  |_=>none
 | .slice t x lo hi none=>match P.underlying t with
  |some .string=>do return .sslc (<-opd x) (<-lo.mapM opd) (<-hi.mapM opd)
  |some (.slice e)=>do return .slc (<-sizeOf? P e) (<-opd x) (<-lo.mapM opd) (<-hi.mapM opd)
  |_=>none
 | .fieldAddr t x i=>match P.underlying t with
  |some (.struct fs)=>do
   let f<-fs[i]?;let s<-sizeOf? P f.type
   if s=0 then none else return .faddr f.offset (<-opd x)
  |_=>none
 | .field t x i=>match P.underlying t with
  |some (.struct fs)=>do
   let f<-fs[i]?
   return .field f.offset (<-sizeOf? P f.type) (<-zpH P f.type) (<-opd x)
  |_=>none
 | .indexAddr t x i=>match P.underlying t with
  |some (.slice e)=>do return .iaddr (<-sizeOf? P e) (<-opd x) (<-opd i)
  |some (.array n e)=>do return .aaddr n (<-sizeOf? P e) (<-opd x) (<-opd i)
  |_=>none
 | .index t x i=>match P.underlying t with
  |some .string=>do return .sidx (<-opd x) (<-opd i)
  |some (.array n e)=>do return .aidx n (<-sizeOf? P e) (<-zpH P e) (<-opd x) (<-opd i)
  |_=>none
 | .extract x i=>do return .ext (<-opd x) i
 | .call c=>match c.callee with
  | .value (.func f)=>match P.funcs[f]? with
   |some _=>if zaL P f then do return .call f (<-c.args.toList.mapM opd)else none
   |none=>none
  | .value (.tmp t)=>do return .callv (.s t) (<-c.args.toList.mapM opd)
  | .builtin b=>do zdV P b c.argTypes.toList (<-c.args.toList.mapM opd)
  |_=>none
 |_=>none
def zrz (P:Program)(op:BinOp)(t:TypeId)(x y:Operand):Option (Nat×Bool×Operand):=match op with
 | .eql| .neq=>match P.underlying t,y with
  |some (.interface _),.const .nilIface=>some (0,op==.neq,x)
  |some (.func _ _ _),.const .nilFunc=>some (1,op==.neq,x)
  |some (.pointer _),.const (.pointer none)=>some (2,op==.neq,x)
  |some (.slice _),.const (.slice none 0 0)=>some (3,op==.neq,x)
  |some (.map _ _),.const (.map none)=>some (4,op==.neq,x)
  |_,_=>none
 |_=>none
def zes (P:Program)(t:TypeId):Option Nat:=match P.underlying t with
 |some (.int _)=>some 0
 |some .string=>some 1
 |some .bool=>some 2
 |_=>none
def zzt (P:Program)(o:Oper):Option AOp:=match o.op with
 | .binOp op t x y _=>match zrz P op t x y with
  |some (k,n,z)=>(opd z).map λz=>if k=3 then .nlc n z else .px (.isnil k n z)
  |none=>match P.underlying t with
   |some (.int _)=>match op with
    | .and| .or| .xor| .andNot| .shl| .shr=>do return .px (.bit op (<-opd x) (<-opd y))
    |_=>none
   |_=>none
 | .unOp .xor _ x=>(opd x).map λx=> .px (.inv x)
 | .convert s t x=>match P.underlying s,P.underlying t with
  |some .string,some (.slice e)=>match P.underlying e with
   |some (.int .u8)=>(opd x).map .tobytes
   |_=>none
  |some (.slice e),some .string=>match P.underlying e,P.info? e with
   |some (.int .u8),some i=>if i.size=1 then(opd x).map λx=> .px (.tostr x)else none
   |_,_=>none
  |_,_=>none
 | .slice t x lo hi none=>match P.underlying t with
  |some (.array n e)=>do
   let sz<-sizeOf? P e
   if 0<sz/\n<=16777216 then return .px (.aslc n sz (<-opd x) (<-lo.mapM opd) (<-hi.mapM opd))else none
  |_=>none
 | .makeMap _ none=>some (.ex .mkmap)
 | .mapUpdate t m k x| .insert t m k x=>match P.underlying t with
  |some (.map kt _)=>do return .ex (.mset (<-zes P kt) (<-opd m) (<-opd k) (<-opd x))
  |_=>none
 | .lookup t x k ok=>match P.underlying t with
  |some (.map kt e)=>do return .px (.look (<-zes P kt) (<-constAV (<-(<-P.info? e).zero)) ok (<-opd x) (<-opd k))
  |_=>none
 | .call c=>match c.callee with
  | .builtin .len=>match c.argTypes.toList,c.args.toList with
   | [t],[x]=>match P.underlying t with
    |some (.map _ _)=>(opd x).map λx=> .px (.mlen x)
    |_=>none
   |_,_=>none
  | .builtin .copy=>match c.argTypes.toList,c.args.toList with
   | [t,_],[x,y]=>match P.underlying t with
    |some (.slice e)=>do
     let i<-P.info? e
     if 0<i.size then return .ex (.cpy i.size (<-opd x) (<-opd y))else none
    |_=>none
   |_,_=>none
  | .builtin .clear=>match c.argTypes.toList,c.args.toList with
   | [t],[x]=>match P.underlying t with
    |some (.slice e)=>do
     let i<-P.info? e;let z<-zga P e
     if z.length=i.size/\0<i.size then return .ex (.clr i.size z (<-opd x))else none
    |_=>none
   |_,_=>none
  | .builtin .delete=>match c.argTypes.toList,c.args.toList with
   | [t,_],[x,k]=>match P.underlying t with
    |some (.map kt _)=>do return .ex (.mdel (<-zes P kt) (<-opd x) (<-opd k))
    |_=>none
   |_,_=>none
  | .value (.func g)=>match P.funcs[g]? with
   | some fn => if fn.body.isNone ∧ fn.name = "math/bits.Add64" ∧ fn.origin = "" then match c.args.toList with
    | [x,y,z]=>do return .px (.cry (<-opd x) (<-opd y) (<-opd z))
    |_=>none
    else none
   |none=>none
  |_=>none
 | .slice t x none (some hi) (some mx)=>match P.underlying t with
  |some (.slice e)=>do return .px (.sl3 (<-sizeOf? P e) (<-opd x) (<-opd hi) (<-opd mx))
  |_=>none
 | .range t x=>match P.underlying t with
  |some (.map _ _)=>(opd x).map λx=> .ex (.rng x)
  |_=>none
 | .next x false=>(opd x).map .nxt
 | .entry x=>(opd x).map λx=> .px (.ient x)
 |_=>none
def zwk (P:Program)(o:Oper):Option AOp:=match znU P o with
 |some a=>some a
 |none=>zzt P o
def zDC (N:Nat):Option Tmp->Bool
 |some d=>decide (d<N)
 |none=>true
def zdi (P:Program)(N:Nat)(ops:Array Oper)(o:Oper):AIns:=let bad:AIns:=⟨none,none,.bad⟩
 if zDC N o.dst then
  match zwk P o with
  |none=>bad
  |some a=>match o.guard with
   |none=>⟨none,o.dst,a⟩
   |some (j,b)=>match (ops[j]?).bind (·.dst)with
    |some t=>⟨some (t,b),o.dst,a⟩
    |none=>bad
 else bad
def AOp.neutral:AOp->Bool
 | .alloc ..| .box ..| .store ..| .mkslice ..| .mkrow ..| .app ..| .apps ..| .bad| .call ..| .callv ..| .ex _| .nlc ..| .nxt ..| .apt ..=>false
 |_=>true
def AOp.blind:AOp->Bool
 | .alloc ..| .box ..| .store ..| .mkslice ..| .mkrow ..| .app ..| .apps ..| .bad| .nlc ..| .call ..| .callv ..| .qcall ..| .qcallv ..| .load ..| .len ..| .iaddr ..| .slc ..| .mklst ..| .ex _| .nxt ..| .apt ..| .px (.tostr _)| .px (.look ..)| .px (.mlen _)| .px (.sl3 ..)| .px (.ient _)=>false
 |_=>true
def AOp.makes:AOp->Bool
 | .alloc ..| .box ..| .mkslice ..| .mkrow ..| .ex .mkmap| .apt ..=>true
 |_=>false
def Opd.slots:Opd->List Nat
 | .s t=> [t]
 | .c _=> []
def XOp.reads:XOp->List Nat
 | .isnil _ _ x| .tostr x| .mlen x| .inv x=>x.slots
 | .look _ _ _ x y| .bit _ x y=>x.slots++y.slots
 | .cry x y z=>x.slots++y.slots++z.slots
 | .iload _ _ x=>x.slots
 | .iidx _ x i=>x.slots++i.slots
 | .aslc _ _ x lo hi=>x.slots++(lo.toList.flatMap Opd.slots)++(hi.toList.flatMap Opd.slots)
 | .sl3 _ x hi mx=>x.slots++hi.slots++mx.slots
 | .ient x=>x.slots
def EOp.reads:EOp->List Nat
 | .mkmap=> []
 | .mset _ x k v=>x.slots++k.slots++v.slots
 | .clr _ _ x=>x.slots
 | .cpy _ x y=>x.slots++y.slots
 | .mdel _ x k=>x.slots++k.slots
 | .rng x=>x.slots
def AOp.reads:AOp->List Nat
 | .px o=>o.reads
 | .ex o=>o.reads
 | .tobytes x=>x.slots
 | .nlc _ x=>x.slots
 | .nxt x=>x.slots
 | .mv x| .not x| .neg x| .conv _ x| .ext x _| .box _ x| .field _ _ _ x| .load _ _ x| .nilck x| .faddr _ x| .slen x| .len x| .mkif _ x=>x.slots
 | .pick a b c=>a.slots++b.slots++c.slots
 | .bin _ x y| .beq _ x y| .eqs _ _ x y| .store _ x y| .iaddr _ x y| .aaddr _ _ x y| .sidx x y| .aidx _ _ _ x y| .mkslice _ _ _ _ x y| .app _ _ _ x y| .apt _ _ _ x y| .apps _ x y| .mm _ x y=>x.slots++y.slots
 | .alloc _ _| .bad=> []
 | .build _ ps=>ps.flatMap λp=>p.2.2.slots
 | .sslc x lo hi| .slc _ x lo hi=>x.slots++(lo.toList.flatMap Opd.slots)++(hi.toList.flatMap Opd.slots)
 | .mklst _ _ _ _ ps| .mkrow _ _ _ _ ps=>ps.flatMap λp=>p.2.slots
 | .call _ l| .qcall _ l=>l.flatMap Opd.slots
 | .callv x l| .qcallv x l=>x.slots++l.flatMap Opd.slots
 | .mkfn _ l m=>l.flatMap Opd.slots++m.flatMap Opd.slots
def AIns.reads (i:AIns):List Nat:=(match i.g with|some (t,_)=> [t]|none=> [])++i.o.reads
def zqx (j i:AIns):Bool:=j.o.neutral&&
 (match j.d with|some d=> !i.reads.contains d&&i.d !=some d|none=>true)&&
 (match i.d with|some d=> !j.reads.contains d|none=>true)&&
 (j.o.blind||i.o.neutral||i.o.makes)
def zf7 (ops:Array Oper)(i:Nat):List Nat:=match ops[i]? with
 |some o=>(o.after.toList.filter (Region.binds .any)).map (·.on)
 |none=> []
def zAw (ops:Array Oper)(j:Nat):Nat->Nat->Bool
 |0,_=>false
 |n+1,i=>(zf7 ops i).contains j||(zf7 ops i).any λk=>zAw ops j n k
def zv6 (E:List (Nat×Nat))(ops:Array Oper)(i:Nat):List Nat:=zf7 ops i++(E.filter λe=>e.2==i).map (·.1)
def zkT (E:List (Nat×Nat))(ops:Array Oper)(j:Nat):Nat->Nat->Bool
 |0,_=>false
 |n+1,i=>(zv6 E ops i).contains j||(zv6 E ops i).any λk=>zkT E ops j n k
def z6j (ops:Array Oper)(j:Nat):Bool:=(zf7 ops j).all λk=>k !=j&&decide (k<ops.size)
def zuf (loud:List FuncId):AOp->AOp
 | .call f args=>if loud.contains f then .call f args else .qcall f args
 | .callv x args=> .qcallv x args
 |o=>o
def zg0 (loud:List FuncId)(i:AIns):AIns:={i with o:=zuf loud i.o}
def z8J (loud:List FuncId):AOp->AOp
 | .mklst e s z n ps=>if loud.contains 999999 then .mkrow e s z n ps else .mklst e s z n ps
 |o=>o
def zkN (loud:List FuncId)(i:AIns):AIns:={i with o:=z8J loud i.o}
def zqL (E:List (Nat×Nat))(L:List AIns)(ops:Array Oper)(j i:Nat):Bool:=!(zf7 ops j).contains i&& !E.contains (i,j)&&((match L[j]?,L[i]? with|some x,some y=>zqx x y|_,_=>false)||E.contains (j,i)||zkT E ops j ops.size i)
def zm4 (E:List (Nat×Nat))(L:List AIns)(ops:Array Oper):List Nat->Bool
 | []=>true
 |j::rest=>(rest.all λi=>zqL E L ops j i)&&zm4 E L ops rest
def zlV (L:List AIns)(ops:Array Oper):List (Nat×Nat):=(List.range ops.size).flatMap λi=>(List.range i).filterMap λj=>if(match L[j]?,L[i]? with|some x,some y=>zqx x y||zqx y x|_,_=>false)||zAw ops j ops.size i||zAw ops i ops.size j then none else some (j,i)
def zgQ:List (Nat×Nat)->List Bool->List (Nat×Nat)
 |p::ps,b::bs=>(if b then p else(p.2,p.1))::zgQ ps bs
 |_,_=> []
def zfv:Nat->List (List Bool)
 |0=> [[]]
 |n+1=>(zfv n).flatMap λl=> [true::l,false::l]
def z2Z (E:List (Nat×Nat))(L:List AIns)(ops:Array Oper)(left:List Nat):Option Nat:=let ready:=left.filter λi=>((zf7 ops i).all λk=> !left.contains k)&&(E.all λe=>e.2 !=i|| !left.contains e.1)
 match ready.find? λi=>(match L[i]? with|some x=>x.o.neutral|none=>false)with
 |some i=>some i
 |none=>ready.head?
def zAi (E:List (Nat×Nat))(L:List AIns)(ops:Array Oper):Nat->List Nat->List Nat
 |0,_=> []
 |n+1,left=>match z2Z E L ops left with
  |some i=>i::zAi E L ops n (left.filter (· !=i))
  |none=> []
def ztj (E:List (Nat×Nat))(L:List AIns)(ops:Array Oper)(order:List Nat):Option (List Nat):=if order.length=ops.size/\((List.range ops.size).all λi=>order.contains i)/\order.Nodup/\(order.all λi=>decide (i<ops.size)&&z6j ops i)/\zm4 E L ops order then some order else none
def zpj {α β:Type}:List α->(List α->β)->β
 | [],k=>k []
 |x::l,k=>zpj l λl=>k (x::l)
theorem zhF {α β:Type}:∀(l:List α) (k:List α->β),zpj l k=k l
 | [],_=>rfl
 |x::l,k=>by rw[zpj,zhF]
def zqR (L:List AIns)(ops:Array Oper)(E:List (Nat×Nat)):Option (List Nat):=zpj E λE=>zpj (zAi E L ops ops.size (List.range ops.size)) λo=>ztj E L ops o
def zsY (L:List AIns)(ops:Array Oper)(C:List (Nat×Nat)):Option (List (List Nat)):=if(C.all λp=>p.1 !=p.2)/\C.length<=6 then(zfv C.length).mapM λb=>zqR L ops (zgQ C b)else none
def zCZ:AOp->AOp
 | .load ag n x=> .px (.iload ag n x)
 | .iaddr n x i=> .px (.iidx n x i)
 |o=>o
def z4T (x:AIns):AIns:={x with o:=zCZ x.o}
def zh1 (C:List (Nat×Nat)):Nat->List AIns->List AIns
 |_,[]=> []
 |i,x::l=>(if C.any λp=>p.1==i||p.2==i then z4T x else x)::zh1 C (i+1) l
def zDm (x:AIns):Bool:=match x.o with
 | .px (.sl3 ..)=>true
 |_=>false
def znB (L:List AIns)(x:AIns):AIns:=match x.o with
 | .app e n b (.s t) y=>if L.any (λz=>zDm z&&z.d==some t)then{x with o:=.apt e n b (.s t) y}else x
 |_=>x
def tri (E:List (Nat×Nat)):Bool:=E.any λp=>E.any λq=>q.1==p.2&&E.contains (q.2,p.1)
def zir (L:List AIns)(ops:Array Oper)(C:List (Nat×Nat)):Option (List (List Nat)):=if(C.all λp=>decide (p.1<p.2))/\C.length<=6 then((zfv C.length).filter λb=> !tri (zgQ C b)).mapM λb=>zqR L ops (zgQ C b)else none
def acyc (E:List (Nat×Nat))(ops:Array Oper):Bool:=E.all λp=> !zkT E ops p.2 ops.size p.1
def zzF (ops:Array Oper):Bool:=(List.range ops.size).all λi=>(zf7 ops i).all λk=>decide (k<i)
def zi7 (L:List AIns)(ops:Array Oper)(C:List (Nat×Nat)):Option (List (List Nat)):=if(C.all λp=>decide (p.1<p.2)&&decide (p.2<ops.size))/\zzF ops=true/\C.length<=9 then((zfv C.length).filter λb=>acyc (zgQ C b) ops).mapM λb=>zqR L ops (zgQ C b)else none
def zqS (L:List AIns)(k:ACode):Option (List (List Nat))->ACode
 |some [order]=> .ops (order.filterMap λi=>L[i]?)
 |some orders=> .all (orders.map λorder=>order.filterMap λi=>L[i]?)
 |none=>k
def zko (P:Program)(N:Nat)(loud:List FuncId)(ops:Array Oper)(draw:Bool):ACode:=let l:=ops.toList.map (λo=>zkN loud (zdi P N ops o))
 if !draw then .ops l
 else
  let L:=l.map (zg0 loud)
  zpj (zlV L ops) λC=>
   if loud.contains 999997 then zqS L (let L2:=zh1 C 0 L;zpj (zlV L2 ops) λC2=>zqS L2 .bad (zi7 L2 ops C2)) (zi7 L ops C)else
   zqS L (let L1:=L.map (znB L);zqS L1 (let L2:=zh1 C 0 L;zpj (zlV L2 ops) λC2=>zqS L2 .bad (zir L2 ops C2)) (if L.any zDm then zir L1 ops (zlV L1 ops)else none)) (zsY L ops C)
def slices:Code->Bool
 | .region _ ops _=>ops.any λo=>match o.op with| .slice ..=>true|_=>false
 | .seq a _=>slices a
 |_=>false
def comp (P:Program)(N:Nat)(loud:List FuncId):Code->ACode
 | .skip=> .skip
 | .region _ ops draw=>zko P N loud ops draw
 | .seq a b=>if loud.contains 999998&&slices b then .seq (comp P N loud a) (.seq .gh (comp P N loud b))else .seq (comp P N loud a) (comp P N loud b)
 | .cond c x y=>match opd c with
  |some c=> .cond c (comp P N loud x) (comp P N loud y)
  |none=> .bad
 | .block id c=> .block id (comp P N loud c)
 | .loop c=> .loop (comp P N loud c)
 | .exit id=> .exit id
 | .scope c=>comp P N loud c
 | .label _=> .skip
 | .ret=> .ret
 |_=> .bad
def zC6 (l:List Nat)(b:Bool):List Nat:=if b then 999998::l else l
def acs (l:List Nat)(b:Bool):List Nat:=if b then 999997::l else l
structure AFunc where
 n:Nat
 res:List (Nat×Option (Bool×Nat))
 code:ACode
def zoj (P:Program):ResultVar->Option (Nat×Option (Bool×Nat))
 | .tmp t=>some (t,none)
 | .cell a t=>do return (a,some (<-zpH P t,<-sizeOf? P t))
def zab (P:Program)(loud:List FuncId)(f:FuncId):Option AFunc:=do
 let fn<-P.funcs[f]?;let c<-fn.body;let rs<-fn.results.toList.mapM (zoj P)
 return ⟨fn.ntmps,rs,comp P fn.ntmps (acs (zC6 (if loud.contains (1000000+f)then 999999::loud else loud) (loud.contains (2000000+f))) (loud.contains (3000000+f))) c⟩
variable {G:Globs}
section
variable {κ:Key}{Im:Addr->Prop}{w:World}{v:Value}
theorem VR.int_inv {k:IntKind}{n:Int}(h:VR κ Im w (.int k n) v):v=.int k n:=by cases h with|im _ _ h=>cases h;rfl
theorem VR.bool_inv {b:Bool}(h:VR κ Im w (.bool b) v):v=.bool b:=by cases h with|im _ _ h=>cases h;rfl
theorem VR.str_inv {s:List UInt8}(h:VR κ Im w (.str s) v):v=.string ⟨s.toArray⟩:=by cases h with|im _ _ h=>cases h;rfl
theorem VR.agg_inv {l:List AV}(h:VR κ Im w (.agg l) v):∃vs,v=.agg vs.toArray/\VRL κ Im w l vs/\∀c∈l,c.one=true:=by
 cases h with
 |im _ _ h=>cases h with|agg _ vs a b d=>exact⟨vs,rfl,⟨b,λj h e=> .im _ _ (d j h e)⟩,a⟩
 |agg _ vs a b d=>exact⟨vs,rfl,⟨b,d⟩,a⟩
theorem VR.tup_inv {l:List AV}(h:VR κ Im w (.tup l) v):∃vs,v=.tuple vs.toArray/\VRL κ Im w l vs:=by
 cases h with
 |im _ _ h=>cases h with|tup _ vs a b=>exact⟨vs,rfl,a,λj h c=> .im _ _ (b j h c)⟩
 |tup _ vs a b=>exact⟨vs,rfl,a,b⟩
theorem VR.ptr_inv {id off:Nat}(h:VR κ Im w (.ptr id off) v):∃b,v=.pointer (some ⟨b,off,none⟩)/\κ id 0=some (.pointer (some ⟨b,0,none⟩)):=by
 cases h with
 |im _ _ h=>cases h
 |ptr _ _ b h=>exact⟨b,rfl,h⟩
theorem VR.rptr_inv {l:List AV}(h:VR κ Im w (.rptr l) v):∃(b o:Nat) (vals:Nat->Value),v=.pointer (some ⟨b,o,none⟩)/\(∀c∈l,c.one=true)/\(∀j,j<l.length->Im ⟨b,o+j,none⟩/\w.cell? ⟨b,o+j,none⟩=some (vals j))/\∀j (h:j<l.length),IR Im w (l[j]) (vals j):=by
 cases h with
 |im _ _ h=>cases h with|rptr _ b o vals a d e=>exact⟨b,o,vals,rfl,a,d,e⟩
theorem VR.row_inv {id n:Nat}(h:VR κ Im w (.row id n) v):∃g cap,v=.slice g n cap/\κ id n=some v:=by
 cases h with
 |im _ _ h=>cases h
 |row _ _ g cap h=>exact⟨g,cap,rfl,h⟩
theorem VR.rowp_inv {id n size k off:Nat}(h:VR κ Im w (.rowp id n size k off) v):∃b cap,v=.pointer (some ⟨b,k*size+off,none⟩)/\κ id n=some (.slice (some ⟨b,0,none⟩) n cap):=by
 cases h with
 |im _ _ h=>cases h
 |rowp _ _ _ _ _ b cap h=>exact⟨b,cap,rfl,h⟩
theorem VR.gp_inv {g off:Nat}(h:VR κ Im w (.gp g off) v):v=.pointer (some ⟨g,off,none⟩):=by
 cases h with
 |im _ _ h=>cases h;rfl
theorem VR.map_inv {id:Nat}(h:VR κ Im w (.map id) v):∃b,v=.map (some b)/\κ id 0=some v:=by
 cases h with
 |im _ _ h=>cases h
 |map _ b h=>exact⟨b,rfl,h⟩
theorem VR.nilm_inv (h:VR κ Im w .nilm v):v=.map none:=by cases h with|im _ _ h=>cases h;rfl
theorem VR.sub_inv {id n size lo hi:Nat}(h:VR κ Im w (.sub id n size lo hi) v):∃b cap ad c,v=.slice (some ad) (hi-lo) c/\κ id n=some (.slice (some ⟨b,0,none⟩) n cap)/\lo<=hi/\hi<=n/\(lo<hi->ad=⟨b,lo*size,none⟩)/\hi-lo<=c/\c<=maxLen/\ad.spot=none:=by
 cases h with
 |im _ _ h=>cases h
 |sub _ _ _ _ _ b cap ad c h a d e f g i=>exact⟨b,cap,ad,c,rfl,h,a,d,λj=>e (by omega),f.1,g,i⟩
theorem VR.sub_inv' {id n size lo hi:Nat}(h:VR κ Im w (.sub id n size lo hi) v):∃b cap ad c,v=.slice (some ad) (hi-lo) c/\κ id n=some (.slice (some ⟨b,0,none⟩) n cap)/\lo<=hi/\hi<=n/\(lo<cap->ad=⟨b,lo*size,none⟩)/\hi-lo<=c/\c=cap-lo/\c<=maxLen/\ad.spot=none:=by
 cases h with
 |im _ _ h=>cases h
 |sub _ _ _ _ _ b cap ad c h d e f a g i=>exact⟨b,cap,ad,c,rfl,h,d,e,f,a.1,a.2,g,i⟩
theorem VR.asl_inv {id off n size:Nat}(h:VR κ Im w (.asl id off n size) v):∃b ad c,v=.slice (some ad) n c/\κ id 0=some (.pointer (some ⟨b,0,none⟩))/\(0<n->ad=⟨b,off,none⟩)/\n<=c/\c<=maxLen/\ad.spot=none:=by
 cases h with
 |im _ _ h=>cases h
 |asl _ _ _ _ b ad c h a d e f=>exact⟨b,ad,c,rfl,h,a,d,e,f⟩
theorem VR.tight_inv {l:List (List AV)}(h:VR κ Im w (.tight l) v):∃g,v=.slice g l.length l.length/\IR Im w (.lst l) (.slice g l.length l.length):=by
 cases h with
 |im _ _ h=>cases h with|tight _ g h=>exact⟨g,rfl,h⟩
theorem VR.nils_inv (h:VR κ Im w .nils v):v=.slice none 0 0:=by cases h with|im _ _ h=>cases h;rfl
theorem VR.lst_inv {l:List (List AV)}(h:VR κ Im w (.lst l) v):((∃g,v=.slice g 0 0)∧l= [])∨∃(size b o cap:Nat) (vals:Nat→Nat→Value),v=.slice (some ⟨b,o,none⟩) l.length cap∧l.length<=cap∧cap<=maxLen∧(∀c∈l,c.length=size)∧
   (∀c∈l,∀x∈c,x.one=true)/\
   (∀k j,k<l.length->j<size->Im ⟨b,o+(k*size+j),none⟩/\w.cell? ⟨b,o+(k*size+j),none⟩=some (vals k j))/\
   ∀k j (h:k<l.length) (h':j<l[k].length),IR Im w (l[k][j]) (vals k j):=by
 cases h with
 |im _ _ h=>
  cases h with
  |lnil g=>exact .inl ⟨⟨g,rfl⟩,rfl⟩
  |lst _ size b o cap vals a d e f i m=>exact .inr ⟨size,b,o,cap,vals,rfl,a,d,e,f,i,m⟩
theorem VR.fn_inv {f:Fn}{l m:List AV}(h:VR κ Im w (.fn f l m) v):∃vs us,v=.func f vs.toArray us.toArray/\VRL κ Im w l vs/\VRL κ Im w m us:=by
 cases h with
 |im _ _ h=>cases h with|fn _ _ _ vs us b c d e=>exact⟨vs,us,rfl,⟨b,λj h a=> .im _ _ (d j h a)⟩,c,λj h a=> .im _ _ (e j h a)⟩
 |fn _ _ _ vs us b c d e=>exact⟨vs,us,rfl,⟨b,d⟩,c,e⟩
theorem VR.oneCells {a:AV}(h:VR κ Im w a v)(hone:∀c∈a.cells,c.one=true):VRL κ Im w a.cells v.cells.toList:=by
 cases a with
 |agg l=>obtain⟨f,rfl,b,_⟩:=h.agg_inv;simpa[AV.cells,Value.cells]using b
 |junk=>exact absurd (hone _ (ybr.2 rfl)) (by simp[AV.one])
 |tup l=>exact absurd (hone _ (ybr.2 rfl)) (by simp[AV.one])
 |any u=>exact absurd (hone _ (ybr.2 rfl)) (by simp[AV.one])
 |_=>
  have e:v.cells= #[v]:=by
   cases h with
   |im _ _ h=>cases h<;>rfl
   |_=>rfl
  rw[e];exact⟨rfl,λj d g=>by have:j=0:=(by simpa[AV.cells]using d);subst this;exact h⟩
theorem VRL.nil:VRL κ Im w [] []:=⟨rfl,λj h=>by simp at h⟩
theorem VRL.cons {a:AV}{l:List AV}{vs:List Value}(h:VR κ Im w a v)(hl:VRL κ Im w l vs):VRL κ Im w (a::l) (v::vs):=by
 refine⟨by simp[hl.1],λj b c=> ?_⟩;cases j with
 |zero=>exact h
 |succ j=>exact hl.2 j (by simpa using b) (by simpa using c)
theorem VRL.append {l m:List AV}{vs us:List Value}(h:VRL κ Im w l vs)(hm:VRL κ Im w m us):VRL κ Im w (l++m) (vs++us):=by
 refine⟨by simp[h.1,hm.1],λj a b=> ?_⟩;have d:=h.1;by_cases c:j<l.length;.rw[ycp c,ycp (by omega)];exact h.2 _ _ _
 .rw[ycj (by omega),ycj (by omega)];have e:j-l.length=j-vs.length:=by omega
  simp only[<-e];exact hm.2 _ (by simp at a;omega) (by simp at b;omega)
theorem VRL.take {l:List AV}{vs:List Value}(h:VRL κ Im w l vs)(n:Nat):VRL κ Im w (l.take n) (vs.take n):=⟨by simp[h.1],λj a b=>by rw[yck,yck];exact h.2 _ _ _⟩
theorem VRL.drop {l:List AV}{vs:List Value}(h:VRL κ Im w l vs)(n:Nat):VRL κ Im w (l.drop n) (vs.drop n):=⟨by simp[h.1],λj a b=>by rw[yd2,yd2];exact h.2 _ _ _⟩
theorem VRL.get? {l:List AV}{vs:List Value}(h:VRL κ Im w l vs){i:Nat}{a:AV}(hi:l[i]? =some a):∃u,vs[i]? =some u/\VR κ Im w a u:=by obtain⟨b,rfl⟩:=yaa.1 hi;exact⟨_,yah (by rw[<-h.1];exact b),h.2 i b _⟩
theorem VRL.ofIR {l:List AV}{vs:List Value}(h:IRL Im w l vs):VRL κ Im w l vs:=⟨h.1,λj a b=> .im _ _ (h.2 j a b)⟩
theorem IR.const1 {a:AV}(h:const1 v=some a):IR Im w a v/\a.one=true/\a.pure=true:=by
 unfold Go.Abs.const1 at h;split at h<;>first
  |(cases h;done)
  |(simp only[yab]at h;subst h;exact⟨by constructor,rfl,by simp[AV.pure]⟩)
  |(simp only[yab]at h;subst h;rename_i s;have e:(Value.string s)=.string ⟨s.data.toList.toArray⟩:=by simp
    rw[e];exact⟨IR.str (Im:=Im) (w:=w) s.data.toList,rfl,by simp[AV.pure]⟩)
theorem zci:∀{vs:List Value} {l:List AV},vs.mapM const1=some l->IRL Im w l vs/\(∀c∈l,c.one=true)/\∀c∈l,c.pure=true
 | [],l,h=>by simp at h;subst h;exact⟨⟨rfl,λj h=>by simp at h⟩,by simp,by simp⟩
 |v::vs,l,h=>by
  rw[ych]at h;simp only[yak,yac,yau,yab]at h;obtain⟨a,g,p,b,rfl⟩:=h;obtain⟨i,k,d⟩:=IR.const1 (Im:=Im) (w:=w) g;obtain⟨f,m,n⟩:=zci b;refine⟨⟨by simp[f.1],λj o e=> ?_⟩,by simpa using⟨k,m⟩,by simpa using⟨d,n⟩⟩;cases j with
  |zero=>exact i
  |succ j=>exact f.2 j (by simpa using o) (by simpa using e)
theorem IR.constAV {a:AV}(h:constAV v=some a):IR Im w a v:=by
 unfold Go.Abs.constAV at h;split at h;.rename_i f;simp only[yae]at h;obtain⟨l,d,rfl⟩:=h;obtain⟨c,e,_⟩:=zci (Im:=Im) (w:=w) d;have:=IR.agg (Im:=Im) (w:=w) l f.toList e c.1 (λj a b=>c.2 j a b);simpa using this
 .exact(IR.const1 h).1
theorem zav {x:Operand}{x':Opd}{f:Frame}{a:Act}(h:opd x=some x')(hf:FRel κ Im w f a):VR κ Im w (x'.ev f) (a.eval x):=by
 cases x with
 |tmp t=>simp[opd]at h;subst h;exact hf t
 |const v=>simp[opd]at h;obtain⟨c,b,rfl⟩:=h;exact .im _ _ (IR.constAV b)
 |global g=>simp[opd]at h;subst h;exact .im _ _ (.gp g 0)
 |func g=>simp[opd]at h;subst h;exact .im _ _ (.fn (.func g) [] [] [] [] rfl rfl (λj h=>by simp at h) (λj h=>by simp at h))
theorem zj8 {f:Frame}{a:Act}(hf:FRel κ Im w f a):∀{xs:List Operand} {xs':List Opd},xs.mapM opd=some xs'->VRL κ Im w (xs'.map (·.ev f)) (xs.map a.eval)
 | [],xs',h=>by simp at h;subst h;exact .nil
 |x::xs,xs',h=>by rw[ych]at h;simp only[yak,yac,yau,yab]at h;obtain⟨b,d,e,c,rfl⟩:=h;exact .cons (zav d hf) (zj8 hf c)
end
section
variable {P:Program}{κ:Key}{Im:Addr->Prop}{w:World}
theorem zfB {t:TypeId}{z:List AV}(h:zga P t=some z):∃i zv,P.info? t=some i/\i.zero=some zv/\zv.cells.toList.mapM const1=some z:=by unfold zga at h;simp only[yak,yac]at h;obtain⟨i,a,zv,b,c⟩:=h;exact⟨i,zv,a,b,c⟩
theorem sizeOf?_ok {t:TypeId}{n:Nat}(h:sizeOf? P t=some n):∃i,P.info? t=some i/\i.size=n:=by unfold sizeOf? at h;simpa using h
theorem run_sizeOf? {t:TypeId}{n:Nat}(h:sizeOf? P t=some n)(w:World):(sizeOf t).run P w=.ok n w:=by obtain⟨i,a,b⟩:=sizeOf?_ok h;simp[sizeOf,typeInfo,a,b]
theorem run_isAgg? {t:TypeId}{b:Bool}(h:zpH P t=some b)(w:World):(isAgg t).run P w=.ok b w:=by
 unfold zpH at h;unfold isAgg;split at h;.rename_i a;simp at h;subst h;simp[run_underlying a]
 .rename_i a;simp at h;subst h;simp[run_underlying a]
 .rename_i d c e a;simp at h;subst h;simp only[ya0,run_underlying a,yas];cases d<;>first
   |rfl
   |(exact absurd rfl (c _))
   |(exact absurd rfl (e _ _))
 .cases h
theorem zsR {t:TypeId}(h:zpH P t=some true):∃d,P.underlying t=some d/\d.isRow=true:=by
 unfold zpH at h;split at h;.rename_i a;exact⟨_,a,rfl⟩
 .rename_i a;exact⟨_,a,rfl⟩
 .simp at h
 .cases h
theorem zB3 {op:BinOp}{X Y r:AV}{x y:Value}{t:TypeId}{xo yo:Operand}(hx:VR κ Im w X x)(hy:VR κ Im w Y y)(h:abin op X Y=some r):
  ∃v,(do eqGuard op t xo yo x y;binOp op t x y:Sem Value).run P w=.ok v w/\VR κ Im w r v:=by
 unfold abin at h;split at h
 .rename_i k a m b;cases hx.int_inv;cases hy.int_inv;split at h
  case isFalse=>cases h
  rename_i f;subst f;have e:(eqGuard op t xo yo (.int k a) (.int k b)).run P w=.ok () w:=by unfold eqGuard;cases op<;>simp<;>rfl
  simp only[ya0,e,yas];cases op<;>simp only[zzs,Option.map_some,ycz,yab,reduceCtorEq]at h
  case add=>subst h;exact⟨_,by simp[binOp,Op.intArith],.im _ _ (.int _ _)⟩
  case sub=>subst h;exact⟨_,by simp[binOp,Op.intArith],.im _ _ (.int _ _)⟩
  case mul=>subst h;exact⟨_,by simp[binOp,Op.intArith],.im _ _ (.int _ _)⟩
  case quo=>
   split at h;.cases h
   .rename_i d;simp at h;subst h;exact⟨_,by simp[binOp,Op.intDiv,d],.im _ _ (.int _ _)⟩
  case rem=>
   split at h;.cases h
   .rename_i d;simp at h;subst h;exact⟨_,by simp[binOp,Op.intDiv,d],.im _ _ (.int _ _)⟩
  all_goals (subst h;exact⟨_,by simp[binOp,Op.intCmp],.im _ _ (.bool _)⟩)
 .rename_i a b;cases hx.str_inv;cases hy.str_inv;have e:(eqGuard op t xo yo (.string ⟨a.toArray⟩) (.string ⟨b.toArray⟩)).run P w=.ok () w:=by unfold eqGuard;cases op<;>simp<;>rfl
  have g:(ByteArray.mk a.toArray).toList=a:=by rw[ByteArray.toList_eq]
  have i:(ByteArray.mk b.toArray).toList=b:=by rw[ByteArray.toList_eq]
  have j:(a==b)=decide (a=b):=by by_cases h:a=b<;>simp[h]
  simp only[ya0,e,yas];cases op<;>simp only[yab,reduceCtorEq]at h
  case add=>
   split at h
   case isFalse=>cases h
   rename_i n;simp at h;subst h;refine⟨.string ⟨(a++b).toArray⟩, ?_,.im _ _ (.str _)⟩;have l:¬((((ByteArray.mk a.toArray).size+(ByteArray.mk b.toArray).size:Nat):Int)>IntKind.i64.max):=by simp[ByteArray.size,IntKind.max,IntKind.bits,IntKind.signed];omega
   have c:(ByteArray.mk a.toArray)++(ByteArray.mk b.toArray)=ByteArray.mk (a++b).toArray:=(by ext1;simp);simp only[binOp,Op.stringOp,l,if_false,ya6,c]
  all_goals (subst h;refine⟨_,by simp only[binOp,Op.stringOp,g,i,j,ya6],.im _ _ (.bool _)⟩)
 .cases h
theorem zkZ {t:TypeId}(h:P.underlying t=some .bool)(a b:Bool)(w:World):(Op.equal t (.bool a) (.bool b)).run P w=.ok (a==b) w:=by
 have:∀d,(Op.equalIn (d+1) t (.bool a) (.bool b)).run P w=.ok (a==b) w:=λd=>by simp[Op.equalIn,run_underlying h]
 exact this 9999
theorem zo5 {β:Type}{g:Nat}{b:β}:∀{l:List (Nat×β)},l.lookup g=some b->(g,b)∈l
 | [],h=>by simp at h
 |(g',b')::l,h=>by
  rw[List.lookup_cons]at h;split at h
  .rename_i a;simp only[yab]at h;subst h;have:g=g':=by simpa using a
   subst this;simp
  .exact yb1 _ (zo5 h)
theorem ztC {base:Nat}{σ:zaa}{X:AV}{x:Value}{n:Nat}{l:List AV}(hs:SRel base κ Im σ w)(hx:VR κ Im w X x)(h:zbz σ X n=some l):
  ∃b o cs,x=.pointer (some ⟨b,o,none⟩)/\w.rangeAt b o cs/\VRL κ Im w l cs/\l.length=n/\∀c∈l,c.one=true:=by
 cases X with
 |ptr id d=>
  simp only[zbz]at h;obtain⟨b,rfl,H⟩:=hx.ptr_inv;split at h
  case h_2=>cases h
  rename_i t p K;split at h
  case isFalse=>cases h
  rename_i r;simp only[yab]at h;subst h;obtain⟨Y,cs,E,_,z,s,i,_⟩:=hs.ent _ _ K;rw[H]at E;cases E;refine⟨b,d,(cs.toList.drop d).take n,rfl,λj v f=> ?_,(s.drop d).take n,by simp;omega,λc m=>i c (yay (yao m))⟩;rw[cell_of_row w b (d+j) cs t (0,0) z];rw[ybz]at f;split at f;.rw[yby]at f;simpa using f
  .cases f
 |rptr p=>
  simp only[zbz]at h;obtain⟨b,o,q,rfl,i,m,s⟩:=hx.rptr_inv;split at h
  case isFalse=>cases h
  rename_i r;simp only[yab]at h;subst h;refine⟨b,o,(List.range n).map q,rfl,λj v f=> ?_,⟨by simp;omega,λj S T=> ?_⟩,by simp;omega,λc m=>i c (yao m)⟩
  .rw[yca]at f;by_cases C:j<n;.rw[List.getElem?_range C]at f;simp at f;subst f;exact(m j (by omega)).2
   .rw[ybv (by simp;omega)]at f;cases f
  .simp only[yck,yc6,List.getElem_range];exact .im _ _ (s j _)
 |gp g d=>
  simp only[zbz]at h;have L:=hx.gp_inv;split at h
  case h_2=>cases h
  rename_i p I;split at h
  case isFalse=>cases h
  rename_i r;simp only[yab]at h;subst h;obtain⟨b,o,q,H,i,m,s⟩:=(VR.im (κ:=κ) _ _ (hs.glob _ (zo5 I)).2.2).rptr_inv;simp only[Value.pointer.injEq,yab,Addr.mk.injEq,and_true]at H;obtain⟨rfl,rfl⟩:=H;refine⟨g,d,(List.range n).map λj=>q (d+j),L,λj v f=> ?_,⟨by simp;omega,λj S T=> ?_⟩,by simp;omega,λc m=>i c (yay (yao m))⟩
  .rw[yca]at f;by_cases C:j<n;.rw[List.getElem?_range C]at f;simp at f;subst f;have:=(m (d+j) (show d+j<p.length by omega)).2;simpa using this
   .rw[ybv (by simp;omega)]at f;cases f
  .simp only[yck,yd2,yc6,List.getElem_range];exact .im _ _ (s (d+j) _)
 |rowp id n₀ M k d=>
  simp only[zbz]at h;obtain⟨b,O,rfl,D⟩:=hx.rowp_inv;split at h
  case h_2=>cases h
  rename_i e a G Z K;split at h
  case isFalse=>cases h
  rename_i r;obtain⟨P,rfl,r⟩:=r;simp only[yae]at h;obtain⟨c,m,rfl⟩:=h;obtain⟨v,Q,s,F,J,R,u,i,_,_⟩:=hs.ent _ _ K;subst P;rw[D]at s;cases s;obtain⟨A,rfl⟩:=yaa.1 m;have U:G[k].length=a:=u _ (yaw A);have B:∀(l:List (List AV)) (k:Nat) (D:k<l.length),(∀c∈l,c.length=a)->((l.flatten.drop (k*a)).take a)=l[k]:=by
   intro l
   induction l with
   |nil=>intro k D;simp at D
   |cons c l W=>
    intro k D I;have m:c.length=a:=I c (by simp);cases k with
    |zero=>simp[m]
    |succ k=>have:(k+1)*a=c.length+k*a:=(by rw[m,ya8];omega);rw[ybk,this,<-yeq,List.drop_left,W k (by simpa using D) (λc h=>I c (by simp[h]))];simp
  have y:=((J.drop (k*a)).take a);rw[B G k A u]at y;refine⟨b,k*a+d,(((Q.drop (k*a)).take a).drop d).take n,rfl,λj v f=> ?_,(y.drop d).take n,by simp;omega,λc m=>i _ (yaw A) c (yay (yao m))⟩;rw[ybz]at f;split at f
  case isFalse=>cases f
  rw[yby,ybz]at f;split at f
  case isFalse=>cases f
  rw[yby]at f;have:=F.cells (g:=b) rfl _ _ f;have e:(⟨b,0,none⟩:Addr).add (k*a+(d+j))=⟨b,k*a+d+j,none⟩:=by rw[Addr.add_mid];simp[yea]
  rw[e]at this;exact this
 |_=>simp[zbz]at h
end
section
variable {P:Program}{κ:Key}{Im:Addr->Prop}{w:World}
def zjX (P:Program)(κ:Key)(Im:Addr->Prop)(w:World)(o:Oper)(a:Act)(r:AV):Prop:=∃v,(execOp a.eval o).run P w=.ok (.value v) w/\VR κ Im w r v
theorem zdo {X:AV}{x:Value}{n:Nat}(hx:VR κ Im w X x)(h:zid X=some n):∃k,x=.int k (n:Int):=by cases X<;>simp[zid]at h;rename_i k m;obtain⟨a,rfl⟩:=h;cases hx.int_inv;exact⟨k,by rw[Int.toNat_of_nonneg a]⟩
theorem zuS {ag:Bool}{l:List AV}{r:AV}{vs:List Value}(hl:VRL κ Im w l vs)(hone:∀c∈l,c.one=true)(h:zg5 ag l=some r):
  (ag=true->VR κ Im w r (.agg vs.toArray))/\(ag=false->∃v,vs= [v]/\VR κ Im w r v):=by
 unfold zg5 at h;cases ag
 .simp only[ycr,if_false]at h;refine⟨λh=>by simp at h,λ_=> ?_⟩;split at h
  .rename_i v;simp at h;subst h;obtain⟨a,b⟩:=hl
   match vs,a with
   | [u],_=>exact⟨u,rfl,b 0 (by simp) (by simp)⟩
  .cases h
 .simp only[if_true,yab]at h;subst h;exact⟨λ_=> .agg _ _ hone hl.1 hl.2,λh=>by simp at h⟩
theorem z5n {t:TypeId}{ag:Bool}{size off:Nat}{l:List AV}{vs:List Value}{r:AV}(ha:zpH P t=some ag)(hsz:sizeOf? P t=some size)(hl:VRL κ Im w l vs)(hone:∀c∈l,c.one=true)
  (h:zg5 ag ((l.drop off).take size)=some r):∃v,(part t vs.toArray off).run P w=.ok v w/\VR κ Im w r v:=by
 have a:=((hl.drop off).take size);have d:=hl.1;obtain⟨e,f⟩:=zuS a (λc j=>hone c (yay (yao j))) h;unfold part;simp only[ya0,run_isAgg? ha,yas];cases ag
 .obtain⟨v,g,i⟩:=f rfl;refine⟨v, ?_,i⟩;have:vs[off]? =some v:=by
   have b:((vs.drop off).take size)[0]? =some v:=(by rw[g];rfl);rw[ybz]at b;split at b;.rw[yby]at b;simpa using b
   .cases b
  simp[this]
 .refine⟨_, ?_,e rfl⟩;simp only[if_true,ya0,run_sizeOf? hsz,yas,ya6];congr 2;apply Array.ext';simp
theorem zBC {o:Oper}{t:TypeId}{x:Operand}{x':Opd}{ag:Bool}{size:Nat}{base:Nat}{σ:zaa}{f:Frame}{a:Act}{r:AV}(ho:o.op=.load t x)(ha:zpH P t=some ag)(hsz:sizeOf? P t=some size)(hx:opd x=some x')
  (hs:SRel base κ Im σ w) (hf:FRel κ Im w f a) (h:zaw σ f (.load ag size x')=some r):zjX P κ Im w o a r:=by
 simp only[zaw,yac]at h;obtain⟨l,y,z⟩:=h;obtain⟨b,m,q,s,c,e,g,j⟩:=ztC hs (zav hx hf) y;obtain⟨A,B⟩:=zuS e j z;obtain⟨i,C,n⟩:=sizeOf?_ok hsz;have p:q.length=size:=by rw[<-e.1,g]
 cases ag;.obtain⟨v,rfl,D⟩:=B rfl;refine⟨v, ?_,D⟩;have u:=c 0 v rfl;simp only[ycf]at u;simp[execOp,ho,s,Instr.loadAt,Instr.sureAddr,loadVar,run_isAgg? ha,u]
 .obtain⟨d,E,k⟩:=zsR ha;refine⟨_, ?_,A rfl⟩;simp only[execOp,ho,s,ya0,run_loadAt_mid w b m t q d c E k (by rw[C];simp[n,p]),yas,ya6]
theorem zv1 (cells vs:List AV)(us ws:List Value)(off:Nat)(h:VRL κ Im w cells us)(h':VRL κ Im w vs ws):
  VRL κ Im w (splice cells off vs) (us.take off++ws++us.drop (off+ws.length)):=by
 unfold splice;rw[<-h'.1];exact((h.take off).append h').append (h.drop _)
theorem z5o (ws:List Value)(cs:Array Value)(off:Nat)(hle:off+ws.length<=cs.size):
  (ws.toArray.zipIdx.foldl (λcs (c,j)=>cs.setIfInBounds (off+j) c) cs).toList=cs.toList.take off++ws++cs.toList.drop (off+ws.length):=by
 have a:∀(ws:List Value) (n:Nat) (cs:Array Value),off+n+ws.length<=cs.size->((ws.zipIdx n).foldl (λ(cs:Array Value) (p:Value×Nat)=>cs.setIfInBounds (off+p.2) p.1) cs).toList=cs.toList.take (off+n)++ws++cs.toList.drop (off+n+ws.length):=by
  intro ws
  induction ws with
  |nil=>intro n cs h;simp
  |cons c ws i=>
   intro n cs h;rw[List.zipIdx_cons,yev,i (n+1) _ (by simp at h⊢;omega)];have b:off+n<cs.toList.length:=by simp at h⊢;omega
   simp only[Array.toList_setIfInBounds];have e:cs.toList.set (off+n) c=cs.toList.take (off+n)++c::cs.toList.drop (off+n+1):=by rw[List.set_eq_take_append_cons_drop,if_pos b]
   have d:(cs.toList.take (off+n)).length=off+n:=(by rw[yan];omega);rw[e];have f:List.take (off+(n+1)) (cs.toList.take (off+n)++c::cs.toList.drop (off+n+1))=cs.toList.take (off+n)++ [c]:=(by rw[show off+(n+1)=(cs.toList.take (off+n)).length+1 from by rw[d];omega,ycx,yal (by omega)];simp);have g:List.drop (off+(n+1)+ws.length) (cs.toList.take (off+n)++c::cs.toList.drop (off+n+1))=cs.toList.drop (off+n+(c::ws).length):=(by rw[show off+(n+1)+ws.length=(cs.toList.take (off+n)).length+(1+ws.length) from by rw[d];omega,yeo];have:(cs.toList.take (off+n)).drop ((cs.toList.take (off+n)).length+(1+ws.length))= []:=ydp (by omega);rw[this,ybc,ye6 1,List.drop_succ_cons,yeq];simp only[yco,ybg];congr 1;omega);rw[f,g];simp
 have:=a ws 0 cs (by simpa using hle);simpa using this
theorem zyK (place:Nat->Option (Nat×Nat)):∀(ps:List (Nat×Value)) (qs:List (Nat×List AV)) (cells:List AV) (cs:Array Value),VRL κ Im w cells cs.toList->ps.length=qs.length->(∀j (h:j<ps.length) (h':j<qs.length),∃n,place ps[j].1=some (qs[j].1,n)/\n=qs[j].2.length/\VRL κ Im w qs[j].2 ps[j].2.cells.toList/\qs[j].1+n<=cells.length)->∃cs':Array Value,Instr.fill place cs ps=some cs'/\VRL κ Im w (lay cells qs) cs'.toList/\cs'.size=cs.size:=by
 intro ps
 induction ps with
 |nil=>intro qs cells cs r l _;have:qs= []:=yaq l.symm;subst this;exact⟨cs,rfl,r,rfl⟩
 |cons p ps F=>
  intro qs cells cs r l z
  match qs,l with
  |q::qs,l=>obtain⟨n,k,y,g,s⟩:=z 0 (by simp) (by simp);obtain⟨i,v⟩:=p;obtain⟨e,t⟩:=q;simp only[yb8]at k y g s;have u:v.cells.size=n:=(by rw[y];simpa using g.1.symm);have x:=r.1;have A:cells.length=cs.size:=(by simpa using x);simp only[Instr.fill,k,u,ne_eq,not_true,false_or,lay];rw[if_neg (by simp;omega)];have m:=z5o v.cells.toList cs e (by simp;omega);have f:(v.cells.zipIdx.foldl (λcs (c,j)=>cs.setIfInBounds (e+j) c) cs).toList=cs.toList.take e++v.cells.toList++cs.toList.drop (e+v.cells.toList.length):=(by simpa using m);have o:=zv1 cells t cs.toList v.cells.toList e r g;rw[<-f]at o;obtain⟨cs',B,C,D⟩:=F qs (splice cells e t) _ o (by simpa using l) (λj h h'=>by obtain⟨E,a,b,c,d⟩:=z (j+1) (by simpa using h) (by simpa using h');refine⟨E,by simpa using a,by simpa using b,by simpa using c, ?_⟩;have:(splice cells e t).length=cells.length:=(by simp only[splice,yag,yan,ya3];omega);rw[this];simpa using d);refine⟨cs',B,C,D.trans ?_⟩;rw[<-ya4,f];simp;omega
theorem mapM_some {α β:Type}{g:α->Option β}:∀{l:List α} {m:List β},l.mapM g=some m->l.length=m.length/\∀j (h:j<l.length) (h':j<m.length),g l[j]=some m[j]
 | [],m,h=>by simp at h;subst h;exact⟨rfl,λj h=>by simp at h⟩
 |a::l,m,h=>by
  rw[ych]at h;simp only[yak,yac,yau,yab]at h;obtain⟨b,d,i,c,rfl⟩:=h;obtain⟨e,f⟩:=mapM_some c;refine⟨by simp[e],λj h h'=> ?_⟩;cases j with
  |zero=>exact d
  |succ j=>exact f j (by simpa using h) (by simpa using h')
theorem zua:∀(ps:List (Nat×List AV)) (cells:List AV),(∀c∈cells,c.one=true)->(∀p∈ps,∀c∈p.2,c.one=true)->∀c∈lay cells ps,c.one=true
 | [],cells,h,_=>h
 |p::ps,cells,h,hp=>by
  refine zua ps _ (λc a=> ?_) (λq b=>hp q (by simp[b]));simp only[splice,yai]at a;rcases a with (a|a)|a
  .exact h c (yao a)
  .exact hp p (by simp) c a
  .exact h c (yay a)
end
section
variable {P:Program}{κ:Key}{Im:Addr->Prop}{w:World}
theorem zz0 {o:Oper}{t:TypeId}{parts:Array (Nat×Operand)}{z:List AV}{ps:List (Nat×Nat×Opd)}{place:Nat->Option (Nat×Nat)}{σ:zaa}{f:Frame}{a:Act}{r:AV}(ho:o.op=.build t parts)
  (hz:zga P t=some z) (hps:parts.toList.mapM (zqe z.length place)=some ps)
  (hb:∀zv,((P.info? t).bind (·.zero))=some zv->∀(l:List (Nat×Value)) (cells:Array Value),Instr.fill place zv.cells l=some cells->P.built t l=some cells)
  (hf:FRel κ Im w f a) (h:zaw σ f (.build z ps)=some r):zjX P κ Im w o a r:=by
 simp only[zaw,yae]at h;obtain⟨u,v,rfl⟩:=h;obtain⟨i,zv,L,y,M⟩:=zfB hz;obtain⟨A,B,_⟩:=zci (Im:=Im) (w:=w) M;obtain⟨O,Q⟩:=mapM_some hps;obtain⟨R,J⟩:=mapM_some v;have g:=zyK (κ:=κ) (Im:=Im) (w:=w) place (parts.toList.map λp=>(p.1,a.eval p.2)) u z zv.cells (VRL.ofIR A) (by simp[O,R]) (λj D E=>by
  have H:j<parts.toList.length:=by simpa using D
  have n:j<ps.length:=by omega
  have k:=Q j H n;have b:=J j n E;simp only[yc6];unfold zqe at k;split at k
  case h_2=>cases k
  rename_i T s x F U;split at k
  case isFalse=>cases k
  rename_i G;simp only[yab]at k;rw[<-k]at b;simp only at b;split at b
  case isFalse=>cases b
  rename_i e;simp only[yab]at b;rw[<-b];refine⟨s,F,e.1.symm,(zav U hf).oneCells (by simpa using e.2),G⟩)
 obtain⟨d,C,m,_⟩:=g;have q:∀c∈lay z u,c.one=true:=zua u z B (λp S c K=>by
  obtain⟨j,D,rfl⟩:=yaz.1 S;have b:=J j (by omega) D;split at b
  case isFalse=>cases b
  rename_i e;simp only[yab]at b;rw[<-b]at K;have:=e.2;simp only[ya1]at this;exact this c K)
 refine⟨.agg d, ?_, ?_⟩;.have I:=hb zv (by simp[L,y]) _ _ C;have W:=run_build (P:=P) w t (parts.map λ(i,x)=>(i,a.eval x)) d (by simpa using I);simp only[execOp,ho,ya0,W,yas,ya6]
 .have:d=d.toList.toArray:=by simp
  rw[this];exact .agg _ _ q m.1 m.2
theorem zz6 {X:Option AV}{x:Option Value}{d lim n:Nat}(hx:match X,x with|some X,some x=>VR κ Im w X x|none,none=>True|_,_=>False)(h:ze3 X d lim=some n):
  (x=none/\n=d)∨∃k,x=some (.int k (n:Int))/\n<=lim:=by
 unfold ze3 at h;cases X with
 |none=>
  simp at h;subst h;cases x with
  |none=>exact .inl ⟨rfl,rfl⟩
  |some x=>simp at hx
 |some X=>
  cases x with
  |none=>simp at hx
  |some x=>
   simp only[yac]at h;obtain⟨m,c,a⟩:=h;split at a
   case isFalse=>cases a
   rename_i b;simp at a;subst a;obtain⟨k,rfl⟩:=zdo hx c;exact .inr ⟨k,rfl,b⟩
theorem zcO (k:IntKind)(n lim:Nat)(c:BoundsCode)(h:n<=lim)(w:World):(Instr.sliceBound (.int k (n:Int)) lim c).run P w=.ok n w:=by unfold Instr.sliceBound;simp[asIntOf,h]
theorem za5 {isSlice:Bool}{len cap:Nat}{LO HI:Option AV}{lo hi:Option Value}{l h:Nat}(hlo:match LO,lo with|some X,some x=>VR κ Im w X x|none,none=>True|_,_=>False)
  (hhi:match HI,hi with|some X,some x=>VR κ Im w X x|none,none=>True|_,_=>False) (hlc:len<=cap) (hh:ze3 HI len len=some h) (hl:ze3 LO 0 h=some l):
  (Instr.sliceBounds isSlice len cap lo hi none).run P w=.ok (l,h,cap) w/\l<=h/\h<=len:=by
 unfold Instr.sliceBounds;have c:=zz6 hhi hh;have d:=zz6 hlo hl;rcases c with ⟨rfl,rfl⟩|⟨k,rfl,b⟩<;>rcases d with ⟨rfl,rfl⟩|⟨e,rfl,a⟩
 .simp
 .simp[zcO _ _ _ _ a,a]
 .refine⟨?_,by omega,b⟩;simp[zcO k h cap _ (by omega)]
 .refine⟨?_,a,b⟩;simp[zcO k h cap _ (by omega),zcO _ _ _ _ a]
theorem zhG {x:Option Operand}{x':Option Opd}{f:Frame}{a:Act}(hf:FRel κ Im w f a)(h:x.mapM opd=some x'):
  match x'.map (·.ev f),x.map a.eval with|some X,some x=>VR κ Im w X x|none,none=>True|_,_=>False:=by
 cases x with
 |none=>simp at h;subst h;trivial
 |some x=>simp only[Option.mapM_some,yae,Option.map_eq_map]at h;obtain⟨y,b,rfl⟩:=h;exact zav b hf
theorem zbq (ba:Option Addr)(len cap l h size:Nat){t e:TypeId}{lo hi:Option Value}(ht:P.underlying t=some (.slice e))(hsz:sizeOf? P e=some size)
  (hb:(Instr.sliceBounds true len cap lo hi none).run P w=.ok (l,h,cap) w):
  (Instr.sliceAt t (.slice ba len cap) lo hi none).run P w=.ok (.slice (if cap=l then ba else ba.map (·.add (l*size))) (h-l) (cap-l)) w:=by
 simp only[Instr.sliceAt,ya0,run_underlying ht,yas,Instr.slice,hb,run_sizeOf? hsz,ya6]
theorem zp8 {α:Type}(l:List α)(lo hi:Nat)(h:hi<=l.length):((l.take hi).drop lo).length=hi-lo:=by simp;omega
theorem zqi {l:List (List AV)}{size b o cap:Nat}{vals:Nat→Nat→Value}(hcap:l.length<=cap)(hmax:cap<=maxLen)(hs:∀c∈l,c.length=size)
   (hone:∀c∈l,∀x∈c,x.one=true) (hc:∀k j,k<l.length->j<size->Im ⟨b,o+(k*size+j),none⟩/\w.cell? ⟨b,o+(k*size+j),none⟩=some (vals k j))
   (hv:∀k j (h:k<l.length) (h':j<l[k].length),IR Im w (l[k][j]) (vals k j)) (lo hi:Nat) (h1:lo<=hi) (h2:hi<=l.length):
  IR Im w (.lst ((l.take hi).drop lo)) (.slice (if cap=lo then some ⟨b,o,none⟩else(some (⟨b,o,none⟩:Addr)).map (·.add (lo*size))) (hi-lo) (cap-lo)):=by
 have a:=zp8 l lo hi h2;have d:∀c∈(l.take hi).drop lo,c∈l:=λc hc=>yao (yay hc);by_cases m:cap=lo
 .have:((l.take hi).drop lo)= []:=yaq (by omega);rw[if_pos m,this];have n:hi-lo=0:=by omega
  have:=IR.lst (Im:=Im) (w:=w) [] size b o (cap-lo) (λ_ _=>default) (by simp) (by omega) (by simp) (by simp) (λk j f=>by simp at f) (λk j f=>by simp at f);simpa[n]using this
 .rw[if_neg m,Option.map_some,Addr.add_mid];have:=IR.lst (Im:=Im) (w:=w) ((l.take hi).drop lo) size b (o+lo*size) (cap-lo) (λk j=>vals (lo+k) j) (by rw[a];omega) (by omega) (λc hc=>hs c (d c hc)) (λc hc=>hone c (d c hc)) (λk j f g=>by have:=hc (lo+k) j (by rw[a]at f;omega) g;have e:o+lo*size+(k*size+j)=o+((lo+k)*size+j):=(by rw[ya8];omega);rw[e];exact this) (λk j f g=>by have i:lo+k<l.length:=(by rw[a]at f;omega);have e:((l.take hi).drop lo)[k]=l[lo+k]:=(by simp);simp only[e]at g⊢;exact hv (lo+k) j i g);rwa[a]at this
end
section
variable {P:Program}{κ:Key}{Im:Addr->Prop}{w:World}
theorem zgt {size:Nat}:∀(l:List (List AV)) (k j:Nat),(∀c∈l,c.length=size)->k<l.length->j<size->∃(h:k<l.length) (h':j<l[k].length) (h'':k*size+j<l.flatten.length),l.flatten[k*size+j]=l[k][j]:=by
 intro l
 induction l with
 |nil=>intro k j _ h;simp at h
 |cons c l m=>
  intro k j d a f;have b:c.length=size:=d c (by simp);cases k with
  |zero=>refine⟨a,by simp[b,f],by simp[b];omega, ?_⟩;simp only[Nat.zero_mul,ybl,ybk,yb8];rw[ycp]
  |succ k=>obtain⟨n,g,o,i⟩:=m k j (λc h=>d c (by simp[h])) (by simpa using a) f;have e:(k+1)*size+j=c.length+(k*size+j):=(by rw[b,ya8];omega);refine⟨a,by simpa using g,by rw[e,ybk,yag];omega, ?_⟩;simp only[ybk,ydo];rw[<-i];simp only[e];rw[ycj (by omega)];congr 1;omega
theorem znV {base:Nat}{σ:zaa}{id e size:Nat}{els:List (List AV)}{v:Value}(hs:SRel base κ Im σ w)(he:σ[id]? =some (.row e size els true))(hv:κ id els.length=some v):IR Im w (.lst els) v:=by
 obtain⟨J,f,h,b,x,y,c,i,p,q⟩:=hs.ent _ _ he;rw[hv]at h;cases h;have m:=b.1;rcases b.2 with ⟨rfl,D⟩|⟨g,s,E,rfl,K,L,t,l,F,u⟩
 .have:els= []:=yaq D;subst this;exact .lnil _
 .have d:=b.cells (g:=g) rfl;obtain⟨z,A⟩:=p rfl;obtain⟨_,r⟩:=q g rfl;have r:=r rfl;have H:els.flatten.length=els.length*size:=by rw[z,m]
  refine .lst els size g 0 s (λk j=>f.getD (k*size+j) undef) t l c i (λk j o G=> ?_) (λk j o G=> ?_);.have n:k*size+j<els.length*size:=(by have:(k+1)*size<=els.length*size:=yat _ o;rw[ya8]at this;omega);rw[ybl];refine⟨r _ n, ?_⟩;have a:k*size+j<f.length:=(by rw[m];exact n);have:=d (k*size+j) _ (yah a);rw[Addr.add_mid,ybl]at this;rw[this];simp[a]
  .have I:=c _ (yaw o);obtain⟨_,_,B,C⟩:=zgt els k j c o (by omega);have a:k*size+j<f.length:=(by omega);have:=A (k*size+j) B a;rw[C]at this;have e:f.getD (k*size+j) undef=f[k*size+j]:=(by simp[a]);simp only[e];exact this
theorem z6W {base:Nat}{σ:zaa}{X:AV}{x:Value}{l:List (List AV)}(hs:SRel base κ Im σ w)(hx:VR κ Im w X x)(h:view σ X=some l):∃b cap,x=.slice b l.length cap/\l.length<=cap:=by
 cases X<;>simp only[view,reduceCtorEq,yab]at h
 case nils=>subst h;cases hx.nils_inv;exact⟨none,0,rfl,by simp⟩
 case lst m=>
  subst h;rcases hx.lst_inv with ⟨⟨g,rfl⟩,rfl⟩|⟨a,b,o,cap,y,rfl,F,_⟩
  .exact⟨g,0,rfl,by simp⟩
  .exact⟨_,cap,rfl,F⟩
 case row id n=>
  obtain⟨g,cap,rfl,p⟩:=hx.row_inv;split at h
  case h_2=>cases h
  rename_i e a j H A;split at h
  case isFalse=>cases h
  rename_i i;simp only[yab]at h;subst h;subst i;obtain⟨v,K,s,f,_⟩:=hs.ent _ _ A;rw[p]at s;cases s;rcases f.2 with ⟨d,E⟩|⟨L,z,G,d,_,_,q,_⟩
  .simp only[Value.slice.injEq]at d;obtain⟨rfl,t,rfl⟩:=d;exact⟨none,0,rfl,by omega⟩
  .simp only[Value.slice.injEq]at d;obtain⟨rfl,_,rfl⟩:=d;exact⟨_,_,rfl,q⟩
 case asl id J n a=>
  obtain⟨b,D,c,rfl,p,t,u,_⟩:=hx.asl_inv;split at h
  case h_2=>cases h
  split at h
  case isFalse=>cases h
  simp only[yab]at h;subst h;have k:∀(n:Nat) (l:List AV),(zaY n a l).length=n:=by
   intro n
   induction n with
   |zero=>intro l;rfl
   |succ n I=>intro l;simp[zaY,I]
  exact⟨_,_,by rw[k],by rw[k];exact u⟩
 case sub id n a B C=>
  obtain⟨b,cap,D,c,rfl,p,d,E,t,u,_⟩:=hx.sub_inv;split at h
  case h_2=>cases h
  rename_i e r j H A;split at h
  case isFalse=>cases h
  rename_i i;obtain⟨i,rfl⟩:=i;simp only[yab]at h;subst h;subst i;have k:((j.take C).drop B).length=C-B:=by simp;omega
  exact⟨_,_,by rw[k],by omega⟩
theorem zCY {k:Nat}{X Y:AV}{x y:Value}{b:Bool}{t:TypeId}{d:Nat}(hx:VR κ Im w X x)(hy:VR κ Im w Y y)(h:eq1 k X Y=some b)
  (ht:(k=0/\∃i,P.underlying t=some (.int i))∨(k=1/\P.underlying t=some .string)∨(k=2/\P.underlying t=some .bool)):(Op.equalIn (d+1) t x y).run P w=.ok b w:=by
 unfold eq1 at h;split at h
 .rename_i k a m c;cases hx.int_inv;cases hy.int_inv;split at h
  case isFalse=>cases h
  rename_i f;subst f;simp only[yab]at h;subst h;obtain⟨_,i,e⟩|⟨h,_⟩|⟨h,_⟩:=ht
  .have:(a==c)=decide (a=c):=(by by_cases h:a=c<;>simp[h]);simp[Op.equalIn,run_underlying e,this]
  .cases h
  .cases h
 .rename_i a c;cases hx.str_inv;cases hy.str_inv;simp only[yab]at h;subst h;obtain⟨h,_⟩|⟨_,e⟩|⟨h,_⟩:=ht
  .cases h
  .have g:(ByteArray.mk a.toArray).toList=a:=(by rw[ByteArray.toList_eq]);have j:(ByteArray.mk c.toArray).toList=c:=(by rw[ByteArray.toList_eq]);have l:(a==c)=decide (a=c):=(by by_cases h:a=c<;>simp[h]);rw[run_equalIn_string w d t _ _ e,g,j,l]
  .cases h
 .rename_i a c;cases hx.bool_inv;cases hy.bool_inv;simp only[yab]at h;subst h;obtain⟨h,_⟩|⟨h,_⟩|⟨_,e⟩:=ht
  .cases h
  .cases h
  .simp[Op.equalIn,run_underlying e]
 .cases h
theorem zrB {d:Nat}{xs ys:List Value}:∀(fs:List Field) (i:Nat) (ks:List Nat) (l m:List AV) (b:Bool),zfC P i fs=some ks->VRL κ Im w l (xs.drop i)->VRL κ Im w m (ys.drop i)->zil ks l m=some b->(Op.eqFields (d+1) xs.toArray ys.toArray fs).run P w=.ok b w
 | [],i,ks,l,m,b,hk,_,_,h=>by simp[zfC]at hk;subst hk;cases l<;>cases m<;>simp[zil]at h;subst h;simp[Op.eqFields]
 |f::fs,i,ks,l,m,b,hk,hl,hm,h=>by
  simp only[zfC]at hk;split at hk
  case isFalse=>cases hk
  rename_i M;obtain⟨o,g⟩:=M;have A:∃k e,ks=k::e/\zfC P (i+1) fs=some e/\((k=0/\∃i,P.underlying f.type=some (.int i))∨(k=1/\P.underlying f.type=some .string)∨(k=2/\P.underlying f.type=some .bool)):=by
   split at hk<;>first
    |(cases hk;done)
    |(rename_i p;simp only[yae]at hk;obtain⟨e,J,rfl⟩:=hk;exact⟨_,e,rfl,J,by first|exact .inl ⟨rfl,_,p⟩|exact .inr (.inl ⟨rfl,p⟩)|exact .inr (.inr ⟨rfl,p⟩)⟩)
  obtain⟨k,e,rfl,r,q⟩:=A
  match l,m,h with
  |a::l,c::m,h=>
   simp only[zil,yac,yae]at h;obtain⟨x,K,y,L,rfl⟩:=h;have n:zpH P f.type=some false:=by unfold zpH;rcases q with ⟨_,j,z⟩|⟨_,z⟩|⟨_,z⟩<;>simp[z]
   obtain⟨u,p,s⟩:=hl.get? (i:=0) (a:=a) rfl;obtain⟨v,I,t⟩:=hm.get? (i:=0) (a:=c) rfl;have B:xs[i]? =some u:=(by rw[yby]at p;simpa using p);have C:ys[i]? =some v:=(by rw[yby]at I;simpa using I);have D:(part f.type xs.toArray f.offset).run P w=.ok u w:=(by unfold part;simp[run_isAgg? n,g,B]);have E:(part f.type ys.toArray f.offset).run P w=.ok v w:=(by unfold part;simp[run_isAgg? n,g,C]);have F:=zCY (d:=d) s t K q;have G:VRL κ Im w l (xs.drop (i+1)):=(by have:=hl.drop 1;simpa using this);have H:VRL κ Im w m (ys.drop (i+1)):=(by have:=hm.drop 1;simpa using this);have O:=zrB (d:=d) fs (i+1) e l m y r G H L;simp only[Op.eqFields,o,ne_eq,not_false_eq_true,if_true,ya0,D,E,yas,F,Sem.run_ite];cases x;.simp
   .simp[O]
theorem z2B {t:TypeId}{ks:List Nat}{l m:List AV}{xs ys:List Value}{b:Bool}(hk:zjx P t=some ks)(hl:VRL κ Im w l xs)(hm:VRL κ Im w m ys)(h:zil ks l m=some b):
  (Op.equal t (.agg xs.toArray) (.agg ys.toArray)).run P w=.ok b w/\∀op x y,(eqGuard op t x y (.agg xs.toArray) (.agg ys.toArray)).run P w=.ok () w:=by
 unfold zjx at hk;split at hk
 case h_2=>cases hk
 rename_i c e;split at hk
 case isFalse=>cases hk
 rename_i f;have a:P.fieldsOf t=c:=by simp[Program.fieldsOf,e]
 have g:∀d,(Op.equalIn (d+2) t (.agg xs.toArray) (.agg ys.toArray)).run P w=.ok b w:=λd=>by rw[run_equalIn_struct w (d+1) t _ _ (by rw[a];exact e) f.1,a];exact zrB c.toList 0 ks l m b hk (by simpa using hl) (by simpa using hm) h
 refine⟨g 9998,λop x y=> ?_⟩;unfold eqGuard;cases op<;>simp[f.2]<;>rfl
end
section
variable {P:Program}{κ:Key}{Im:Addr->Prop}{w:World}
theorem VR.add {b o n:Nat}:(⟨b,o,none⟩:Addr).add n=⟨b,o+n,none⟩:=Addr.add_mid b o n
theorem zn8 {l:List AV}{b o:Nat}{vals:Nat->Value}(hone:∀c∈l,c.one=true)(hc:∀j,j<l.length->Im ⟨b,o+j,none⟩/\w.cell? ⟨b,o+j,none⟩=some (vals j))(hv:∀j (h:j<l.length),IR Im w (l[j]) (vals j))(n:Nat):
  IR Im w (.rptr (l.drop n)) (.pointer (some ⟨b,o+n,none⟩)):=
 .rptr (l.drop n) b (o+n) (λj=>vals (n+j)) (λc h=>hone c (yay h)) (λj a=>by have:=hc (n+j) (by simp at a;omega);rw[show o+n+j=o+(n+j) from by omega];exact this) (λj a=>by rw[yd2];exact hv (n+j) (by simp at a;omega))
theorem zeb {o:Oper}{a:Act}{b:Builtin}{c:Call}{f:Value}(ho:o.op=.call c)(hb:c.callee=.builtin b)(h:(builtin b c.argTypes o.type (c.args.map fun| .const _=>true|_=>false) (c.args.map a.eval)).run P w=.ok (.value f) w):
  (execOp a.eval o).run P w=.ok (.value f) w:=by
 simp only[execOp,ho,resolve,hb,ya0,ya6,yas,invoke];exact h
theorem zbl {α:Type}{a:Array α}{l:List α}(h:a.toList=l):a=l.toArray:=by rw[<-h]
theorem z0N {o:Oper}{c:Call}{b:Builtin}{args:List Opd}{ao:AOp}{base:Nat}{σ:zaa}{f:Frame}{a:Act}{r:AV}(ho:o.op=.call c)(hb:c.callee=.builtin b)(hargs:c.args.toList.mapM opd=some args)
  (hc:zdV P b c.argTypes.toList args=some ao) (hs:SRel base κ Im σ w) (hf:FRel κ Im w f a) (h:zaw σ f ao=some r):zjX P κ Im w o a r:=by
 have g:=zj8 (κ:=κ) (Im:=Im) (w:=w) hf hargs;unfold zdV at hc;split at hc
 .rename_i t x s;have E:c.argTypes= #[t]:=zbl s;obtain⟨u,m⟩:∃u,c.args.toList.map a.eval= [u]:=by
   have:=g.1;simp only[ybn,ybg,yc1]at this
   match z:c.args.toList.map a.eval,g.1 with
   | [u],_=>exact⟨u,rfl⟩
  rw[m]at g;have j:VR κ Im w (x.ev f) u:=g.2 0 (by simp) (by simp);have d:c.args.map a.eval= #[u]:=by apply zbl;simpa using m
  split at hc
  .rename_i i;simp only[yab]at hc;subst hc;simp only[zaw]at h;split at h
   case h_2=>cases h
   rename_i l B;simp only[yab]at h;subst h;rw[B]at j;cases j.str_inv;refine⟨.int .i64 l.length,zeb ho hb ?_,.im _ _ (.int _ _)⟩;simp[builtin,Builtin.len_,E,d,run_underlying i,goInt];rfl
  .rename_i e i;simp only[yab]at hc;subst hc;simp only[zaw,yae]at h;obtain⟨l,B,rfl⟩:=h;obtain⟨J,F,rfl,_⟩:=z6W hs j B;refine⟨.int .i64 l.length,zeb ho hb ?_,.im _ _ (.int _ _)⟩;simp[builtin,Builtin.len_,E,d,run_underlying i,goInt]
  .rename_i n e i;simp only[yab]at hc;subst hc;simp only[zaw,ev_c,yab]at h;subst h;refine⟨.int .i64 n,zeb ho hb ?_,.im _ _ (.int _ _)⟩;simp[builtin,Builtin.len_,E,d,run_underlying i,goInt]
  .cases hc
 .rename_i G H x y s;simp only[yab]at hc;subst hc;obtain⟨u,v,m⟩:∃u v,c.args.toList.map a.eval= [u,v]:=by
   match z:c.args.toList.map a.eval,g.1 with
   | [u,v],_=>exact⟨u,v,rfl⟩
  rw[m]at g;have j:VR κ Im w (x.ev f) u:=g.2 0 (by simp) (by simp);have A:VR κ Im w (y.ev f) v:=g.2 1 (by simp) (by simp);have d:c.args.map a.eval= #[u,v]:=by apply zbl;simpa using m
  simp only[zaw]at h;split at h
  case h_2=>cases h
  rename_i k p I q C z;split at h
  case isFalse=>cases h
  rename_i D;subst D;simp only[yab,ycr,if_false]at h;subst h;rw[C]at j;rw[z]at A;cases j.int_inv;cases A.int_inv;refine⟨_,zeb ho hb ?_,.im _ _ (.int _ _)⟩;simp[builtin,Builtin.min_,d,Builtin.min2]
 .rename_i G H x y s;simp only[yab]at hc;subst hc;obtain⟨u,v,m⟩:∃u v,c.args.toList.map a.eval= [u,v]:=by
   match z:c.args.toList.map a.eval,g.1 with
   | [u,v],_=>exact⟨u,v,rfl⟩
  rw[m]at g;have j:VR κ Im w (x.ev f) u:=g.2 0 (by simp) (by simp);have A:VR κ Im w (y.ev f) v:=g.2 1 (by simp) (by simp);have d:c.args.map a.eval= #[u,v]:=by apply zbl;simpa using m
  simp only[zaw]at h;split at h
  case h_2=>cases h
  rename_i k p I q C z;split at h
  case isFalse=>cases h
  rename_i D;subst D;simp only[yab,if_true]at h;subst h;rw[C]at j;rw[z]at A;cases j.int_inv;cases A.int_inv;refine⟨_,zeb ho hb ?_,.im _ _ (.int _ _)⟩;simp[builtin,Builtin.max_,d,Builtin.max2]
 ·(repeat' (split at hc))<;>first
   |(cases hc;done)
   |(simp only[yab]at hc;subst hc;simp[zaw]at h)
 .cases hc
theorem zwb {o:Oper}{ao:AOp}{base:Nat}{σ:zaa}{f:Frame}{a:Act}{r:AV}(hc:znU P o=some ao)(hs:SRel base κ Im σ w)(hf:FRel κ Im w f a)(h:zaw σ f ao=some r):zjX P κ Im w o a r:=by
 unfold znU at hc;split at hc
 case h_1 x ho | h_2 x ho => -- move, assign
  simp only[yae]at hc;obtain⟨R,I,rfl⟩:=hc;simp only[zaw,yab]at h;subst h;exact⟨_,by simp[execOp,ho],zav I hf⟩
 case h_3 c p q ho => -- pick
  simp only[yak,yac,yau,yab]at hc;obtain⟨c',bj,p',hp,q',hq,rfl⟩:=hc;simp only[zaw]at h;split at h
  case h_2=>cases h
  rename_i b H;simp only[yab]at h;subst h;have:=zav bj hf;rw[H]at this;have b1:=this.bool_inv;refine⟨if b then a.eval p else a.eval q, ?_, ?_⟩;.simp[execOp,ho,b1,asBool]
  .cases b;.exact zav hq hf
   .exact zav hp hf
 case h_4=>simp only[yak,yac,yae,yau,yab]at hc;obtain⟨_,_,rfl⟩:=hc;simp[zaw]at h
 case h_5=>simp only[yak,yac,yae,yau,yab]at hc;obtain⟨_,_,rfl⟩:=hc;simp[zaw]at h
 case h_6 t parts ho => -- build
  split at hc;.rename_i fs M;simp only[yak,yac,yae,yau,yab]at hc;obtain⟨z,hz,pl,bk,ps,az,rfl⟩:=hc;exact zz0 ho hz az (λzv av l a6 a7=>by simp only[yac]at av;obtain⟨i,hi,a0⟩:=av;simp only[Program.built,hi,M,a0,bk];exact a7) hf h
  .rename_i n e M;simp only[yak,yac,yae,yau,yab]at hc;obtain⟨z,hz,sz,F,ps,az,rfl⟩:=hc;obtain⟨ie,bl,rfl⟩:=sizeOf?_ok F;exact zz0 ho hz az (λzv av l a6 a7=>by simp only[yac]at av;obtain⟨i,hi,a0⟩:=av;simp only[Program.built,hi,M,a0,bl];exact a7) hf h
  .cases hc
 case h_7=>
  split at hc
  .simp only[yak,yac,yau]at hc;obtain⟨_,_,_,_,hc⟩:=hc;split at hc;.simp only[yac,yab]at hc;obtain⟨_,_,rfl⟩:=hc;simp[zaw]at h
   .cases hc
  .cases hc
 case h_8 t x ho => -- load
  simp only[yak,yac,yae,yau,yab]at hc;obtain⟨ag,ha,K,F,R,I,rfl⟩:=hc;exact zBC ho ha F I hs hf h
 case h_9=>simp only[yak,yac,yae,yau,yab]at hc;obtain⟨_,_,_,_,_,_,rfl⟩:=hc;simp[zaw]at h
 case h_10 x ho => -- nilCheck
  simp only[yak,yac,yae,yau,yab]at hc;obtain⟨R,I,rfl⟩:=hc;have A:=zav (κ:=κ) (Im:=Im) (w:=w) I hf;simp only[zaw]at h;split at h;.rename_i id Q B;simp only[yab]at h;subst h;rw[B]at A;obtain⟨b,H,_⟩:=A.ptr_inv;exact⟨a.eval x,by simp[execOp,ho,H],A⟩
  .rename_i l B;simp only[yab]at h;subst h;rw[B]at A;obtain⟨b,o',ai,H,_⟩:=A.rptr_inv;exact⟨a.eval x,by simp[execOp,ho,H],A⟩
  .rename_i B;simp only[yab]at h;subst h;rw[B]at A;obtain⟨b,cap,H,_⟩:=A.rowp_inv;exact⟨a.eval x,by simp[execOp,ho,H],A⟩
  .rename_i B;simp only[yab]at h;subst h;rw[B]at A;have H:=A.gp_inv;exact⟨a.eval x,by simp[execOp,ho,H],A⟩
  .rename_i B;simp only[yab]at h;subst h;rw[B]at A;obtain⟨vs,us,H,_⟩:=A.fn_inv;exact⟨a.eval x,by simp[execOp,ho,H],A⟩
  .cases h
 case h_11 op t x y yt ho => -- binOp
  have bh:∀a8 R y',opd x=some R->opd y=some y'->zaw σ f (.bin a8 R y')=some r->a8=op->zjX P κ Im w o a r:=by intro a8 R y' I hy hp B;subst B;simp only[zaw]at hp;obtain⟨v,A,hr⟩:=zB3 (P:=P) (t:=t) (xo:=x) (yo:=y) (zav I hf) (zav hy hf) hp;refine⟨v, ?_,hr⟩;simp only[execOp,ho];rw[ya0];simp only[A,yas,ya6]
  have ax:∀neg R y',P.underlying t=some .bool->opd x=some R->opd y=some y'->zaw σ f (.beq neg R y')=some r->(if neg then BinOp.neq else BinOp.eql)=op->zjX P κ Im w o a r:=by
   intro neg R y' M I hy hp B;have W:=zav (κ:=κ) (Im:=Im) (w:=w) I hf;have h2:=zav (κ:=κ) (Im:=Im) (w:=w) hy hf;simp only[zaw]at hp;split at hp
   case h_2=>cases hp
   rename_i p q a9 ba;rw[a9]at W;rw[ba]at h2;simp only[yab]at hp;subst hp;have e1:=W.bool_inv;have e2:=h2.bool_inv;refine⟨_, ?_,.im _ _ (.bool _)⟩;have hg:∀op,(eqGuard op t x y (.bool p) (.bool q)).run P w=.ok () w:=by intro op;unfold eqGuard;cases op<;>simp<;>rfl
   subst B;cases neg;.simp[execOp,ho,e1,e2,hg,binOp,zkZ M]
   .simp[execOp,ho,e1,e2,hg,binOp,zkZ M,bne]
  have ay:∀neg ks R y',zjx P t=some ks->opd x=some R->opd y=some y'->zaw σ f (.eqs neg ks R y')=some r->(if neg then BinOp.neq else BinOp.eql)=op->zjX P κ Im w o a r:=by
   intro neg ks R y' M I hy hp B;have W:=zav (κ:=κ) (Im:=Im) (w:=w) I hf;have h2:=zav (κ:=κ) (Im:=Im) (w:=w) hy hf;simp only[zaw]at hp;split at hp
   case h_2=>cases hp
   rename_i p q a9 ba;rw[a9]at W;rw[ba]at h2;simp only[yae]at hp;obtain⟨b,H,rfl⟩:=hp;obtain⟨xs,e1,bm,_⟩:=W.agg_inv;obtain⟨ys,e2,bn,_⟩:=h2.agg_inv;obtain⟨h3,h4⟩:=z2B M bm bn H;refine⟨_, ?_,.im _ _ (.bool _)⟩;subst B;cases neg;.simp[execOp,ho,e1,e2,h4,binOp,h3]
   .simp[execOp,ho,e1,e2,h4,binOp,h3]
  split at hc
  .rename_i M;split at hc;.simp only[yak,yac,yau,yab]at hc;obtain⟨R,I,y',hy,rfl⟩:=hc;exact ax false R y' M I hy h rfl
   .simp only[yak,yac,yau,yab]at hc;obtain⟨R,I,y',hy,rfl⟩:=hc;exact ax true R y' M I hy h rfl
   .cases hc
  all_goals try (split at hc)
  all_goals first|(cases hc;done)|skip
  all_goals (simp only[yak,yac,yau,yab]at hc)
  all_goals first
   |(obtain⟨R,I,y',hy,rfl⟩:=hc;exact bh _ R y' I hy h rfl)
   |(obtain⟨ks,J,R,I,y',hy,rfl⟩:=hc;first|exact ay false ks R y' J I hy h rfl|exact ay true ks R y' J I hy h rfl)
 case h_12 t x ho => -- not
  simp only[yak,yac,yae,yau,yab]at hc;obtain⟨R,I,rfl⟩:=hc;have A:=zav (κ:=κ) (Im:=Im) (w:=w) I hf;simp only[zaw]at h;split at h
  case h_2=>cases h
  rename_i b B;rw[B]at A;have e:=A.bool_inv;simp only[yab]at h;subst h;exact⟨_,by simp[execOp,ho,e,Op.unary],.im _ _ (.bool _)⟩
 case h_13 t x ho => -- neg
  simp only[yak,yac,yae,yau,yab]at hc;obtain⟨R,I,rfl⟩:=hc;have A:=zav (κ:=κ) (Im:=Im) (w:=w) I hf;simp only[zaw]at h;split at h
  case h_2=>cases h
  rename_i k n B;rw[B]at A;have e:=A.int_inv;simp only[yab]at h;subst h;exact⟨_,by simp[execOp,ho,e,Op.unary,Op.intArith],.im _ _ (.int _ _)⟩
 case h_14 s t x ho => -- convert
  split at hc
  case h_2=>cases hc
  rename_i k k' bw bx;simp only[yae]at hc;obtain⟨R,I,rfl⟩:=hc;have A:=zav (κ:=κ) (Im:=Im) (w:=w) I hf;simp only[zaw]at h;split at h
  case h_2=>cases h
  rename_i k2 n B;rw[B]at A;have e:=A.int_inv;simp only[yab]at h;subst h;exact⟨_,by simp[execOp,ho,e,convert,run_underlying bw,run_underlying bx,Conv.intToInt],.im _ _ (.int _ _)⟩
 case h_15 t x ho => -- makeInterface
  split at hc;.cases hc
  .rename_i d bz M;simp only[yae]at hc;obtain⟨R,I,rfl⟩:=hc;simp only[zaw,yab]at h;subst h;refine⟨.iface t (a.eval x), ?_,.iface _ _ _ (zav I hf)⟩;have b2:P.concrete t=true:=by unfold Program.concrete;rw[M];cases d<;>first|rfl|exact absurd rfl (bz _)
   simp[execOp,ho,run_makeInterface w t _ b2]
  .cases hc
 case h_16 fn first captured ho => -- makeFunc
  simp only[yak,yac,yae,yau,yab]at hc;obtain⟨l,hl,m,hm,rfl⟩:=hc;simp only[zaw,yab]at h;subst h;have W:=zj8 (κ:=κ) (Im:=Im) (w:=w) hf hl;have h2:=zj8 (κ:=κ) (Im:=Im) (w:=w) hf hm;refine⟨.func fn (first.map a.eval) (captured.map a.eval),by simp[execOp,ho,Instr.makeFunc], ?_⟩;have e1:first.map a.eval=(first.toList.map a.eval).toArray:=zbl (by rw[ydf])
  have e2:captured.map a.eval=(captured.toList.map a.eval).toArray:=zbl (by rw[ydf]);rw[e1,e2];exact .fn _ _ _ _ _ W.1 h2.1 W.2 h2.2
 case h_17 => -- makeSlice
  split at hc
  .simp only[yak,yac,yau]at hc;obtain⟨_,_,_,_,hc⟩:=hc;split at hc;.simp only[yac,yab]at hc;obtain⟨_,_,_,_,rfl⟩:=hc;simp[zaw]at h
   .cases hc
  .cases hc
 case h_18 t x lo hi ho => -- slice
  split at hc
  .rename_i M;simp only[yak,yac,yau,yab]at hc;obtain⟨R,I,bo,a1,bp,a2,rfl⟩:=hc;have A:=zav (κ:=κ) (Im:=Im) (w:=w) I hf;simp only[zaw]at h;split at h
   case h_2=>cases h
   rename_i l B;rw[B]at A;have e:=A.str_inv;simp only[yac,yae]at h;obtain⟨Y,T,S,U,rfl⟩:=h;obtain⟨H,L,G⟩:=za5 (P:=P) (isSlice:=false) (zhG (κ:=κ) (Im:=Im) (w:=w) hf a1) (zhG (κ:=κ) (Im:=Im) (w:=w) hf a2) (yaf _) T U;refine⟨_, ?_,.im _ _ (.str _)⟩;have F:(ByteArray.mk l.toArray).size=l.length:=by simp[ByteArray.size]
   simp only[execOp,ho,e,ycz,Instr.sliceAt,ya0,run_underlying M,yas,Instr.slice,Option.isSome_none,ycr,if_false,F,H,ya6,Sem.run_ite];congr 3
   ext1
   simp[ByteArray.data_extract,List.drop_take]
  .rename_i e M;simp only[yak,yac,yau,yab]at hc;obtain⟨K,F,R,I,bo,a1,bp,a2,rfl⟩:=hc;have A:=zav (κ:=κ) (Im:=Im) (w:=w) I hf;have Z:=zhG (κ:=κ) (Im:=Im) (w:=w) hf a1;have aa:=zhG (κ:=κ) (Im:=Im) (w:=w) hf a2;simp only[zaw]at h;split at h
   .rename_i B;rw[B]at A;have O:=A.nils_inv;simp only[yac,yae]at h;obtain⟨Y,T,S,U,rfl⟩:=h;obtain⟨H,L,G⟩:=za5 (P:=P) (isSlice:=true) Z aa (yaf 0) T U;refine⟨.slice none 0 0, ?_,.im _ _ .nils⟩;have:=zbq none 0 0 S Y K M F H;simp only[execOp,ho,O,ycz,ya0,this,yas,ya6];have h0:Y=0:=by omega
    have W:S=0:=(by omega);simp[h0,W]
   .rename_i l B;rw[B]at A;split at h
    case isFalse=>cases h
    rename_i bf;simp only[yac,yae]at h;obtain⟨Y,T,S,U,rfl⟩:=h;rcases A.lst_inv with ⟨⟨g,O⟩,rfl⟩|⟨C,b,o',cap,ai,O,W,h2,h3,h4,h5,h6⟩
    .obtain⟨H,L,G⟩:=za5 (P:=P) (isSlice:=true) Z aa (yaf 0) T U;refine⟨.slice g 0 0, ?_,.im _ _ (by simpa using IR.lnil g)⟩;have:=zbq g 0 0 S Y K M F H;simp only[execOp,ho,O,ycz,ya0,this,yas,ya6];have h0:Y=0:=(by omega);have W:S=0:=(by omega);simp[h0,W]
    .obtain⟨H,L,G⟩:=za5 (P:=P) (isSlice:=true) Z aa W T U;have X:=zbq (some ⟨b,o',none⟩) l.length cap S Y K M F H;refine⟨_,by simp only[execOp,ho,O,ycz,ya0,X,yas,ya6];rfl,.im _ _ ?_⟩;by_cases aw:l= []
     .subst aw;have h0:Y=0:=by simp at G;exact G
      have bd:S=0:=(by omega);subst h0;subst bd;have:=zqi (w:=w) (Im:=Im) W h2 h3 h4 h5 h6 0 0 (yaf _) (yaf _);simpa using this
     .have am:C=K:=by
       cases l with
       |nil=>exact absurd rfl aw
       |cons c l=>rw[<-h3 c (by simp),bf c (by simp)]
      subst am;exact zqi W h2 h3 h4 h5 h6 S Y L G
   .rename_i id n B;rw[B]at A;split at h
    case h_3=>cases h
    case h_2=>
     rename_i e' C ak aj;split at h
     case isFalse=>cases h
     rename_i E;obtain⟨rfl,rfl⟩:=E;split at h
     case isFalse=>rename_i bg;simp only[yac,yae]at h;obtain⟨Y,T,S,U,rfl⟩:=h;obtain⟨g,cap,O,J⟩:=A.row_inv;obtain⟨H,L,G⟩:=za5 (P:=P) (isSlice:=true) (cap:=cap) Z aa (by omega) T U;have X:=zbq g ak.length cap S Y C M F H;exact⟨_,by simp only[execOp,ho,O,ycz,ya0,X,yas,ya6];rfl,.im _ _ (.junk _)⟩
     rename_i bg;simp only[yac,yae]at h;obtain⟨Y,T,S,U,rfl⟩:=h;obtain⟨g,cap,O,J⟩:=A.row_inv;obtain⟨v',xs,al,an,_,_,aq,_,_,_⟩:=hs.ent _ _ aj;rw[O]at J;rw[J]at al;cases al;rcases an.2 with ⟨q1,q2⟩|⟨g',be,br,q1,_,_,bs,b5,_⟩
     .omega
     .simp only[Value.slice.injEq]at q1;obtain⟨rfl,_,rfl⟩:=q1;obtain⟨H,L,G⟩:=za5 (P:=P) (isSlice:=true) Z aa bs T U;have X:=zbq (some ⟨g',0,none⟩) ak.length cap S Y C M F H;refine⟨_,by simp only[execOp,ho,O,ycz,ya0,X,yas,ya6];rfl, ?_⟩;by_cases af:cap=S;.rw[if_pos af];exact .sub id ak.length C S Y g' cap _ _ J L G (λh=>by omega) ⟨by omega,rfl⟩ (by omega) rfl
      .rw[if_neg af];exact .sub id ak.length C S Y g' cap _ _ J L G (λh=>by simp[VR.add]) ⟨by omega,rfl⟩ (by omega) (by simp[VR.add])
    rename_i e' C ak aj;split at h
    case isFalse=>cases h
    rename_i E;obtain⟨rfl,rfl⟩:=E;simp only[yac,yae]at h;obtain⟨Y,T,S,U,rfl⟩:=h;obtain⟨g,cap,O,J⟩:=A.row_inv;have bi:=znV hs aj J;obtain⟨v',xs,al,an,_,_,aq,_,_,_⟩:=hs.ent _ _ aj;rw[O]at bi J;rw[J]at al;cases al;rcases(VR.im (κ:=κ) _ _ bi).lst_inv with ⟨⟨gg,au⟩,bu⟩|⟨a5,b,o',b4,ai,au,W,h2,h3,h4,h5,h6⟩
    .simp only[Value.slice.injEq]at au;obtain⟨rfl,_,rfl⟩:=au;subst bu;obtain⟨H,L,G⟩:=za5 (P:=P) (isSlice:=true) Z aa (yaf 0) T U;refine⟨.slice g 0 0, ?_,.im _ _ (by simpa using IR.lnil g)⟩;have:=zbq g 0 0 S Y C M F H;simp only[execOp,ho,O,ycz,ya0,yc1,this,yas,ya6];have h0:Y=0:=by omega
     have W:S=0:=(by omega);simp[h0,W]
    .simp only[Value.slice.injEq]at au;obtain⟨rfl,_,rfl⟩:=au;obtain⟨H,L,G⟩:=za5 (P:=P) (isSlice:=true) Z aa W T U;have X:=zbq (some ⟨b,o',none⟩) ak.length cap S Y C M F H;refine⟨_,by simp only[execOp,ho,O,ycz,ya0,X,yas,ya6];rfl,.im _ _ ?_⟩;by_cases aw:ak= []
     .subst aw;have h0:Y=0:=by simp at G;exact G
      have bd:S=0:=(by omega);subst h0;subst bd;have:=zqi (w:=w) (Im:=Im) W h2 h3 h4 h5 h6 0 0 (yaf _) (yaf _);simpa using this
     .have am:a5=C:=(by obtain⟨c,hc⟩:=ydc _ aw;rw[<-h3 c hc,aq c hc]);subst am;exact zqi W h2 h3 h4 h5 h6 S Y L G
   .rename_i id n sz l0 h0 B;rw[B]at A;split at h
    case isFalse=>cases h
    rename_i E;subst E;simp only[yac,yae]at h;obtain⟨Y,T,S,U,rfl⟩:=h;obtain⟨b,cap,ad,c,O,J,k1,k2,k3,k4,k7,k5,k6⟩:=A.sub_inv';obtain⟨H,L,G⟩:=za5 (P:=P) (isSlice:=true) Z aa k4 T U;have X:=zbq (some ad) (h0-l0) c S Y sz M F H;refine⟨_,by simp only[execOp,ho,O,ycz,ya0,X,yas,ya6];rfl, ?_⟩;rw[show Y-S=l0+Y-(l0+S) by omega];by_cases af:c=S;.rw[if_pos af];exact .sub id n sz (l0+S) (l0+Y) b cap _ _ J (by omega) (by omega) (λh=>by omega) ⟨by omega,by omega⟩ (by omega) k6
    .rw[if_neg af];refine .sub id n sz (l0+S) (l0+Y) b cap _ _ J (by omega) (by omega) (λh=> ?_) ⟨by omega,by omega⟩ (by omega) (by cases ad;simp only at k6;subst k6;simp[VR.add]);rw[k3 (by omega),ya8];exact VR.add
   .rename_i id Q n sz B;rw[B]at A;split at h
    case isFalse=>cases h
    rename_i E;subst E;simp only[yac,yae]at h;obtain⟨Y,T,S,U,rfl⟩:=h;obtain⟨b,ad,c,O,J,k3,k4,k5,k6⟩:=A.asl_inv;obtain⟨H,L,G⟩:=za5 (P:=P) (isSlice:=true) Z aa k4 T U;have X:=zbq (some ad) n c S Y sz M F H;refine⟨_,by simp only[execOp,ho,O,ycz,ya0,X,yas,ya6];rfl, ?_⟩;by_cases af:c=S;.rw[if_pos af];exact .asl id (Q+S*sz) (Y-S) sz b _ _ J (λh=>by omega) (by omega) (by omega) k6
    .rw[if_neg af];refine .asl id (Q+S*sz) (Y-S) sz b _ _ J (λh=> ?_) (by omega) (by omega) (by cases ad;simp only at k6;subst k6;simp[VR.add]);rw[k3 (by omega)];exact VR.add
   .cases h
  .cases hc
 case h_19 t x i ho => -- fieldAddr
  split at hc
  case h_2=>cases hc
  rename_i fs M;simp only[yak,yac,yau]at hc;obtain⟨fd,a3,K,F,hc⟩:=hc;split at hc
  case isTrue=>cases hc
  rename_i b0;simp only[yac,yab]at hc;obtain⟨R,I,rfl⟩:=hc;have A:=zav (κ:=κ) (Im:=Im) (w:=w) I hf;have ab:∀(b Q:Nat),a.eval x=.pointer (some ⟨b,Q,none⟩)->(execOp a.eval o).run P w=.ok (.value (.pointer (some ⟨b,Q+fd.offset,none⟩))) w:=by intro b Q B;simp[execOp,ho,B,Instr.fieldAt,run_underlying M,a3,Instr.sureAddr,fieldPlace,run_sizeOf? F,b0,VR.add]
  simp only[zaw]at h;split at h;.rename_i id Q B;simp only[yab]at h;subst h;rw[B]at A;obtain⟨b,H,J⟩:=A.ptr_inv;exact⟨_,ab _ _ H,.ptr _ _ _ J⟩
  .rename_i l B;split at h
   case isFalse=>cases h
   simp only[yab]at h;subst h;rw[B]at A;obtain⟨b,o',ai,H,W,h2,h3⟩:=A.rptr_inv;exact⟨_,ab _ _ H,.im _ _ (zn8 W h2 h3 _)⟩
  .rename_i B;simp only[yab]at h;subst h;rw[B]at A;obtain⟨b,cap,H,J⟩:=A.rowp_inv;refine⟨_,ab _ _ H, ?_⟩;rw[yea];exact .rowp _ _ _ _ _ _ _ J
  .rename_i g o' B;simp only[yab]at h;subst h;rw[B]at A;exact⟨_,ab _ _ A.gp_inv,.im _ _ (.gp _ _)⟩
  .cases h
 case h_20 t x i ho => -- field
  split at hc
  case h_2=>cases hc
  rename_i fs M;simp only[yak,yac,yau,yab]at hc;obtain⟨fd,a3,K,F,ag,ha,R,I,rfl⟩:=hc;have A:=zav (κ:=κ) (Im:=Im) (w:=w) I hf;simp only[zaw]at h;split at h
  case h_2=>cases h
  rename_i l B;split at h
  case isFalse=>cases h
  rw[B]at A;obtain⟨vs,O,hl,ar⟩:=A.agg_inv;obtain⟨v,W,h2⟩:=z5n ha F hl ar h;exact⟨v,by simp[execOp,ho,O,Instr.field,run_underlying M,a3,asAgg,W],h2⟩
 case h_21 t x i ho => -- indexAddr
  split at hc
  .rename_i e M;simp only[yak,yac,yau,yab]at hc;obtain⟨K,F,R,I,i',hi,rfl⟩:=hc;have A:=zav (κ:=κ) (Im:=Im) (w:=w) I hf;have ae:=zav (κ:=κ) (Im:=Im) (w:=w) hi hf;have ab:∀(b Q:Nat) k (n bb cap:Nat),a.eval x=.slice (some ⟨b,Q,none⟩) bb cap->a.eval i=.int k (n:Int)->n<bb->(execOp a.eval o).run P w=.ok (.value (.pointer (some ⟨b,Q+n*K,none⟩))) w:=by intro b Q k n bb cap B bc D;simp[execOp,ho,B,bc,Instr.indexAt,asIntOf,run_underlying M,run_sizeOf? F,D,VR.add]
   simp only[zaw]at h;split at h
   .rename_i n l hn B;obtain⟨k,J⟩:=zdo ae hn;rw[B]at A;simp only[yac]at h;obtain⟨c,af,h⟩:=h;split at h
    case isFalse=>cases h
    rename_i aq;simp only[yab]at h;subst h;obtain⟨D,rfl⟩:=yaa.1 af;rcases A.lst_inv with ⟨_,rfl⟩|⟨C,b,o',cap,ai,O,W,h2,h3,h4,h5,h6⟩
    .simp at D
    .have am:C=K:=(by rw[<-h3 _ (yaw D),aq]);subst am;refine⟨_,ab _ _ _ _ _ _ O J D,.im _ _ (.rptr _ _ _ (ai n) (λc hc=>h4 _ (yaw D) c hc) (λj hj=> ?_) (λj hj=>h6 n j D hj))⟩;have:=h5 n j D (by omega);rw[yea];exact this
   .rename_i n id m hn B;obtain⟨k,J⟩:=zdo ae hn;rw[B]at A;split at h
    case h_2=>cases h
    rename_i e' C ak im aj;split at h
    case isFalse=>cases h
    rename_i E;obtain⟨rfl,rfl,D⟩:=E;simp only[yab]at h;subst h;obtain⟨g,cap,O,ah⟩:=A.row_inv;obtain⟨v',xs,al,an,_⟩:=hs.ent _ _ aj;rw[O]at ah;rw[ah]at al;cases al;rcases an.2 with ⟨W,h2⟩|⟨b,be,br,W,_⟩
    .omega
    .simp only[Value.slice.injEq]at W;obtain⟨rfl,_,rfl⟩:=W;have:=ab _ _ _ _ _ _ O J D;rw[ybl]at this;exact⟨_,this,by have:=VR.rowp (κ:=κ) (Im:=Im) (w:=w) id ak.length C n 0 b cap ah;simpa using this⟩
   .rename_i n id m sz l0 h0 hn B;obtain⟨k,J⟩:=zdo ae hn;rw[B]at A;split at h
    case isFalse=>cases h
    rename_i E;obtain⟨rfl,D⟩:=E;simp only[yab]at h;subst h;obtain⟨b,cap,ad,c,O,ah,k1,k2,k3,k4,_⟩:=A.sub_inv;rw[k3 (by omega)]at O;have:=ab _ _ _ _ _ _ O J (by omega);rw[<-ya8]at this;exact⟨_,this,by have:=VR.rowp (κ:=κ) (Im:=Im) (w:=w) id m sz (l0+n) 0 b cap ah;simpa using this⟩
   .rename_i n id Q m sz hn B;obtain⟨k,J⟩:=zdo ae hn;rw[B]at A;split at h
    case isFalse=>cases h
    rename_i E;obtain⟨rfl,D⟩:=E;simp only[yab]at h;subst h;obtain⟨b,ad,c,O,ah,k3,k4,_⟩:=A.asl_inv;rw[k3 (by omega)]at O;exact⟨_,ab _ _ _ _ _ _ O J D,.ptr _ _ _ ah⟩
   .cases h
  .rename_i m e M;simp only[yak,yac,yau,yab]at hc;obtain⟨K,F,R,I,i',hi,rfl⟩:=hc;have A:=zav (κ:=κ) (Im:=Im) (w:=w) I hf;have ae:=zav (κ:=κ) (Im:=Im) (w:=w) hi hf;have ab:∀(b Q:Nat) k (n:Nat),a.eval x=.pointer (some ⟨b,Q,none⟩)->a.eval i=.int k (n:Int)->n<m->(execOp a.eval o).run P w=.ok (.value (.pointer (some ⟨b,Q+n*K,none⟩))) w:=by intro b Q k n B bc D;simp[execOp,ho,B,bc,Instr.indexAt,Instr.sureAddr,asIntOf,run_underlying M,run_sizeOf? F,D,VR.add]
   simp only[zaw]at h;split at h
   .rename_i n id Q hn B;obtain⟨k,J⟩:=zdo ae hn;split at h
    case isFalse=>cases h
    rename_i D;simp only[yab]at h;subst h;rw[B]at A;obtain⟨b,H,ah⟩:=A.ptr_inv;exact⟨_,ab _ _ _ _ H J D,.ptr _ _ _ ah⟩
   .rename_i n l hn B;obtain⟨k,J⟩:=zdo ae hn;split at h
    case isFalse=>cases h
    rename_i D;simp only[yab]at h;subst h;rw[B]at A;obtain⟨b,o',ai,H,W,h2,h3⟩:=A.rptr_inv;exact⟨_,ab _ _ _ _ H J D.1,.im _ _ (zn8 W h2 h3 _)⟩
   .rename_i n id n' s' k' o' hn B;obtain⟨k,J⟩:=zdo ae hn;split at h
    case isFalse=>cases h
    rename_i D;simp only[yab]at h;subst h;rw[B]at A;obtain⟨b,cap,H,ah⟩:=A.rowp_inv;refine⟨_,ab _ _ _ _ H J D, ?_⟩;rw[yea];exact .rowp _ _ _ _ _ _ _ ah
   .rename_i n g o' hn B;obtain⟨k,J⟩:=zdo ae hn;split at h
    case isFalse=>cases h
    rename_i D;simp only[yab]at h;subst h;rw[B]at A;exact⟨_,ab _ _ _ _ A.gp_inv J D,.im _ _ (.gp _ _)⟩
   .cases h
  .cases hc
 case h_22 t x i ho => -- index
  split at hc
  .rename_i M;simp only[yak,yac,yau,yab]at hc;obtain⟨R,I,i',hi,rfl⟩:=hc;have A:=zav (κ:=κ) (Im:=Im) (w:=w) I hf;have ae:=zav (κ:=κ) (Im:=Im) (w:=w) hi hf;simp only[zaw]at h;split at h
   case h_2=>cases h
   rename_i n l hn B;obtain⟨k,J⟩:=zdo ae hn;rw[B]at A;have O:=A.str_inv;simp only[yae]at h;obtain⟨c,af,rfl⟩:=h;obtain⟨D,rfl⟩:=yaa.1 af;refine⟨_, ?_,.im _ _ (.int _ _)⟩;have H:(ByteArray.mk l.toArray)[n]? =some l[n]:=by show(if h:n<(ByteArray.mk l.toArray).size then some _ else none)=_;rw[dif_pos (by simpa[ByteArray.size]using D)];rfl
   simp[execOp,ho,O,J,Instr.index,asIntOf,run_underlying M,H]
  .rename_i m e M;simp only[yak,yac,yau,yab]at hc;obtain⟨K,F,ag,ha,R,I,i',hi,rfl⟩:=hc;have A:=zav (κ:=κ) (Im:=Im) (w:=w) I hf;have ae:=zav (κ:=κ) (Im:=Im) (w:=w) hi hf;simp only[zaw]at h;split at h
   case h_2=>cases h
   rename_i n l hn B;obtain⟨k,J⟩:=zdo ae hn;split at h
   case isFalse=>cases h
   rename_i D;rw[B]at A;obtain⟨vs,O,hl,ar⟩:=A.agg_inv;obtain⟨v,W,h2⟩:=z5n ha F hl ar h;exact⟨v,by simp[execOp,ho,O,J,Instr.index,asIntOf,run_underlying M,D.1,run_sizeOf? F,W],h2⟩
  .cases hc
 case h_23 x i ho => -- extract
  simp only[yak,yac,yau,yab]at hc;obtain⟨R,I,rfl⟩:=hc;have A:=zav (κ:=κ) (Im:=Im) (w:=w) I hf;simp only[zaw]at h;split at h
  case h_2=>cases h
  rename_i l B;rw[B]at A;obtain⟨vs,O,hl⟩:=A.tup_inv;obtain⟨u,M,bq⟩:=hl.get? h;exact⟨u,by simp[execOp,ho,O,Instr.extract,M],bq⟩
 case h_24 c ho => -- call
  split at hc
  .split at hc
   .split at hc;.simp only[yak,yac,yau,yab]at hc;obtain⟨_,_,rfl⟩:=hc;simp[zaw]at h
    .cases hc
   .cases hc
  .simp only[yak,yac,yau,yab]at hc;obtain⟨_,_,rfl⟩:=hc;simp[zaw]at h
  .rename_i b H;simp only[yak,yac]at hc;obtain⟨b3,a4,hc⟩:=hc;exact z0N ho H a4 hc hs hf h
  .cases hc
 case h_25=>cases hc
end
section
variable {P:Program}{base:Nat}{κ κ':Key}{Im Im':Addr->Prop}{w w':World}{σ:zaa}
theorem zxg {b:Nat}{e:TypeId}{size:Nat}{v:Value}{n:Nat}{xs:List Value}(h:w.ownsRow b e size v n xs)(hh:∀g,v.ownBlock=some g->w'.heap[g]? =w.heap[g]?):w'.ownsRow b e size v n xs:=by
 refine⟨h.1, ?_⟩;rcases h.2 with j|⟨g,c,d,i,k,f,a⟩
 .exact .inl j
 .exact .inr ⟨g,c,d,i,k,by rw[hh g (by rw[i];rfl)];exact f,a⟩
theorem EOK.keep {id:Nat}{e:Entry}(h:EOK κ Im base w id e)(hκ:∀i n v,κ i n=some v->κ' i n=some v)(hIm:∀a,Im a->Im' a)(hc:∀a,Im a->w'.cell? a=w.cell? a)
  (hh:∀b,e.block κ id=some b->w'.heap[b]? =w.heap[b]?) (hn:∀b,e.block κ id=some b->∀a,a.block=b->Im' a->Im a)
  (hit:e.isItr=true->∀(c:Nat) (es:Array MapEntry) (clock:Nat),w.heap[c]? =some (Obj.map es clock)->w'.heap[c]? =w.heap[c]?):EOK κ' Im' base w' id e:=by
 cases e with
 |dead _=>trivial
 |var t A=>
  obtain⟨b,Q,l,x,k,s,q,f⟩:=h;have d:(Entry.var t A).block κ id=some b:=by simp[Entry.block,l]
  exact⟨b,Q,hκ _ _ _ l,x,(hh b d).trans k,⟨s.1,λj h u=>(s.2 j h u).mono hκ hIm hc⟩,q,λa r p=>f a (hn b d a p r) p⟩
 |row W F P X=>
  obtain⟨v,R,l,B,s,y,C,q,D,f⟩:=h;have d:(Entry.row W F P X).block κ id=v.ownBlock:=by simp[Entry.block,l]
  refine⟨v,R,hκ _ _ _ l,zxg B (λg J=>hh g (by rw[d,J])),⟨s.1,λj h u=>(s.2 j h u).mono hκ hIm hc⟩,y,C,q,λK=>⟨(D K).1,λj h u=>((D K).2 j h u).mono hIm hc⟩,λg J=> ?_⟩;obtain⟨L,I⟩:=f g J;exact⟨λa r p=>L a (hn g (by rw[d,J]) a p r) p,λK o O=>hIm _ (I K o O)⟩
 |mp Y=>
  obtain⟨b,es,clock,l,x,k,y,s,f,M⟩:=h;have d:(Entry.mp Y).block κ id=some b:=by simp[Entry.block,l]
  exact⟨b,es,clock,hκ _ _ _ l,x,(hh b d).trans k,y,λj h u=>⟨(s j h u).1.mono hIm hc,(s j h u).2.mono hκ hIm hc⟩,λa r p=>f a (hn b d a p r) p,M⟩
 |itr G n left H=>
  obtain⟨b,l,x,f,h⟩:=h;have d:(Entry.itr G n left H).block κ id=some b:=by simp[Entry.block,l]
  refine⟨b,hκ _ _ _ l,x,λa r p=>f a (hn b d a p r) p, ?_⟩;cases G with
  |none=>exact⟨(hh b d).trans h.1,h.2⟩
  |some m=>obtain⟨c,es,clock,z,E,S,L,I,T,U⟩:=h;exact⟨c,es,clock,z,E,S,hκ _ _ _ L,(hit rfl c es clock I).trans I,(hh b d).trans T,U⟩
 |obj o=>
  obtain⟨b,l,x,f,h,O⟩:=h;have d:(Entry.obj o).block κ id=some b:=by simp[Entry.block,l]
  exact⟨b,hκ _ _ _ l,x,λa r p=>f a (hn b d a p r) p,(hh b d).trans h,O⟩
theorem EOK.block_ge {id:Nat}{e:Entry}(h:EOK κ Im base w id e){b:Nat}(hb:e.block κ id=some b):base<=b/\b<w.heap.size:=by
 cases e with
 |dead _=>simp[Entry.block]at hb
 |var t l=>obtain⟨j,z,f,a,d,_⟩:=h;simp[Entry.block,f]at hb;subst hb;exact⟨a,(yba.1 d).1⟩
 |row F r y G=>obtain⟨v,A,f,i,_⟩:=h;simp[Entry.block,f]at hb;exact i.lt _ hb
 |mp H=>obtain⟨j,u,g,f,a,d,_⟩:=h;simp[Entry.block,f]at hb;subst hb;exact⟨a,(yba.1 d).1⟩
 |itr p n left s=>
  obtain⟨j,f,a,_,h⟩:=h;simp[Entry.block,f]at hb;subst hb;refine⟨a, ?_⟩;cases p with
  |none=>exact(yba.1 h.1).1
  |some m=>obtain⟨c,u,g,k,q,B,C,D,x,E⟩:=h;exact(yba.1 x).1
 |obj o=>obtain⟨j,f,a,_,h,_⟩:=h;simp[Entry.block,f]at hb;subst hb;exact⟨a,(yba.1 h).1⟩
theorem zew {id:Nat}{e:Entry}{b:Nat}(h:EOK κ Im base w id e)(hκ:∀i n v,κ i n=some v->κ' i n=some v):e.block κ' id=e.block κ id:=by
 cases e with
 |dead _=>rfl
 |var t f=>obtain⟨c,m,a,_⟩:=h;simp[Entry.block,a,hκ _ _ _ a]
 |row r g k s=>obtain⟨v,p,a,_⟩:=h;simp[Entry.block,a,hκ _ _ _ a]
 |mp u=>obtain⟨c,q,d,a,_⟩:=h;simp[Entry.block,a,hκ _ _ _ a]
 |itr l n left j=>obtain⟨c,a,_⟩:=h;simp[Entry.block,a,hκ _ _ _ a]
 |obj o=>obtain⟨c,a,_⟩:=h;simp[Entry.block,a,hκ _ _ _ a]
theorem SRel.push (hs:SRel base κ Im σ w)(e:Entry)(hκ:∀i n v,κ i n=some v->κ' i n=some v)(hκ':∀i n v,κ' i n=some v->κ i n=some v∨(i=σ.length/\n<=e.ver))(hIm:∀a,Im a->Im' a)
  (hn:∀a,Im' a->Im a∨(w.heap.size<=a.block/\a.block<w'.heap.size/\a.spot=none)) (hsize:w.heap.size<=w'.heap.size) (hh:∀k,k<w.heap.size->w'.heap[k]? =w.heap[k]?)
  (he:EOK κ' Im' base w' σ.length e) (hb:∀b,e.block κ' σ.length=some b->w.heap.size<=b):SRel base κ' Im' (σ++ [e]) w':=by
 have s:∀a,Im a->w'.cell? a=w.cell? a:=λa q=>ya5 (hh _ (hs.imlt a q).1);have o:∀id m,σ[id]? =some m->EOK κ' Im' base w' id m:=λid m g=>(hs.ent _ _ g).keep hκ hIm s (λb hb=>hh b ((hs.ent _ _ g).block_ge hb).2) (λb hb a q r=>(hn a r).resolve_right (λp=>by have:=((hs.ent _ _ g).block_ge hb).2;omega)) (λ_ c E t s=>hh c (yba.1 s).1);refine⟨ybu hs.hb hsize,λid n v h=> ?_,λid m g=> ?_,λi j A B b u d f l hb2=> ?_,λa q=> ?_,hs.glob.mono (yaf _) hIm s (λk C=>hh k (ycc C hs.hb))⟩
 .rcases hκ' _ _ _ h with p|⟨rfl,p⟩;.obtain⟨m,d,f⟩:=hs.dom _ _ _ p;exact⟨m,by rw[yap (yaa.1 d).1];exact d,f⟩
  .exact⟨e,by simp,p⟩
 .rw[List.getElem?_append]at g;split at g;.exact o _ _ g
  .rename_i D;have:id=σ.length:=by have:=(yaa.1 g).1;simp at this;omega
   subst this;simp at g;subst g;exact he
 .rw[List.getElem?_append]at d f;split at d<;>split at f;.have x:=zew (b:=b) (hs.ent _ _ d) hκ;have y:=zew (b:=b) (hs.ent _ _ f) hκ;exact hs.sep i j A B b u d f (x▸l) (y▸hb2)
  .have z:j=σ.length:=(by have:=(yaa.1 f).1;simp at this;omega);subst z;simp at f;subst f;have x:=zew (b:=b) (hs.ent _ _ d) hκ;have:=((hs.ent _ _ d).block_ge (x▸l)).2;have:=hb b hb2;omega
  .have r:i=σ.length:=(by have:=(yaa.1 d).1;simp at this;omega);subst r;simp at d;subst d;have y:=zew (b:=b) (hs.ent _ _ f) hκ;have:=((hs.ent _ _ f).block_ge (y▸hb2)).2;have:=hb b l;omega
  .have r:i=σ.length:=(by have:=(yaa.1 d).1;simp at this;omega);have z:j=σ.length:=(by have:=(yaa.1 f).1;simp at this;omega);omega
 .rcases hn a q with h|h;.have:=hs.imlt a h;exact⟨by omega,this.2⟩
  .exact⟨h.2.1,h.2.2⟩
theorem SRel.set (hs:SRel base κ Im σ w){id:Nat}{old:Entry}(hold:σ[id]? =some old)(e:Entry)(hκ:∀i n v,κ i n=some v->κ' i n=some v)(hκ':∀i n v,κ' i n=some v->κ i n=some v∨(i=id/\n<=e.ver))(hver:old.ver<=e.ver)(hIm:∀a,Im a->Im' a)
  (hcell:∀a,Im a->w'.cell? a=w.cell? a)
  (hn:∀a,Im' a->Im a∨((e.block κ' id=some a.block)/\a.block<w'.heap.size/\a.spot=none)) (hsize:w.heap.size<=w'.heap.size) (hh:∀k,k<w.heap.size->old.block κ id≠some k->w'.heap[k]? =w.heap[k]?)
  (he:EOK κ' Im' base w' id e) (hb:∀b,e.block κ' id=some b->w.heap.size<=b∨old.block κ id=some b) (hmp:(∃kv,old=.mp kv)->zbr σ=true:=by rintro⟨_,h⟩;cases h):SRel base κ' Im' (σ.set id e) w':=by
 have u:id<σ.length:=(yaa.1 hold).1;have l:∀j s,j≠id->σ[j]? =some s->EOK κ' Im' base w' j s/\∀b,s.block κ j=some b->e.block κ' id≠some b:=λj s D x=>by
  have I:∀b,s.block κ j=some b->old.block κ id≠some b:=λb hb=>hs.sep j id s old b D x hold hb;have J:∀b,s.block κ j=some b->b<w.heap.size:=λb hb=>((hs.ent _ _ x).block_ge hb).2;have A:∀b,s.block κ j=some b->e.block κ' id≠some b:=λb H B=>by
   rcases hb b B with h|h;.have:=J b H;omega
   .exact I b H h
  refine⟨(hs.ent _ _ x).keep hκ hIm hcell (λb hb=>hh b (J b hb) (I b hb)) (λb hb a O f=>(hn a f).resolve_right (λB=>A b hb (by rw[<-O];exact B.1))) (λf c es P E=>hh c (yba.1 E).1 λp=> ?_),A⟩;have z:=hs.ent _ _ hold;cases old with
  |dead _=>simp[Entry.block]at p
  |var t T=>obtain⟨W,cs,y,_,r,_⟩:=z;simp[Entry.block,y]at p;subst p;rw[E]at r;cases r
  |row ty Y ae im=>
   obtain⟨v,xs,y,F,_⟩:=z;simp[Entry.block,y]at p;rcases F.2 with ⟨d,_⟩|⟨g,ab,ad,d,_,G,_⟩
   .rw[d]at p;simp[Value.ownBlock]at p
   .rw[d]at p;simp[Value.ownBlock]at p;subst p;rw[E]at G;cases G
  |mp kv=>have:=hmp ⟨kv,rfl⟩;simp only[zbr,ya1]at this;have:=this _ (yad x);rw[f]at this;cases this
  |itr U n left Z=>
   obtain⟨W,y,_,_,h⟩:=z;simp[Entry.block,y]at p;subst p;cases U with
   |none=>rw[E]at h;cases h.1
   |some m=>obtain⟨c',aa,K,L,X,c0,d,q,G,h4⟩:=h;rw[E]at G;cases G
  |obj o=>obtain⟨W,y,_,_,h,M⟩:=z;simp[Entry.block,y]at p;subst p;rw[E]at h;cases h;exact M _ _ rfl
 refine⟨ybu hs.hb hsize,λi n v h=> ?_,λi s x=> ?_,λi j e1 e2 b Q d q C hb2=> ?_,λa O=> ?_,hs.glob.mono (yaf _) hIm hcell (λk y=>hh k (ycc y hs.hb) (λhe=>by have:=((hs.ent _ _ hold).block_ge he).1;omega))⟩
 .rcases hκ' _ _ _ h with B|⟨rfl,B⟩
  .obtain⟨s,d,q⟩:=hs.dom _ _ _ B;by_cases f:i=id;.subst f;rw[hold]at d;cases d;exact⟨e,by rw[ybs u],by omega⟩
   .exact⟨s,by rw[yaj (Ne.symm f)];exact d,q⟩
  .exact⟨e,by rw[ybs u],B⟩
 .by_cases f:i=id;.subst f;rw[ybs u]at x;simp at x;subst x;exact he
  .rw[yaj (Ne.symm f)]at x;exact(l _ _ f x).1
 .by_cases f:i=id<;>by_cases D:j=id;.omega
  .subst f;rw[ybs u]at d;rw[yaj (Ne.symm D)]at q;simp at d;subst d;have R:=zew (b:=b) (hs.ent _ _ q) hκ;exact(l _ _ D q).2 b (R▸hb2) C
  .subst D;rw[ybs u]at q;rw[yaj (Ne.symm f)]at d;simp at q;subst q;have S:=zew (b:=b) (hs.ent _ _ d) hκ;exact(l _ _ f d).2 b (S▸C) hb2
  .rw[yaj (Ne.symm f)]at d;rw[yaj (Ne.symm D)]at q;have S:=zew (b:=b) (hs.ent _ _ d) hκ;have R:=zew (b:=b) (hs.ent _ _ q) hκ;exact hs.sep i j e1 e2 b Q d q (S▸C) (R▸hb2)
 .rcases hn a O with h|h;.have:=hs.imlt a h;exact⟨by omega,this.2⟩
  .exact h.2
theorem SRel.world (hs:SRel base κ Im σ w)(hIm:∀a,Im a->Im' a)(hn:∀a,Im' a->Im a∨(w.heap.size<=a.block/\a.block<w'.heap.size/\a.spot=none))(hsize:w.heap.size<=w'.heap.size)
  (hh:∀k,k<w.heap.size->w'.heap[k]? =w.heap[k]?):SRel base κ Im' σ w':=by
 have f:∀a,Im a->w'.cell? a=w.cell? a:=λa d=>ya5 (hh _ (hs.imlt a d).1);refine⟨ybu hs.hb hsize,hs.dom,λid e g=> ?_,hs.sep,λa d=> ?_,hs.glob.mono (yaf _) hIm f (λk l=>hh k (ycc l hs.hb))⟩;.exact(hs.ent _ _ g).keep (λ_ _ _ h=>h) hIm f (λb i=>hh b ((hs.ent _ _ g).block_ge i).2) (λb i a d m=>(hn a m).resolve_right (λn=>by have:=((hs.ent _ _ g).block_ge i).2;omega)) (λ_ c o j f=>hh c (yba.1 f).1)
 .rcases hn a d with h|h;.have:=hs.imlt a h;exact⟨by omega,this.2⟩
  .exact⟨h.2.1,h.2.2⟩
end
section
variable {P:Program}{base:Nat}{κ:Key}{Im:Addr->Prop}{w:World}{σ:zaa}
def zfr [Globs](P:Program)(base:Nat)(κ:Key)(Im:Addr->Prop)(w:World)(o:Oper)(a:Act)(K:AV->zaa->Prop):Prop:=∃v w' κ' Im' r σ',((execOp a.eval o).run P w=.ok (.value v) w'∨((execOp a.eval o).run P w=.ok .skip w'/\v=undef))/\K r σ'/\VR κ' Im' w' r v/\SRel base κ' Im' σ' w'/\Grow base κ Im w κ' Im' w'
def Key.with (κ:Key)(id n:Nat)(v:Value):Key:=λi m=>if i=id/\m=n then some v else κ i m
theorem Key.with_same (κ:Key)(id n:Nat)(v:Value):κ.with id n v id n=some v:=by simp[Key.with]
theorem Key.with_new {κ:Key}{id:Nat}(h:∀m v,κ id m=some v->False)(n:Nat)(v:Value):∀i m u,κ i m=some u->κ.with id n v i m=some u:=by
 intro i m u a;unfold Key.with
 split;.rename_i b;obtain⟨rfl,rfl⟩:=b;exact(h _ _ a).elim
 .exact a
theorem z4m {cells:List AV}{cs:Array Value}(t:TypeId)(hs:SRel base κ Im σ w)(hv:VRL κ Im w cells cs.toList)(hone:∀c∈cells,c.one=true):
  ∃κ',VR κ' Im (w.alloc (.cells cs t)) (.ptr σ.length 0) (.pointer (some ⟨w.heap.size,0,none⟩))/\SRel base κ' Im (σ++ [.var t cells]) (w.alloc (.cells cs t))/\Grow base κ Im w κ' Im (w.alloc (.cells cs t)):=by
 have d:∀m v,κ σ.length m=some v->False:=λm v h=>by obtain⟨e,p,_⟩:=hs.dom _ _ _ h;simp at p
 have l:=Key.with_new d 0 (.pointer (some ⟨w.heap.size,0,none⟩));have o:∀k,k<w.heap.size->(w.alloc (.cells cs t)).heap[k]? =w.heap[k]? :=λk q=>Below.heap_alloc w _ k q;have f:∀a,Im a->(w.alloc (.cells cs t)).cell? a=w.cell? a:=λa g=>ya5 (o _ (hs.imlt a g).1);refine⟨κ.with σ.length 0 (.pointer (some ⟨w.heap.size,0,none⟩)),.ptr _ _ _ (Key.with_same _ _ _ _), ?_,⟨l,λ_ h=>h,f,λ_ h=> .inl h,(Below.refl _ _).alloc hs.hb _⟩⟩;refine hs.push (.var t cells) l (λi n v h=> ?_) (λ_ h=>h) (λ_ h=> .inl h) (by simp) o ?_ (λb r=> ?_)
 .unfold Key.with at h;split at h;.rename_i f;exact .inr ⟨f.1,by rw[f.2];exact ycm _⟩
  .exact .inl h
 .exact⟨w.heap.size,cs,Key.with_same _ _ _ _,hs.hb,heap_alloc_new w _,⟨hv.1,λj h s=>(hv.2 j h s).mono l (λ_ h=>h) f⟩,hone,λa g u=>by have:=(hs.imlt a g).1;omega⟩
 .simp[Entry.block,Key.with]at r;omega
theorem z3L {o:Oper}{t:TypeId}{z:List AV}{a:Act}{K:AV->zaa->Prop}(ho:o.op=.alloc t)(hz:zga P t=some z)(hs:SRel base κ Im σ w)(h:K (.ptr σ.length 0) (σ++ [.var t z])):zfr P base κ Im w o a K:=by obtain⟨i,e,f,b,g⟩:=zfB hz;obtain⟨c,d,_⟩:=zci (Im:=Im) (w:=w) g;obtain⟨κ',j,k,l⟩:=z4m (cs:=e.cells) t hs (VRL.ofIR c) d;refine⟨_,_,κ',Im,_,_,.inl ?_,h,j,k,l⟩;simp[execOp,ho,Instr.alloc,zeroValue,typeInfo,f,b,newVar,newRow]
theorem zBD {o:Oper}{t:TypeId}{x:Operand}{x':Opd}{f:Frame}{a:Act}{K:AV->zaa->Prop}(ho:o.op=.box t x)(hx:opd x=some x')(hs:SRel base κ Im σ w)(hf:FRel κ Im w f a)
  (hone:∀c∈(x'.ev f).cells,c.one=true) (h:K (.ptr σ.length 0) (σ++ [.var t (x'.ev f).cells])):zfr P base κ Im w o a K:=by
 obtain⟨κ',b,d,e⟩:=z4m (cs:=(a.eval x).cells) t hs ((zav hx hf).oneCells hone) hone;refine⟨_,_,κ',Im,_,_,.inl ?_,h,b,d,e⟩;simp[execOp,ho,Instr.box,newVar,newRow]
theorem VRL.splice {cells vs:List AV}{us ws:List Value}(off:Nat)(h:VRL κ Im w cells us)(h':VRL κ Im w vs ws):VRL κ Im w (splice cells off vs) (us.take off++ws++us.drop (off+ws.length)):=zv1 cells vs us ws off h h'
theorem zbB (b:Nat):∀(vs:List Value) (off:Nat) (w:World) (cs:Array Value) (t:TypeId),w.heap[b]? =some (.cells cs t (0,0))->off+vs.length<=cs.size->∃cs':Array Value,(w.setCells b off vs).heap[b]? =some (.cells cs' t (0,0))/\cs'.toList=cs.toList.take off++vs++cs.toList.drop (off+vs.length)/\(∀k,k≠b->(w.setCells b off vs).heap[k]? =w.heap[k]?)/\(w.setCells b off vs).heap.size=w.heap.size/\(w.setCells b off vs).os=w.os/\(w.setCells b off vs).tape=w.tape/\(w.setCells b off vs).output=w.output:=by
 intro vs
 induction vs with
 |nil=>intro off w cs t h _;exact⟨cs,by simpa[World.setCells]using h,by simp,by simp[World.setCells],by simp[World.setCells],rfl,rfl,rfl⟩
 |cons v vs s=>
  intro off w cs t h a;simp only[ybg]at a;have p:=heap_setCell_same w b off cs t v h;obtain⟨cs',g,i,j,l,m,n,o⟩:=s (off+1) (w.setCell ⟨b,off,none⟩ v) (cs.setIfInBounds off v) t p (by simp;omega);have c:off<cs.toList.length:=by simp;omega
  have e:cs.toList.set off v=cs.toList.take off++v::cs.toList.drop (off+1):=by rw[List.set_eq_take_append_cons_drop,if_pos c]
  have f:(cs.toList.take off).length=off:=by rw[yan];omega
  refine⟨cs',by simpa[World.setCells]using g, ?_,λk d=> ?_, ?_, ?_, ?_, ?_⟩
  .rw[i,Array.toList_setIfInBounds,e];have q:List.take (off+1) (cs.toList.take off++v::cs.toList.drop (off+1))=cs.toList.take off++ [v]:=by rw[show off+1=(cs.toList.take off).length+1 from by rw[f],ycx,yal (by omega)];simp
   have r:List.drop (off+1+vs.length) (cs.toList.take off++v::cs.toList.drop (off+1))=cs.toList.drop (off+(v::vs).length):=(by rw[show off+1+vs.length=(cs.toList.take off).length+(1+vs.length) from by rw[f];omega,yeo];have:(cs.toList.take off).drop ((cs.toList.take off).length+(1+vs.length))= []:=ydp (by omega);rw[this,ybc,ye6 1,List.drop_succ_cons,yeq];simp only[yco,ybg];congr 1;omega);rw[q,r];simp
  .have:=j k d;simp only[World.setCells];rw[this,heap_setCell_other w ⟨b,off,none⟩ k v d]
  .simp only[World.setCells];rw[l];simp[World.setCell]
  .simp only[World.setCells];rw[m];rfl
  .simp only[World.setCells];rw[n];rfl
  .simp only[World.setCells];rw[o];rfl
theorem ze1 {l:List AV}{vs:List Value}(h:VRL κ Im w l vs)(hone:∀c∈l,c.one=true):∀u∈vs,u.oneCell'=true:=by
 intro u d;obtain⟨j,b,rfl⟩:=yaz.1 d;have a:j<l.length:=by rw[h.1];exact b
 exact(h.2 j a b).oneCell (hone _ (yaw a))
theorem zsK {cells vs:List AV}{off:Nat}(h:∀c∈cells,c.one=true)(h':∀c∈vs,c.one=true):∀c∈splice cells off vs,c.one=true:=by
 intro c a;simp only[splice,yai]at a;rcases a with (a|a)|a
 .exact h c (yao a)
 .exact h' c a
 .exact h c (yay a)
theorem zxa {t:TypeId}{size b off:Nat}{x:Value}(hsz:sizeOf? P t=some size)(hlen:x.cells.size=size)(h1:∀u∈x.cells.toList,u.oneCell'=true)(ht:w.there b off size):
  (Instr.storeAt t (.pointer (some ⟨b,off,none⟩)) x).run P w=.ok () (w.setCells b off x.cells.toList):=by
 have:=run_storeCells_cells (P:=P) b off x.cells.toList 0 w (λj a=>by simpa using(ht j (by simpa[hlen]using a)).1) (λj a=>by simpa using(ht j (by simpa[hlen]using a)).2) h1;simp only[ycf]at this;simp[Instr.storeAt,Instr.sureAddr,storeVar,run_sizeOf? hsz,hlen,this]
theorem zf9 {b:Nat}{cs:Array Value}{t:TypeId}{off n:Nat}(h:w.heap[b]? =some (.cells cs t (0,0)))(hle:off+n<=cs.size):w.there b off n:=λj a=>by refine⟨?_,by simp[World.frozen?,h]⟩;rw[cell_of_row w b (off+j) cs t (0,0) h];simp;omega
theorem zsu {size:Nat}:∀(els:List (List AV)) (k:Nat) (c vs:List AV) (off:Nat),(∀c∈els,c.length=size)->els[k]? =some c->off+vs.length<=size->(els.set k (splice c off vs)).flatten=splice els.flatten (k*size+off) vs:=by
 intro els
 induction els with
 |nil=>intro k c vs off _ h;simp at h
 |cons e els l=>
  intro k c vs off d a b;have f:e.length=size:=d e (by simp);cases k with
  |zero=>simp at a;subst a;simp only[List.set_cons_zero,ybk,Nat.zero_mul,ybl,splice];rw[ya7 (by omega),ycy (by omega)];simp
  |succ k=>
   have g:(k+1)*size+off=e.length+(k*size+off):=(by rw[f,ya8];omega);rw[List.set_cons_succ,ybk,l k c vs off (λc h=>d c (by simp[h])) (by simpa using a) b,ybk,g];have i:∀m,List.take (e.length+m) (e++els.flatten)=e++els.flatten.take m:=λm=>by rw[ycx,yal (by omega),ybc]
   have j:∀m,List.drop (e.length+m) (e++els.flatten)=els.flatten.drop m:=λm=>by rw[yeo,yb4 (by omega),ybc,yco]
   simp only[splice];rw[i,yea e.length,j];simp
theorem z6f {o:Oper}{t:TypeId}{x y:Operand}{x' y':Opd}{size:Nat}{f:Frame}{a:Act}{K:AV->zaa->Prop}{σ':zaa}(ho:o.op=.store t x y)(hsz:sizeOf? P t=some size)(hx:opd x=some x')(hy:opd y=some y')
  (hs:SRel base κ Im σ w) (hf:FRel κ Im w f a) (hlen:(y'.ev f).cells.length=size) (hone:∀c∈(y'.ev f).cells,c.one=true) (hput:zzn σ (x'.ev f) (y'.ev f).cells=some σ') (h:K .junk σ'):zfr P base κ Im w o a K:=by
 have an:=zav (κ:=κ) (Im:=Im) (w:=w) hx hf;have I:=(zav (κ:=κ) (Im:=Im) (w:=w) hy hf).oneCells hone;have h1:=ze1 I hone;have Z:(a.eval y).cells.size=size:=by rw[<-hlen,I.1];simp
 generalize hX:x'.ev f=X at*;generalize hV:(y'.ev f).cells=vs at*
 -- the step, once the block is zD1
 have ao:∀(id:Nat) (L e:Entry) (b i:Nat) (J:Array Value) (ty:TypeId),a.eval x=.pointer (some ⟨b,i,none⟩)->σ[id]? =some L->L.block κ id=some b->w.heap[b]? =some (.cells J ty (0,0))->i+size<=J.size->base<=b->(∀a,Im a->a.block=b->a.off<i∨i+size<=a.off)->σ'=σ.set id e->e.block κ id=some b->L.ver<=e.ver->(∀w' q,w'.heap[b]? =some (.cells q ty (0,0))->q.toList=J.toList.take i++(a.eval y).cells.toList++J.toList.drop (i+(a.eval y).cells.toList.length)->(∀a,Im a->w'.cell? a=w.cell? a)->EOK κ Im base w' id e)->zfr P base κ Im w o a K:=by
  intro id L e b i J ty az O D m H p A hσ a0 al hE;have aq:=zxa (P:=P) (x:=a.eval y) hsz Z h1 (zf9 m H);obtain⟨q,g1,Q,g3,g4,g5,g6,g7⟩:=zbB b (a.eval y).cells.toList i w J ty m (by simp[Z];exact H);have n:∀F,Im F->(w.setCells b i (a.eval y).cells.toList).cell? F=w.cell? F:=by
   intro F am;by_cases av:F.block=b;.have a7:=(hs.imlt F am).2;refine ydv b _ i w F (λ_ _=> ?_);have:=A F am av;simp[Z];exact this
   .exact ya5 (g3 _ av)
  refine⟨undef,_,κ,Im,.junk,σ',.inr ⟨by simp[execOp,ho,az,aq],rfl⟩,h,.im _ _ (.junk _), ?_,⟨λ_ _ _ h=>h,λ_ h=>h,n,λ_ h=> .inl h, ?_⟩⟩;.rw[hσ];refine hs.set O e (λ_ _ _ h=>h) (λ_ _ _ h=> .inl h) al (λ_ h=>h) n (λ_ h=> .inl h) (by omega) (λk _ E=>g3 k (λhe=>E (by rw[he];exact D))) (hE _ q g1 Q n) (λb' ak=> .inr (by rw[a0]at ak;rw[D];exact ak)) (by rintro⟨kv,rfl⟩;obtain⟨b2,es,aw,ax,_,aa,_⟩:=hs.ent _ _ O;simp[Entry.block,ax]at D;subst D;rw[m]at aa;cases aa)
  .exact⟨g5,g6,g7,by omega,λk E=>g3 k (by omega)⟩
 cases X with
 |ptr id i=>
  obtain⟨b,hb,E⟩:=an.ptr_inv;simp only[zzn]at hput;split at hput
  case h_2=>cases hput
  rename_i ty U z;split at hput
  case isFalse=>cases hput
  rename_i H;simp only[yab]at hput;obtain⟨b',J,ab,p,m,G,u,A⟩:=hs.ent _ _ z;rw[E]at ab;cases ab;have a8:U.length=J.size:=by simpa using G.1
  refine ao id _ _ b i J ty hb z (by simp[Entry.block,E]) m (by omega) p (λF hi he=>absurd he (A F hi)) hput.symm (by simp[Entry.block,E]) (yaf _) (λw' q g1 Q n=> ?_);refine⟨b,q,E,p,g1, ?_,zsK u hone,A⟩;rw[Q];have:=VRL.splice i G I;exact⟨this.1,λj h h'=>(this.2 j h h').mono (λ_ _ _ h=>h) (λ_ h=>h) n⟩
 |rowp id n₀ sz k i=>
  obtain⟨b,ae,hb,E⟩:=an.rowp_inv;simp only[zzn]at hput;split at hput
  case h_2=>cases hput
  rename_i e d r z;split at hput
  case isFalse=>cases hput
  rename_i W;obtain⟨rfl,rfl,H⟩:=W;split at hput
  case h_2=>cases hput
  rename_i c hc;simp only[yab]at hput;obtain⟨v,xs,hv,M,G,af,B,u,a6,A⟩:=hs.ent _ _ z;rw[E]at hv;cases hv;obtain⟨R,ag⟩:=yaa.1 hc;rcases M.2 with ⟨ay,_⟩|⟨g,a4,S,ai,p,m,C,aj,a5,T⟩
  .cases ay
  simp only[Value.slice.injEq,yab,Addr.mk.injEq]at ai;obtain⟨⟨rfl,_⟩,_,rfl⟩:=ai;obtain⟨ah,a3⟩:=A b rfl;have ar:(k+1)*d<=r.length*d:=yat _ R;have a1:r.length*d<=ae*d:=yat _ C;rw[ya8]at ar;have a9:r.flatten.length=r.length*d:=by rw[G.1,M.1]
  refine ao id _ _ b (k*d+i) S e hb z (by simp[Entry.block,E,Value.ownBlock]) m (by omega) p (λF hi he=> ?_) hput.symm (by simp[Entry.block,E,Value.ownBlock]) (by simp[Entry.ver]) (λw' q g1 Q n=> ?_);.have:=(ah F hi he).1;simp at this
  .have s:(r.set k (splice c i vs)).length=r.length:=(by simp);have a2:xs=S.toList.take (r.length*d):=T.symm;have ba:vs.length=(a.eval y).cells.toList.length:=I.1;have au:q.toList.take (r.length*d)=xs.take (k*d+i)++(a.eval y).cells.toList++xs.drop (k*d+i+(a.eval y).cells.toList.length):=by
    rw[Q,a2];have hA:(S.toList.take (k*d+i)).length=k*d+i:=by rw[yan];simp;omega
    rw[yax,ycx,yal (by omega),ycx,yal (l:=(a.eval y).cells.toList) (by omega),hA];rw[yd1,List.drop_take];rw[ybt (by omega)];rw[yax];congr 3;omega
   refine⟨_,q.toList.take (r.length*d),by rw[s];exact E,⟨?_,.inr ⟨b,ae,q,by rw[s],p,g1,by rw[s];exact C,aj, ?_,by rw[s]⟩⟩, ?_,af, ?_, ?_,λh=>by simp at h,λg hg=> ?_⟩;.rw[s,yan];have:=congrArg List.length Q;simp only[yag,yan,ya3,ya4]at this;simp only[ya4];omega
   .have:=congrArg List.length Q;simp only[yag,yan,ya3,ya4]at this;omega
   .rw[zsu r k c vs i B hc H];have:=VRL.splice (k*d+i) G I;rw[au];exact⟨this.1,λj h h'=>(this.2 j h h').mono (λ_ _ _ h=>h) (λ_ h=>h) n⟩
   .intro c' Y;rcases yds Y with h|rfl
    .exact B _ h
    .have:=B c (by rw[<-ag];exact yaw R);simp only[splice,yag,yan,ya3];omega
   .intro c' Y x hx;rcases yds Y with h|rfl
    .exact u _ h x hx
    .exact zsK (u c (by rw[<-ag];exact yaw R)) hone x hx
   .rw[s];exact A g hg
 |_=>simp[zzn]at hput
end
section
variable {P:Program}{base:Nat}{κ:Key}{Im:Addr->Prop}{w:World}{σ:zaa}
theorem z1D {t ty e:TypeId}{i:TypeInfo}{z:Value}(ht:P.underlying t=some (.slice e))(hi:P.info? e=some i)(hz:i.zero=some z)(hzs:z.cells.size=i.size)(hsz:0<i.size)
  {v:Value} {n:Nat} {xs:List Value} (b0:Nat) (hown:w.ownsRow b0 e i.size v n xs) (ad:Addr) (m c:Nat) (news:List Value) (hl:news.length=m*i.size) (hnews:∀j u,news[j]? =some u->w.cell? (ad.add j)=some u) (h1:∀u∈news,u.oneCell'=true)
  (h63:n+m<=maxLen) (hbytes:(n+m)*i.bytes<=140737488355328) (hbase:b0<=w.heap.size):
  ∃v' w',(Builtin.append_ #[t,t] ty #[v,.slice (some ad) m c]).run P w=.ok v' w'/\w'.ownsRow b0 e i.size v' (n+m) (xs++news)/\w.grownBy w' v.ownBlock/\(∀g,v'.ownBlock=some g->v.ownBlock=some g∨w.heap.size<=g)/\(m=0->v'=v/\w'=w)/\(∀g j,v.ownBlock=some g->j<n*i.size->w'.cell? ⟨g,j,none⟩=w.cell? ⟨g,j,none⟩):=by
 obtain⟨v',w',o,K,L,A⟩:=run_append_own (P:=P) w b0 t ty e i z i.size i.bytes ht hi hz rfl rfl hzs hsz v n xs hown ad m c news hl hnews h1 h63 hbytes hbase;have E:n+m<=9223372036854775807:=by simp only[maxLen]at h63;omega
 refine⟨v',w',o,K,L,λg k=> ?_,λH=> ?_,λg j k M=> ?_⟩
 .rcases hown.2 with ⟨rfl,rfl⟩|⟨p,a,f,rfl,F,q,B,G,s,x⟩
  .by_cases H:m=0;.subst H;have:v'=.slice none 0 0:=A.2 ⟨rfl,rfl⟩;subst this;simp[Value.ownBlock]at k
   .have h:=run_append_nil (P:=P) w t ty e i z ht hi hz ad m c news hl hnews (by omega) (by omega) (by have O:=hbytes;simp only[ybl]at O;omega);rw[h]at o;cases o;simp[Value.ownBlock]at k;right;omega
  .by_cases d:n+m<=a;.have r:n*i.size+news.length<=f.size:=(by rw[hl,s,<-ya8];exact yat _ d);have h:=run_append_room (P:=P) w t ty e i ht hi p n a f q ad m c news hl hnews h1 d r;rw[h]at o;cases o;exact .inl k
   .have l:∀j u,xs[j]? =some u->w.cell? ((⟨p,0,none⟩:Addr).add j)=some u:=hown.cells (g:=p) rfl;have h:=run_append_grow (P:=P) w t ty e i z ht hi hz ⟨p,0,none⟩ n a xs hown.1 l ad m c news hl hnews (by omega) (by omega) (growslice_fits (by omega) hbytes);rw[h]at o;cases o;simp[Value.ownBlock]at k;right;omega
 .subst H;have Q:news= []:=yaq (by simpa using hl);have y:∀b a,v=.slice b n a->n<=a:=by
   intro b a D;rcases hown.2 with ⟨h1,J⟩|⟨p,C,f,h1,_,_,B,_⟩
   .omega
   .rw[D]at h1;simp only[Value.slice.injEq]at h1;omega
  obtain⟨b,a,D⟩:∃b a,v=.slice b n a:=by
   rcases hown.2 with ⟨h1,J⟩|⟨p,C,f,h1,_⟩;.exact⟨none,0,by rw[h1,J]⟩
   .exact⟨_,_,h1⟩
  have y:=y b a D;subst D;have:(Builtin.append_ #[t,t] ty #[.slice b n a,.slice (some ad) 0 c]).run P w=.ok (.slice b n a) w:=by cases b<;>simp[Builtin.append_,run_underlying ht,sizeOf,typeInfo,hi,Builtin.lenOf,y,Builtin.firstCells,loadCells,loadCellsFrom,storeCells]
  rw[this]at o;cases o;exact⟨rfl,rfl⟩
 .rcases hown.2 with ⟨rfl,rfl⟩|⟨p,a,f,rfl,F,q,B,G,s,x⟩;.simp[Value.ownBlock]at k
  .simp only[Value.ownBlock,yab]at k;subst k;by_cases d:n+m<=a;.have r:n*i.size+news.length<=f.size:=(by rw[hl,s,<-ya8];exact yat _ d);have h:=run_append_room (P:=P) w t ty e i ht hi p n a f q ad m c news hl hnews h1 d r;rw[h]at o;cases o;rw[cell_setRow_same w p j f _ e _ q,cell_of_row w p j f e (0,0) q];have I:j<(f.toList.take (n*i.size)).length:=(by rw[yan];simp;omega);rw[List.getElem?_toArray,yax,yap I,ybz,if_pos M];simp
   .have l:∀j u,xs[j]? =some u->w.cell? ((⟨p,0,none⟩:Addr).add j)=some u:=hown.cells (g:=p) rfl;have h:=run_append_grow (P:=P) w t ty e i z ht hi hz ⟨p,0,none⟩ n a xs hown.1 l ad m c news hl hnews (by omega) (by omega) (growslice_fits (by omega) hbytes);rw[h]at o;cases o;exact ya5 (Below.heap_alloc _ _ _ (by simpa using(yba.1 q).1))
theorem zwn {X:AV}{x:Value}{m:List (List AV)}{size:Nat}(hs:SRel base κ Im σ w)(hx:VR κ Im w X x)(h:zgp σ X=some m)(hlen:∀c∈m,c.length=size)(hpos:0<size):
  (x=.slice none 0 0/\m= [])∨∃ad c news,x=.slice (some ad) m.length c/\news.length=m.length*size/\(∀j u,news[j]? =some u->w.cell? (ad.add j)=some u)/\IRL Im w m.flatten news/\∀c∈m,∀v∈c,v.one=true:=by
 have y:IR Im w (.lst m) x:=by
  cases X<;>simp only[zgp,reduceCtorEq,yab]at h
  case nils=>subst h;cases hx.nils_inv;exact .lnil _
  case lst l=>subst h;exact hx.pure (by simp[AV.pure])
  case row id n=>
   obtain⟨g,t,rfl,i⟩:=hx.row_inv;split at h
   case h_2=>cases h
   rename_i e size M O;split at h
   case isFalse=>cases h
   rename_i P;simp only[yab]at h;subst h;subst P;exact znV hs O i
 rcases(VR.im (κ:=κ) _ _ y).lst_inv with ⟨⟨g,B⟩,k⟩|⟨a,b,o,t,p,C,T,U,s,D,J,K⟩
 .cases g with
  |none=>exact .inl ⟨B,k⟩
  |some ad=>subst k;exact .inr ⟨ad,0,[],B,by simp,λj u h=>by simp at h,⟨rfl,λj h=>by simp at h⟩,λc h=>by simp at h⟩
 .by_cases F:m= [];.subst F;exact .inr ⟨_,_,[],C,by simp,λj u h=>by simp at h,⟨rfl,λj h=>by simp at h⟩,D⟩
  .have z:a=size:=(by obtain⟨c,A⟩:=ydc _ F;rw[<-s c A,hlen c A]);subst z;have r:∀(l:List (List AV)),(∀c∈l,c.length=a)->l.flatten.length=l.length*a:=by
    intro l
    induction l with
    |nil=>intro _;simp
    |cons c l R=>intro E;rw[ybk,yag,R (λc h=>E c (by simp[h])),E c (by simp),ybg,ya8];omega
   refine .inr ⟨_,_,(List.range (m.length*a)).map λq=>p (q/a) (q%a),C,by simp,λj u d=> ?_,⟨by rw[r m s];simp,λj d L=> ?_⟩,D⟩
   .rw[yca]at d;by_cases f:j<m.length*a;.rw[List.getElem?_range f]at d;simp at d;subst d;have i:j/a<m.length:=(ycv hpos).2 f;have:=(J (j/a) (j%a) i (yb3 _ hpos)).2;rw[Addr.add_mid];rw[Nat.div_add_mod']at this;exact this
    .rw[ybv (by simp;omega)]at d;cases d
   .have f:j<m.length*a:=(by rw[r m s]at d;exact d);have i:j/a<m.length:=(ycv hpos).2 f;obtain⟨G,H,S,I⟩:=zgt m (j/a) (j%a) s i (yb3 _ hpos);have e:(j/a)*a+j%a=j:=Nat.div_add_mod' ..;have Q:m.flatten[j]=m[j/a][j%a]:=(by rw[<-I];congr 1;exact e.symm);rw[Q];simp only[yc6,List.getElem_range];exact K _ _ G H
theorem zc6 {size:Nat}:∀(l:List (List AV)) (k:Nat),(∀c∈l,c.length=size)->(l.take k).flatten=l.flatten.take (k*size)
 | [],k,_=>by simp
 |c::l,0,_=>by simp
 |c::l,k+1,h=>by
  have a:c.length=size:=h c (by simp);have e:(k+1)*size=c.length+k*size:=by rw[a,ya8];omega
  rw[yd4,ybk,zc6 l k (λc a=>h c (by simp[a])),ybk,e,ycx,yal (l:=c) (by omega),ybc]
theorem zea {size:Nat}:∀(l:List (List AV)) (k:Nat),(∀c∈l,c.length=size)->(l.drop k).flatten=l.flatten.drop (k*size)
 | [],k,_=>by simp
 |c::l,0,_=>by simp
 |c::l,k+1,h=>by
  have a:c.length=size:=h c (by simp);have e:(k+1)*size=c.length+k*size:=by rw[a,ya8];omega
  rw[List.drop_succ_cons,zea l k (λc a=>h c (by simp[a])),ybk,e,yeo,yb4 (l:=c) (by omega),ybc,yco]
theorem zjR:∀(n size:Nat) (l:List AV),l.length=n*size->(zaY n size l).length=n/\(∀c∈zaY n size l,c.length=size)/\(zaY n size l).flatten=l
 |0,size,l,h=>by simp[zaY];exact yaq (by simpa using h)
 |n+1,size,l,h=>by
  rw[ya8]at h;obtain⟨b,d,e⟩:=zjR n size (l.drop size) (by simp;omega);refine⟨by simp[zaY,b],λc a=> ?_,by simp only[zaY,ybk,e,ya2]⟩;simp only[zaY,ybe]at a;rcases a with rfl|a
  .simp;omega
  .exact d c a
theorem ziu {X:AV}{x:Value}{m:List (List AV)}{size:Nat}(hs:SRel base κ Im σ w)(hx:VR κ Im w X x)(h:view σ X=some m)(hlen:∀c∈m,c.length=size)(hpos:0<size):
  (x=.slice none 0 0/\m= [])∨∃ad c news,x=.slice (some ad) m.length c/\news.length=m.length*size/\(∀j u,news[j]? =some u->w.cell? (ad.add j)=some u)/\VRL κ Im w m.flatten news/\(∀c∈m,∀v∈c,v.one=true)/\(znD σ X m->IRL Im w m.flatten news):=by
 by_cases ha:zgp σ X=some m
 .rcases zwn hs hx ha hlen hpos with I|⟨ad,c,news,F,h2,h3,h4,h5⟩;.exact .inl I
  .exact .inr ⟨ad,c,news,F,h2,h3,VRL.ofIR h4,h5,λ_=>h4⟩
 .cases X<;>simp only[view,reduceCtorEq,yab]at h
  case nils=>exact absurd (by simpa[zgp]using h) ha
  case lst l=>exact absurd (by simpa[zgp]using h) ha
  case row id n=>
   obtain⟨g,ah,rfl,W⟩:=hx.row_inv;split at h
   case h_2=>cases h
   rename_i e a B im S;split at h
   case isFalse=>cases h
   rename_i H;simp only[yab]at h;subst h;subst H;obtain⟨v0,xs,D,f,s,O,i,o,ai,aj⟩:=hs.ent _ _ S;rw[W]at D;cases D;have J:=f.1;rcases f.2 with ⟨F,h2⟩|⟨b,Z,ak,F,hg,hh,aa,ab,al,R⟩
   .exact .inl ⟨by rw[F],yaq h2⟩
   .simp only[Value.slice.injEq]at F;obtain⟨rfl,_,rfl⟩:=F;have y:=f.cells (g:=b) rfl;refine .inr ⟨_,_,xs,rfl, ?_,y,s,o,λq=> ?_⟩
    .by_cases hm:B= [];.subst hm;simpa using J
     .obtain⟨c,z⟩:=ydc _ hm;rw[J,<-i c z,hlen c z]
    .rcases q with q|q;.exact absurd q ha
     .refine⟨s.1,λj p G=>(s.2 j p G).pure ?_⟩;obtain⟨c,z,E⟩:=ybq.1 (yaw p);exact q c z _ E
  case asl id r n C=>
   obtain⟨b,ad,c,rfl,W,k3,k4,_⟩:=hx.asl_inv;split at h
   case h_2=>cases h
   rename_i t k S;split at h
   case isFalse=>cases h
   rename_i aa;simp only[yab]at h;subst h;obtain⟨b',cs,Y,_,P,s,Q,_⟩:=hs.ent _ _ S;rw[W]at Y;cases Y;have af:((k.drop r).take (n*C)).length=n*C:=by simp;omega
   obtain⟨c1,c2,c3⟩:=zjR n C _ af;have d:=(s.drop r).take (n*C);refine .inr ⟨ad,c,(cs.toList.drop r).take (n*C),by rw[c1], ?_,λj u p=> ?_,by rw[c3];exact d,λU A v am=> ?_,λq=> ?_⟩
   .rw[<-d.1,af,c1];by_cases H:n=0;.subst H;simp
    .have T:zaY n C ((k.drop r).take (n*C))≠ []:=λI=>by rw[I]at c1;simp at c1;omega
     obtain⟨U,A⟩:=ydc _ T;rw[<-c2 U A,hlen U A]
   .rw[ybz]at p;split at p
    case isFalse=>cases p
    rename_i ae;have H:0<n:=by
     rcases Nat.eq_zero_or_pos n with I|I;.subst I;simp at ae
     .exact I
    rw[k3 H,Addr.add_mid,cell_of_row w b (r+j) cs t (0,0) P];rw[yby]at p;simpa using p
   .refine Q v (yay (yao (?_:v∈(k.drop r).take (n*C))));rw[<-c3];exact ybq.2 ⟨U,A,am⟩
   .rcases q with q|q;.simp[zgp]at q
    .rw[c3];refine⟨d.1,λj p G=>(d.2 j p G).pure ?_⟩;have ag:∀v,v∈(k.drop r).take (n*C)->v∈(zaY n C ((k.drop r).take (n*C))).flatten:=λv hv=>by rw[c3];exact hv
     obtain⟨U,A,E⟩:=ybq.1 (ag _ (yaw p));exact q U A _ E
  case sub id n C L M=>
   obtain⟨b,ah,ad,c,rfl,W,k1,k2,k3,k4,_⟩:=hx.sub_inv;split at h
   case h_2=>cases h
   rename_i e a B im S;split at h
   case isFalse=>cases h
   rename_i H;obtain⟨H,rfl⟩:=H;simp only[yab]at h;subst h;subst H;obtain⟨v0,xs,D,f,s,O,i,o,ai,aj⟩:=hs.ent _ _ S;rw[W]at D;cases D;have K:((B.take M).drop L).length=M-L:=by simp;omega
   have J:=f.1;have an:((B.take M).drop L).flatten=(B.flatten.take (M*a)).drop (L*a):=(by rw[zea _ _ (λc z=>i c (yao z)),zc6 _ _ i]);have d:=(s.take (M*a)).drop (L*a);rw[<-an]at d;rcases f.2 with ⟨F,h2⟩|⟨b',Z,ak,F,hg,hh,aa,ab,al,R⟩
   .cases F
   .simp only[Value.slice.injEq,yab,Addr.mk.injEq]at F;obtain⟨⟨rfl,_⟩,_,rfl⟩:=F;have y:=f.cells (g:=b) rfl;have aq:=yat a k1;have ar:=yat a k2;refine .inr ⟨_,_,(xs.take (M*a)).drop (L*a),by rw[K], ?_,λj u p=> ?_,d,λc z=>o c (yao (yay z)),λq=> ?_⟩
    .rw[K];by_cases hm:L=M;.subst hm;simp
     .have:a=size:=by
       have T:(B.take M).drop L≠ []:=λI=>by rw[I]at K;simp at K;omega
       obtain⟨c,z⟩:=ydc _ T;rw[<-i c (yao (yay z)),hlen c z]
      subst this;rw[ya3,yan,J,Nat.sub_mul];omega
    .rw[yby,ybz]at p;split at p
     case isFalse=>cases p
     rename_i ae;have ao:L<M:=by refine Nat.lt_of_le_of_ne k1 λS=> ?_;subst S;omega
     have:=y _ _ p;rw[k3 ao,Addr.add_mid];rw[Addr.add_mid,ybl]at this;exact this
    .rcases q with q|q;.simp[zgp]at q
     .refine⟨d.1,λj p G=>(d.2 j p G).pure ?_⟩;obtain⟨c,z,E⟩:=ybq.1 (yaw p);exact q c z _ E
theorem zo0 {e size n:Nat}{m:List (List AV)}{im:Bool}{v:Value}{w':World}{xs:List Value}(hs:SRel base κ Im σ w)(hn:n=m.length)(hpos:0<size)(hlen:∀c∈m,c.length=size)(hone:∀c∈m,∀x∈c,x.one=true)
  (hown:w'.ownsRow w.heap.size e size v n xs) (hh:∀k,k<w.heap.size->w'.heap[k]? =w.heap[k]?) (hsize:w.heap.size<=w'.heap.size) (hos:w'.os=w.os) (htape:w'.tape=w.tape) (hout:w'.output=w.output)
  (hv:VRL κ Im w m.flatten xs) (hir:im=true->IRL Im w m.flatten xs):
  ∃κ' Im',VR κ' Im' w' (.row σ.length n) v/\SRel base κ' Im' (σ++ [.row e size m im]) w'/\Grow base κ Im w κ' Im' w':=by
 subst hn;have q:∀k u,κ σ.length k=some u->False:=λk u h=>by obtain⟨e,d,_⟩:=hs.dom _ _ _ h;simp at d
 have D:=Key.with_new q m.length v;have E:∀a,Im a->w'.cell? a=w.cell? a:=λa t=>ya5 (hh _ (hs.imlt a t).1);obtain⟨g,f,A⟩:∃g f,v=.slice g m.length f:=by
  rcases hown.2 with ⟨d,r⟩|⟨g,f,_,d,_⟩;.exact⟨none,0,by rw[d,r]⟩
  .exact⟨_,_,d⟩
 -- the cells that never change any more
 let Im':Addr->Prop:=λa=>Im a∨(im=true/\v.ownBlock=some a.block/\a.spot=none/\a.off<m.length*size);have l:∀b,v.ownBlock=some b->w.heap.size<=b/\b<w'.heap.size:=λb p=>hown.lt b p;refine⟨κ.with σ.length m.length v,Im', ?_, ?_,⟨D,λ_ h=> .inl h,E,λa h=> ?_,⟨hos,htape,hout,hsize,λk G=>hh k (ycc G hs.hb)⟩⟩⟩;.have:=Key.with_same κ σ.length m.length v;rw[A]at this⊢;exact .row _ _ _ _ this
 .refine hs.push _ D (λi k u h=> ?_) (λ_ h=> .inl h) (λa h=> ?_) hsize hh ?_ (λb p=> ?_)
  .unfold Key.with at h;split at h;.rename_i y;exact .inr ⟨y.1,by rw[y.2];exact yaf _⟩
   .exact .inl h
  .rcases h with h|⟨_,d,r,_⟩;.exact .inl h
   .exact .inr ⟨(l _ d).1,(l _ d).2,r⟩
  .have J:base<=w.heap.size:=hs.hb;refine⟨v,xs,Key.with_same _ _ _ _,⟨hown.1, ?_⟩,⟨hv.1,λj h C=>(hv.2 j h C).mono D (λ_ h=> .inl h) E⟩,hpos,hlen,hone,λz=>⟨(hir z).1,λj h C=>((hir z).2 j h C).mono (λ_ h=> .inl h) E⟩,λb p=>⟨λa t H=> ?_,λz o I=> .inr ⟨z,p,rfl,I⟩⟩⟩
   .rcases hown.2 with h|⟨g,f,B,d,r,s⟩;.exact .inl h
    .exact .inr ⟨g,f,B,d,by omega,s⟩
   .rcases t with t|⟨d,r,K,F⟩;.have:=(hs.imlt a t).1;have:=(l b p).1;omega
    .exact⟨d,F⟩
  .have:(Entry.row e size m im).block (κ.with σ.length m.length v) σ.length=v.ownBlock:=(by simp[Entry.block,Key.with_same]);rw[this]at p;exact(l b p).1
 .rcases h with h|⟨_,d,_⟩;.exact .inl h
  .exact .inr (ybu hs.hb (l _ d).1)
theorem zfj {α:Type}{a:Array α}{l:List α}(h:a.toList=l):a=l.toArray:=by rw[<-h]
def z9P (P:Program)(w:World)(o:Oper)(a:Act)(e size bytes:Nat)(u:Value)(m:List (List AV))(news:List Value):Prop:=∀(b0 n:Nat) (xs:List Value),w.ownsRow b0 e size u n xs->n+m.length<=maxLen->(n+m.length)*bytes<=140737488355328->b0<=w.heap.size->∃v' w',(execOp a.eval o).run P w=.ok (.value v') w'/\w'.ownsRow b0 e size v' (n+m.length) (xs++news)/\w.grownBy w' u.ownBlock/\(∀g,v'.ownBlock=some g->u.ownBlock=some g∨w.heap.size<=g)/\(m.length=0->v'=u/\w'=w)/\(∀g j,u.ownBlock=some g->j<n*size->w'.cell? ⟨g,j,none⟩=w.cell? ⟨g,j,none⟩)
def zBb (P:Program)(Im:Addr->Prop)(w:World)(σ:zaa)(K:AV->zaa->Prop)(e size bytes:Nat)(m:List (List AV))(news:List Value):AV->Prop
 | .nils=>(m= []/\K .nils σ)∨∃im,(im=true->IRL Im w m.flatten news)/\m.length*bytes<=140737488355328/\m.length<=9223372036854775807/\K (.row σ.length m.length) (σ++ [.row e size m im])
 | .row id n=>∃els im,σ[id]? =some (.row e size els im)/\(im=true->IRL Im w m.flatten news)/\els.length=n/\(n+m.length)*bytes<=140737488355328/\n+m.length<=9223372036854775807/\K (.row id (n+m.length)) (σ.set id (.row e size (els++m) im))
 |_=>False
theorem zq2 {o:Oper}{a:Act}{e size bytes:Nat}{X:AV}{u:Value}{m:List (List AV)}{news:List Value}{K:AV->zaa->Prop}(hpos:0<size)(hlen:∀c∈m,c.length=size)(hs:SRel base κ Im σ w)(hx:VR κ Im w X u)
  (g3:VRL κ Im w m.flatten news) (g4:∀c∈m,∀v∈c,v.one=true) (hrun:z9P P w o a e size bytes u m news) (h:zBb P Im w σ K e size bytes m news X):zfr P base κ Im w o a K:=by
 cases X<;>try (exact h.elim)
 case nils=>
  cases hx.nils_inv;have H:=World.ownsRow_nil w w.heap.size e size;rcases h with ⟨rfl,F⟩|⟨im,s,B,h2,F⟩
  .obtain⟨p,w',T,_,_,_,p4,_⟩:=hrun w.heap.size 0 [] H (by simp[maxLen]) (by simp) (yaf _);obtain⟨rfl,rfl⟩:=p4 rfl;exact⟨_,_,κ,Im,_,_,.inl T,F,hx,hs,Grow.refl _ _ _ _⟩
  obtain⟨p,w',T,U,q,_,_,_⟩:=hrun w.heap.size 0 [] H (by simp only[maxLen];omega) (by simpa using B) (yaf _);rw[ybl,yco]at U;obtain⟨κ',Im',A,W,q3⟩:=zo0 (e:=e) (size:=size) (m:=m) (im:=im) hs rfl hpos hlen g4 U (λk hk=>q.block k hk (by simp[Value.ownBlock])) q.size q.os q.tape q.output g3 s;exact⟨_,_,κ',Im',_,_,.inl T,F,A,W,q3⟩
 case row id n=>
  obtain⟨d,im,r,s,rfl,B,h2,F⟩:=h;obtain⟨b,t,rfl,hk⟩:=hx.row_inv;obtain⟨v0,L,Y,G,Z,M,O,C,af,aa⟩:=hs.ent _ _ r;rw[hk]at Y;cases Y;obtain⟨p,w',T,U,q,p3,p4,p5⟩:=hrun base d.length L G (by simp only[maxLen];omega) B hs.hb;by_cases E:m.length=0;.obtain⟨rfl,rfl⟩:=p4 E;have E:m= []:=yaq E;subst E;simp only[yc1,ycf,ybi]at F;have ab:σ.set id (.row e size d im)=σ:=(by obtain⟨al,he⟩:=yaa.1 r;rw[<-he,ycu]);rw[ab]at F;exact⟨_,_,κ,Im,_,_,.inl T,F,hx,hs,Grow.refl _ _ _ _⟩
  have S:∀u,κ id (d.length+m.length)=some u->False:=λu h=>by obtain⟨e',B,h2⟩:=hs.dom _ _ _ h;rw[r]at B;cases B;simp only[Entry.ver]at h2;omega
  have hκ:∀i' k u,κ i' k=some u->κ.with id (d.length+m.length) p i' k=some u:=by
   intro i' k u hu;unfold Key.with
   split;.rename_i D;obtain⟨rfl,rfl⟩:=D;exact(S _ hu).elim
   .exact hu
  have y:(Entry.row e size d im).block κ id=(Value.slice b d.length t).ownBlock:=by simp[Entry.block,hk]
  have z:(Entry.row e size (d++m) im).block (κ.with id (d.length+m.length) p) id=p.ownBlock:=by simp[Entry.block,Key.with_same]
  have I:∀g,p.ownBlock=some g->base<=g/\g<w'.heap.size:=λg Q=>U.lt g Q;let Im':Addr->Prop:=λl=>Im l∨(im=true/\p.ownBlock=some l.block/\l.spot=none/\l.off<(d.length+m.length)*size)
  -- the old cells stand
  have i:∀l,Im l->w'.cell? l=w.cell? l:=by
   intro l hI;by_cases x:(Value.slice b d.length t).ownBlock=some l.block;.obtain⟨k1,k2⟩:=aa _ x;have ae:=(k1 l hI rfl).2;have am:=(hs.imlt l hI).2;have aj:l=⟨l.block,l.off,none⟩:=(by cases l;simp_all);rw[aj];exact p5 _ _ x ae
   .exact ya5 (q.block _ (hs.imlt l hI).1 (λh=>x h.symm))
  have J:VRL (κ.with id (d.length+m.length) p) Im' w' (d++m).flatten (L++news):=by rw[ybx];have A:VRL (κ.with id (d.length+m.length) p) Im' w' d.flatten L:=⟨Z.1,λj h h'=>(Z.2 j h h').mono hκ (λ_ h=> .inl h) i⟩;have W:VRL (κ.with id (d.length+m.length) p) Im' w' m.flatten news:=⟨g3.1,λj h h'=>(g3.2 j h h').mono hκ (λ_ h=> .inl h) i⟩;exact A.append W
  have f:(d++m).length=d.length+m.length:=yag;refine⟨p,w',κ.with id (d.length+m.length) p,Im',_,_,.inl T,F, ?_, ?_,⟨hκ,λ_ h=> .inl h,i,λl h=> ?_,⟨q.os,q.tape,q.output,q.size,λk R=>q.block k (ycc R hs.hb) (λah=> ?_)⟩⟩⟩
  .obtain⟨g,ak,ag⟩:∃g t,p=.slice g (d.length+m.length) t:=by
    rcases U.2 with ⟨B,h2⟩|⟨g,t,_,B,_⟩;.omega
    .exact⟨_,_,B⟩
   have:=Key.with_same κ id (d.length+m.length) p;rw[ag]at this⊢;exact .row _ _ _ _ this
  .refine hs.set r _ hκ (λi' k u h=> ?_) (by simp[Entry.ver]) (λ_ h=> .inl h) i (λl h=> ?_) q.size (λk R ai=>q.block k R (λh=>ai (by rw[y,h]))) ?_ (λg Q=> ?_)
   .unfold Key.with at h;split at h;.rename_i D;exact .inr ⟨D.1,by rw[D.2];simp[Entry.ver]⟩
    .exact .inl h
   .rcases h with h|⟨_,A,W,_⟩;.exact .inl h
    .exact .inr ⟨by rw[z];exact A,(I _ A).2,W⟩
   .refine⟨p,L++news,by rw[f];exact Key.with_same _ _ _ _,by rw[f];exact U,J,M,λc hc=> ?_,λc hc=> ?_,λhi=> ?_,λg Q=>⟨λl ha x=> ?_,λhi o ho=> .inr ⟨hi,Q,rfl,by rw[f]at ho;exact ho⟩⟩⟩
    .rcases yai.1 hc with h|h;.exact O _ h
     .exact hlen _ h
    .rcases yai.1 hc with h|h;.exact C _ h
     .exact g4 _ h
    .refine⟨J.1,λj h h'=> ?_⟩;have q0:=af hi;have an:=q0.1;by_cases hj:j<d.flatten.length;.have e1:(d++m).flatten[j]=d.flatten[j]:=(by simp only[ybx];rw[ycp hj]);have e2:(L++news)[j]=L[j]'(by omega):=(by rw[ycp (by omega)]);rw[e1,e2];exact(q0.2 j hj (by omega)).mono (λ_ h=> .inl h) i
     .have e1:(d++m).flatten[j]=m.flatten[j-d.flatten.length]'(by rw[ybx,yag]at h;omega):=(by simp only[ybx];rw[ycj (by omega)]);have e2:(L++news)[j]=news[j-d.flatten.length]'(by rw[yag]at h';omega):=(by rw[ycj (by omega)];congr 1;omega);rw[e1,e2];exact((s hi).2 _ _ _).mono (λ_ h=> .inl h) i
    .rw[f];rcases ha with ha|⟨A,W,q3,q4⟩
     .rcases p3 g Q with h|h;.have:=(aa g h).1 l ha x;refine⟨this.1, ?_⟩;have:=this.2;have:=yat size (Nat.le_add_right d.length m.length);omega
      .have:=(hs.imlt l ha).1;omega
     .exact⟨A,q4⟩
   .rw[z]at Q;rcases p3 g Q with h|h
    .exact .inr (by rw[y];exact h)
    .exact .inl h
  .rcases h with h|⟨_,A,_⟩;.exact .inl h
   .exact .inr (I _ A).1
  .have:=G.lt k ah.symm;omega
def zzQ (P:Program)(Im:Addr->Prop)(w:World)(σ:zaa)(K:AV->zaa->Prop)(e size bytes:Nat)(m:List (List AV))(news:List Value):AV->Prop
 | .nils=>(m= []/\K .nils σ)∨∃im,(im=true->IRL Im w m.flatten news)/\m.length*bytes<=140737488355328/\m.length<=9223372036854775807/\K (.row σ.length m.length) (σ++ [.row e size m im])
 | .row id n=>∃els im,σ[id]? =some (.row e size els im)/\(im=true->IRL Im w m.flatten news)/\els.length=n/\(n+m.length)*bytes<=140737488355328/\n+m.length<=9223372036854775807/\K (.row id (n+m.length)) (σ.set id (.row e size (els++m) im))
 | .sub id n sz lo hi=>∃els,σ[id]? =some (.row e size els false)/\els.length=n/\0<n/\sz=size/\lo=0/\(hi+m.length)*bytes<=140737488355328/\hi+m.length<=9223372036854775807/\K (.row σ.length (hi+m.length)) (σ.set id (.dead n)++ [.row e size (els.take hi++m) false])
 |_=>False
theorem z0J {id e size hi b cap:Nat}{els:List (List AV)}(hs:SRel base κ Im σ w)(hent:σ[id]? =some (.row e size els false))(hk:κ id els.length=some (.slice (some ⟨b,0,none⟩) els.length cap))(hhi:hi<=els.length):
  ∃κ1,VR κ1 Im w (.row σ.length hi) (.slice (some ⟨b,0,none⟩) hi cap)/\SRel base κ1 Im (σ.set id (.dead els.length)++ [.row e size (els.take hi) false]) w/\Grow base κ Im w κ1 Im w:=by
 have C:∀k u,κ σ.length k=some u->False:=λk u h=>by obtain⟨e,m,_⟩:=hs.dom _ _ _ h;simp at m
 obtain⟨u,H⟩:∃u:Value,u=.slice (some ⟨b,0,none⟩) hi cap:=⟨_,rfl⟩;rw[<-H];have M:=Key.with_new C hi u;have D:id<σ.length:=(yaa.1 hent).1;obtain⟨v0,xs,I,o,A,B,p,s,ah,O⟩:=hs.ent _ _ hent;rw[hk]at I;cases I;have z:(Entry.row e size els false).block κ id=some b:=by simp[Entry.block,hk,Value.ownBlock]
 obtain⟨l,P,J,ai,Q,R,S⟩:∃l,base<=b/\w.heap[b]? =some (.cells l e (0,0))/\els.length<=cap/\cap<=maxLen/\l.size=cap*size/\l.toList.take (els.length*size)=xs:=by
  rcases o.2 with ⟨h,_⟩|⟨g,af,l,m,G,h3,h4,h5,h6,h7⟩;.cases h
  .simp only[Value.slice.injEq,yab,Addr.mk.injEq]at m;obtain⟨⟨rfl,_,_⟩,_,rfl⟩:=m;exact⟨l,G,h3,h4,h5,h6,h7⟩
 have E:(els.take hi).length=hi:=by simp;omega
 have aj:hi*size<=els.length*size:=yat size hhi;have ae:(els.take hi).flatten=els.flatten.take (hi*size):=zc6 _ _ p;have ag:els.flatten.length=els.length*size:=by rw[A.1];exact o.1
 have K:EOK (κ.with σ.length hi u) Im base w σ.length (.row e size (els.take hi) false):=by
  refine⟨u,xs.take (hi*size),by rw[E];exact Key.with_same _ _ _ _, ?_, ?_,B,λc W=>p c (yao W),λc W=>s c (yao W),λh=>(by cases h),λg J=>⟨λa ha X=> ?_,λh=>by cases h⟩⟩;.rw[E];refine⟨by rw[yan,o.1];omega,.inr ⟨b,cap,l,H,P,J,by omega,Q,R, ?_⟩⟩;rw[<-S,yd1];congr 1;omega
  .rw[ae];refine⟨by rw[yan,yan,A.1],λj h h'=> ?_⟩;rw[yan]at h h';have:=A.2 j (by omega) (by omega);rw[yck,yck];exact this.mono M (λ_ h=>h) (λ_ _=>rfl)
  .rw[H]at J;simp only[Value.ownBlock,yab]at J;exact absurd ((O b (by simp[Value.ownBlock])).1 a ha (by rw[X,J])).1 (by simp)
 refine⟨κ.with σ.length hi u, ?_,⟨hs.hb,λi n v h=> ?_,λi y d=> ?_,λi j Y Z q aa m G ab hb2=> ?_,hs.imlt,hs.glob⟩,⟨M,λ_ h=>h,λ_ _=>rfl,λ_ h=> .inl h,Below.refl _ _⟩⟩;.have:=Key.with_same κ σ.length hi u;rw[H]at this⊢;exact .row _ _ _ _ this
 .unfold Key.with at h;split at h;.rename_i ad;refine⟨.row e size (els.take hi) false,by rw[ad.1,yam (by simp)];simp, ?_⟩;simp only[Entry.ver];omega
  .obtain⟨y,m,G⟩:=hs.dom _ _ _ h;have L:=(yaa.1 m).1;by_cases f:i=id;.subst f;rw[hent]at m;cases m;exact⟨.dead els.length,by rw[yap (by simpa using L),ybs D],G⟩
   .exact⟨y,by rw[yap (by simpa using L),yaj (Ne.symm f)];exact m,G⟩
 .by_cases x:i<σ.length
  .rw[yap (by simpa using x)]at d;by_cases f:i=id;.subst f;rw[ybs D]at d;simp at d;subst d;trivial
   .rw[yaj (Ne.symm f)]at d;exact(hs.ent _ _ d).keep M (λ_ h=>h) (λ_ _=>rfl) (λ_ _=>rfl) (λ_ _ _ _ h=>h) (λ_ _ _ _ _=>rfl)
  .rw[yam (by simp;omega)]at d;have hx:=(yaa.1 d).1;simp at hx;have:i=σ.length:=by omega
   subst this;simp at d;subst d;exact K
 .have F:(Entry.row e size (els.take hi) false).block (κ.with σ.length hi u) σ.length=some b:=by simp only[Entry.block,E,Key.with_same];rw[H];rfl
  have r:∀(i:Nat) (y:Entry) (q:Nat),(σ.set id (.dead els.length)++ [.row e size (els.take hi) false])[i]? =some y->y.block (κ.with σ.length hi u) i=some q->(i<σ.length/\i≠id/\σ[i]? =some y/\y.block κ i=some q)∨(i=σ.length/\q=b):=λi y q d t=>by
   by_cases x:i<σ.length
   .rw[yap (by simpa using x)]at d;by_cases f:i=id;.subst f;rw[ybs D]at d;simp at d;subst d;simp[Entry.block]at t
    .rw[yaj (Ne.symm f)]at d;have k1:=zew (b:=q) (hs.ent _ _ d) M;exact .inl ⟨x,f,d,k1▸t⟩
   .rw[yam (by simp;omega)]at d;have hx:=(yaa.1 d).1;simp at hx;have:i=σ.length:=by omega
    subst this;simp at d;subst d;rw[F]at t;exact .inr ⟨rfl,by cases t;rfl⟩
  rcases r i Y q m ab with ⟨a1,T,a3,a4⟩|⟨a1,T⟩<;>rcases r j Z q G hb2 with ⟨c1,U,c3,c4⟩|⟨c1,U⟩;.exact hs.sep i j Y Z q aa a3 c3 a4 c4
  .subst U;exact hs.sep i id Y _ q T a3 hent a4 z
  .subst T;exact hs.sep id j _ Z q (Ne.symm U) hent c3 z c4
  .omega
theorem zvi {o:Oper}{a:Act}{e size bytes:Nat}{X:AV}{u:Value}{m:List (List AV)}{news:List Value}{K:AV->zaa->Prop}(hpos:0<size)(hlen:∀c∈m,c.length=size)(hs:SRel base κ Im σ w)(hx:VR κ Im w X u)
  (g3:VRL κ Im w m.flatten news) (g4:∀c∈m,∀v∈c,v.one=true) (hrun:z9P P w o a e size bytes u m news) (h:zzQ P Im w σ K e size bytes m news X):zfr P base κ Im w o a K:=by
 cases X
 case nils=>exact zq2 hpos hlen hs hx g3 g4 hrun h
 case row id n=>exact zq2 hpos hlen hs hx g3 g4 hrun h
 case sub id n sz lo Q=>
  obtain⟨f,d,rfl,R,rfl,rfl,l,A,B⟩:=h;obtain⟨b,p,S,c,rfl,s,T,C,D,U,t,W,Y⟩:=hx.sub_inv';obtain⟨Z,xs,i,j,_⟩:=hs.ent _ _ d;rw[s]at i;cases i;have z:f.length<=p:=by
   rcases j.2 with ⟨h,_⟩|⟨g,y,M,l,_,_,O,_⟩;.cases h
   .simp only[Value.slice.injEq]at l;obtain⟨_,_,rfl⟩:=l;exact O
  have k:=D (by omega);rw[Nat.zero_mul]at k;subst k;rw[Nat.sub_zero]at t hrun hx;subst t;obtain⟨κ1,E,F,x⟩:=z0J hs d s C;have q:(σ.set id (.dead f.length)).length=σ.length:=by simp
  obtain⟨v,w',κ',Im',r,σ',G,H,I,J,L⟩:=zq2 (K:=K) hpos hlen F E (g3.grow x) g4 hrun ⟨f.take Q,false,by rw[yam (by simp)];simp,λh=>(by cases h),by simp;omega,l,A,by rw[yct _ _ (by simp),q,yc2];exact B⟩;exact⟨v,w',κ',Im',r,σ',G,H,I,J,x.trans L⟩
 all_goals exact h.elim
theorem zwi {t ty e:TypeId}{i:TypeInfo}{z:Value}(ht:P.underlying t=some (.slice e))(hi:P.info? e=some i)(hz:i.zero=some z)(hzs:z.cells.size=i.size)
  {g:Option Addr} {n:Nat} {olds:List Value} (hol:olds.length=n*i.size) (hg:g=none->n=0) (holds:∀b,g=some b->∀j u,olds[j]? =some u->w.cell? (b.add j)=some u) (ad:Addr) (m c:Nat) (news:List Value) (hl:news.length=m*i.size) (hnews:∀j u,news[j]? =some u->w.cell? (ad.add j)=some u)
  (hm:0<m) (h63:n+m<=maxLen) (hbytes:(n+m)*i.bytes<=140737488355328):
  ∃v' w',(Builtin.append_ #[t,t] ty #[.slice g n n,.slice (some ad) m c]).run P w=.ok v' w'/\w'.ownsRow w.heap.size e i.size v' (n+m) (olds++news)/\w.grownBy w' none:=by
 have d:n+m<=9223372036854775807:=by simp only[maxLen]at h63;omega
 have a:(olds++news).length=(n+m)*i.size:=by rw[yag,hol,hl,ya8]
 have f:=grownCap_ge w (n+m) n e;have h:grownCap w (n+m) n e<=maxLen:=grownCap_le_maxLen w (n+m) n e h63;refine⟨.slice (some ⟨w.heap.size,0,none⟩) (n+m) (grownCap w (n+m) n e),w.drew.alloc (.cells (olds.toArray++news.toArray++Builtin.zeroCells z.cells (grownCap w (n+m) n e-(n+m))) e), ?_,⟨a,.inr ⟨w.heap.size,_,_,rfl,yaf _,heap_alloc_new w.drew _,f,h, ?_, ?_⟩⟩,⟨rfl,rfl,rfl,by simp,λk l _=>Below.heap_alloc w.drew _ k l⟩⟩
 .cases g with
  |none=>obtain rfl:=hg rfl;have o:olds= []:=yaq (by simpa using hol);subst o;have p:=run_append_nil (P:=P) w t ty e i z ht hi hz ad m c news hl hnews hm (by omega) (by simp only[ybl]at hbytes;omega);simpa using p
  |some b=>exact run_append_grow (P:=P) w t ty e i z ht hi hz b n n olds hol (holds b rfl) ad m c news hl hnews (by omega) (by omega) (growslice_fits (by omega) hbytes)
 .simp only[ye0,ye1,size_zeroCells,hzs,hol,hl,<-ya8];congr 1;omega
 .simp only[Array.toList_append,yax];rw[<-yax,<-a];exact List.take_left
theorem zCc {o:Oper}{c:Call}{s e size bytes:Nat}{x y:Opd}{i:TypeInfo}{z:Value}{f:Frame}{a:Act}{K:AV->zaa->Prop}(ho:o.op=.call c)(hb:c.callee=.builtin .append)(hts:c.argTypes.toList= [s,s])(hargs:c.args.toList.mapM opd=some [x,y])
  (ht:P.underlying s=some (.slice e)) (hi:P.info? e=some i) (hz:i.zero=some z) (hzs:z.cells.size=i.size) (hpos:0<i.size) (hsize:i.size=size) (hbytes:i.bytes=bytes)
  (hs:SRel base κ Im σ w) (hf:FRel κ Im w f a) (h:zat P K f σ (.app e size bytes x y)):zfr P base κ Im w o a K:=by
 subst hsize;subst hbytes;have hv:=zj8 (κ:=κ) (Im:=Im) (w:=w) hf hargs;obtain⟨u,v,hu⟩:∃u v,c.args.toList.map a.eval= [u,v]:=by
  match hq:c.args.toList.map a.eval,hv.1 with
  | [u,v],_=>exact⟨u,v,rfl⟩
 rw[hu]at hv;have hx:VR κ Im w (x.ev f) u:=hv.2 0 (by simp) (by simp);have hy:VR κ Im w (y.ev f) v:=hv.2 1 (by simp) (by simp);have C:c.args.map a.eval= #[u,v]:=by apply zfj;simpa using hu
 have T:c.argTypes= #[s,s]:=zfj hts;have A:∀r w',(Builtin.append_ #[s,s] o.type #[u,v]).run P w=.ok r w'->(execOp a.eval o).run P w=.ok (.value r) w':=by intro r w' Q;simp only[execOp,ho,resolve,hb,ya0,ya6,yas,invoke,builtin,C,T,Q]
 simp only[zat]at h;obtain⟨m,hm,aa,p,h⟩:=h;by_cases hT:∃l,x.ev f=.tight l
 .obtain⟨l,hX⟩:=hT;rw[hX]at h hx;simp only at h;obtain⟨im,X,L,M,hb,F,hK⟩:=h;obtain⟨g,rfl,ab⟩:=hx.tight_inv;rcases ziu hs hy hm p hpos with ⟨rfl,rfl⟩|⟨ad,c',news,rfl,g1,g2,Y,Z,g5⟩
  .exact absurd rfl L
  have ai:0<m.length:=ycw.2 L;have U:∃d:List Value,d.length=l.length*i.size/\(g=none->l.length=0)/\(∀b,g=some b->∀j u,d[j]? =some u->w.cell? (b.add j)=some u)/\IRL Im w l.flatten d/\∀c∈l,∀v∈c,v.one=true:=by
   rcases zwn hs (.im _ _ ab) (by rfl) X hpos with ⟨D,rfl⟩|⟨al,c0,d,D,O,h3,B,h5⟩;.exact⟨[],by simp,λ_=>rfl,λb _ j u h=>by simp at h,⟨rfl,λj h=>by simp at h⟩,by simp⟩
   .simp only[Value.slice.injEq]at D;exact⟨d,O,λh=>by rw[D.1]at h;(cases h),λb hb=>by rw[D.1]at hb;cases hb;exact h3,B,h5⟩
  obtain⟨d,O,ae,h3,B,h5⟩:=U;obtain⟨v',w',Q,ho,t⟩:=zwi (ty:=o.type) ht hi hz hzs O ae h3 ad m.length c' news g1 g2 ai (by simp only[maxLen];omega) hb;have W:(l++m).length=l.length+m.length:=yag;have aj:VRL κ Im w (l++m).flatten (d++news):=by rw[ybx];exact(VRL.ofIR B).append Y
  obtain⟨κ',Im',G,H,q3⟩:=zo0 (e:=e) (size:=i.size) (m:=l++m) (im:=im) hs rfl hpos (λc R=>(yai.1 R).elim (X c) (p c)) (λc R=>(yai.1 R).elim (h5 c) (Z c)) (by rw[W];exact ho) (λk hk=>t.block k hk (by simp)) t.size t.os t.tape t.output aj (λah=>by
   rw[ybx];have h6:=g5 (M ah);refine⟨by rw[yag,yag,B.1,h6.1],λj h h'=> ?_⟩;by_cases hj:j<l.flatten.length;.rw[ycp hj,ycp (by rw[<-B.1];exact hj)];exact B.2 _ _ _
   .rw[ycj (by omega),ycj (by rw[<-B.1];omega)];have:=h6.2 (j-l.flatten.length) (by rw[yag]at h;omega) (by rw[yag,<-B.1]at h';omega);simpa only[B.1]using this)
  rw[W]at G;exact⟨_,_,κ',Im',_,_,.inl (A _ _ Q),hK,G,H,q3⟩
 have E:∀news,(znD σ (y.ev f) m->IRL Im w m.flatten news)->zzQ P Im w σ K e i.size i.bytes m news (x.ev f):=by
  intro news hn;revert h;cases ak:x.ev f<;>simp only[zzQ]<;>intro h<;>first|exact h.elim|skip
  .rcases h with h|⟨im,G,H⟩;.exact .inl h
   .exact .inr ⟨im,λhi=>hn (G hi),H⟩
  .obtain⟨af,im,G,H,q3⟩:=h;exact⟨af,im,G,λhi=>hn (H hi),q3⟩
  .exact h
  .exact absurd ⟨_,ak⟩ hT
 rcases ziu hs hy hm p hpos with ⟨rfl,rfl⟩|⟨ad,c',news,rfl,g1,g2,Y,Z,g5⟩
 .refine zvi hpos p hs hx (news:= []) ⟨rfl,λj h=>by simp at h⟩ (by simp) (λb0 n xs q F hb S=> ?_) (E [] λ_=>⟨rfl,λj h=>by simp at h⟩);obtain⟨G,H⟩:∃bb I,u=.slice bb n I:=by
   rcases q.2 with ⟨D,O⟩|⟨g,I,_,D,_⟩;.exact⟨none,0,by rw[D,O]⟩
   .exact⟨_,_,D⟩
  obtain⟨I,rfl⟩:=H;exact⟨_,w,A _ _ (run_append_owned_none (P:=P) (w:=w) b0 s o.type e i i.size ht hi _ _ xs q),by simpa using q,⟨rfl,rfl,rfl,yaf _,λ_ _ _=>rfl⟩,λg hg=> .inl hg,λ_=>⟨rfl,rfl⟩,λ_ _ _ _=>rfl⟩
 .have J:∀u∈news,u.oneCell'=true:=ze1 Y (λc R=>by obtain⟨l,X,ag⟩:=ybq.1 R;exact Z l X c ag);refine zvi hpos p hs hx Y Z (λb0 n xs q F hb S=> ?_) (E news g5);obtain⟨v',w',Q,p1,p2,p3,p4,p5⟩:=z1D (ty:=o.type) ht hi hz hzs hpos b0 q ad m.length c' news g1 g2 J F hb S;exact⟨v',w',A _ _ Q,p1,p2,p3,p4,p5⟩
theorem zs7 {t u ty e:TypeId}{i:TypeInfo}(ht:P.underlying t=some (.slice e))(hu:P.underlying u=some .string)(hi:P.info? e=some i)(hz:i.zero=some (.int .u8 0))(hsz:i.size=1)(hby:i.bytes=1)
  {v:Value} {n:Nat} {xs:List Value} (b0:Nat) (hown:w.ownsRow b0 e 1 v n xs) (s:ByteArray) (h63:n+s.size<=maxLen) (hbytes:n+s.size<=140737488355328) (hbase:b0<=w.heap.size):
  ∃v' w',(Builtin.append_ #[t,u] ty #[v,.string s]).run P w=.ok v' w'/\w'.ownsRow b0 e 1 v' (n+s.size) (xs++Lib.strCells s)/\w.grownBy w' v.ownBlock/\(∀g,v'.ownBlock=some g->v.ownBlock=some g∨w.heap.size<=g)/\(s.size=0->v'=v/\w'=w)/\(∀g j,v.ownBlock=some g->j<n*1->w'.cell? ⟨g,j,none⟩=w.cell? ⟨g,j,none⟩):=by
 obtain⟨v',w',l,J,K,G⟩:=Lib.run_append_own_string (P:=P) w b0 t u ty e i ht hu hi hz hsz hby v n xs hown s h63 hbytes hbase;have z:n+s.size<=9223372036854775807:=by simp only[maxLen]at h63;omega
 have M:xs.length=n:=by simpa using hown.1
 have p:s.size=0->v'=v/\w'=w:=by
  intro y;have q:∃b a,v=.slice b n a/\n<=a:=by
   rcases hown.2 with ⟨A,L⟩|⟨o,H,f,A,_,_,r,_⟩;.exact⟨none,0,by rw[A,L],by omega⟩
   .exact⟨_,_,A,r⟩
  obtain⟨b,a,rfl,q⟩:=q;have I:=Lib.run_firstCells_string (P:=P) w 1 s;rw[y]at I;have E:Lib.strCells s= []:=yaq (by rw[Lib.strCells_length];exact y);have:(Builtin.append_ #[t,u] ty #[.slice b n a,.string s]).run P w=.ok (.slice b n a) w:=by cases b<;>simp[Builtin.append_,run_underlying ht,run_underlying hu,sizeOf,typeInfo,hi,hsz,Builtin.lenOf,q,y,I,E,storeCells]
  rw[this]at l;cases l;exact⟨rfl,rfl⟩
 refine⟨v',w',l,J,K,λg d=> ?_,p,λg j d O=> ?_⟩
 .by_cases y:s.size=0;.obtain⟨rfl,rfl⟩:=p y;exact .inl d
  rcases hown.2 with ⟨rfl,rfl⟩|⟨o,a,f,rfl,B,m,r,C,D,x⟩;.have c:=run_append_nil_string (P:=P) w t u ty e i (.int .u8 0) ht hu hi hz s (by omega) (by omega) (by rw[hby];omega);rw[c]at l;cases l;simp[Value.ownBlock]at d;right;omega
  .by_cases k:n+s.size<=a;.have c:=Lib.run_append_room_string (P:=P) w t u ty e i ht hu hi hsz o n a f m s k (by omega);rw[c]at l;cases l;exact .inl d
   .have h:∀j u,xs[j]? =some u->w.cell? ((⟨o,0,none⟩:Addr).add j)=some u:=hown.cells (g:=o) rfl;have c:=Lib.run_append_grow_string (P:=P) w t u ty e i (.int .u8 0) ht hu hi hz ⟨o,0,none⟩ n a xs (by rw[hsz];exact hown.1) h s (by omega) (by omega) (by rw[hby];exact growslice_fits (by omega) (by omega));rw[c]at l;cases l;simp[Value.ownBlock]at d;right;omega
 .rcases hown.2 with ⟨rfl,rfl⟩|⟨o,a,f,rfl,B,m,r,C,D,x⟩;.simp[Value.ownBlock]at d
  .simp only[Value.ownBlock,yab]at d;subst d;by_cases k:n+s.size<=a;.have c:=Lib.run_append_room_string (P:=P) w t u ty e i ht hu hi hsz o n a f m s k (by omega);rw[c]at l;cases l;rw[cell_setRow_same w o j f _ e _ m,cell_of_row w o j f e (0,0) m];have F:j<(f.toList.take n).length:=(by rw[yan];simp;omega);rw[List.getElem?_toArray,yax,yap F,ybz,if_pos (by omega)];simp
   .have h:∀j u,xs[j]? =some u->w.cell? ((⟨o,0,none⟩:Addr).add j)=some u:=hown.cells (g:=o) rfl;have c:=Lib.run_append_grow_string (P:=P) w t u ty e i (.int .u8 0) ht hu hi hz ⟨o,0,none⟩ n a xs (by rw[hsz];exact hown.1) h s (by omega) (by omega) (by rw[hby];exact growslice_fits (by omega) (by omega));rw[c]at l;cases l;exact ya5 (Below.heap_alloc _ _ _ (by simpa using(yba.1 m).1))
theorem zvR (l:List UInt8):(byteEls l).flatten=l.map λb=> .int .u8 b.toNat:=by
 unfold byteEls
 induction l with
 |nil=>rfl
 |cons b l a=>simp[a]
theorem zoc (l:List UInt8):IRL Im w (byteEls l).flatten (Lib.strCells ⟨l.toArray⟩):=by rw[zvR];refine⟨by simp[Lib.strCells],λj h a=> ?_⟩;simp only[Lib.strCells,yc6];exact .int _ _
theorem z7l {o:Oper}{c:Call}{s u e:Nat}{x y:Opd}{i:TypeInfo}{f:Frame}{a:Act}{K:AV->zaa->Prop}(ho:o.op=.call c)(hb:c.callee=.builtin .append)(hts:c.argTypes.toList= [s,u])(hargs:c.args.toList.mapM opd=some [x,y])
  (ht:P.underlying s=some (.slice e)) (hu:P.underlying u=some .string) (hi:P.info? e=some i) (hz:i.zero=some (.int .u8 0)) (hsz:i.size=1) (hby:i.bytes=1)
  (hs:SRel base κ Im σ w) (hf:FRel κ Im w f a) (h:zat P K f σ (.apps e x y)):zfr P base κ Im w o a K:=by
 have k:=zj8 (κ:=κ) (Im:=Im) (w:=w) hf hargs;obtain⟨p,q,t⟩:∃p q,c.args.toList.map a.eval= [p,q]:=by
  match Q:c.args.toList.map a.eval,k.1 with
  | [p,q],_=>exact⟨p,q,rfl⟩
 rw[t]at k;have Z:VR κ Im w (x.ev f) p:=k.2 0 (by simp) (by simp);have O:VR κ Im w (y.ev f) q:=k.2 1 (by simp) (by simp);have g:c.args.map a.eval= #[p,q]:=by apply zfj;simpa using t
 have C:c.argTypes= #[s,u]:=zfj hts;simp only[zat]at h;obtain⟨l,R,h⟩:=h;rw[R]at O;have Q:=O.str_inv;subst Q;have D:∀r w',(Builtin.append_ #[s,u] o.type #[p,.string ⟨l.toArray⟩]).run P w=.ok r w'->(execOp a.eval o).run P w=.ok (.value r) w':=by intro r w' E;simp only[execOp,ho,resolve,hb,ya0,ya6,yas,invoke,builtin,g,C,E]
 have d:(byteEls l).length=l.length:=by simp[byteEls]
 have j:(⟨l.toArray⟩:ByteArray).size=l.length:=by simp[ByteArray.size]
 refine zvi (e:=e) (size:=1) (bytes:=1) (m:=byteEls l) (news:=Lib.strCells ⟨l.toArray⟩) (by omega) (λc z=> ?_) hs Z (VRL.ofIR (zoc l)) (λc z v k=> ?_) (λY n xs A B hb I=> ?_) ?_;.simp only[byteEls,yar]at z;obtain⟨b,_,rfl⟩:=z;rfl
 .simp only[byteEls,yar]at z;obtain⟨b,_,rfl⟩:=z;rw[ybr.1 k];rfl
 .rw[d]at B hb⊢;obtain⟨S,w',E,J,T,U,L,W⟩:=zs7 (ty:=o.type) ht hu hi hz hsz hby Y A ⟨l.toArray⟩ (by rw[j];exact B) (by rw[j];omega) I;rw[j]at J L;exact⟨S,w',D _ _ E,J,T,U,L,W⟩
 .revert h;cases x.ev f<;>simp only[zzQ]<;>intro h<;>first|exact h.elim|skip
  .rcases h with ⟨rfl,h⟩|⟨G,M,H⟩;.exact .inl ⟨rfl,h⟩
   .exact .inr ⟨G,λ_=>zoc l,by rw[d];omega,by rw[d];omega,by rw[d];exact H⟩
  .obtain⟨F,G,M,H,q3,X⟩:=h;exact⟨F,G,M,λ_=>zoc l,H,by rw[d];omega,by rw[d];omega,by rw[d];exact X⟩
end
end Go.Abs
