/- The abstract machine: values, frames, stores, operations, and the code that a function is made of. -/
import Derived.WalkKit
import Derived.WalkSpells
import Derived.WalkLawsBesides
import Derived.Deep.Quiet
import Derived.StillTail
import Derived.Deep.MidRow
import Derived.Lib.AppendStr
import Derived.Laws.Externs
import Derived.Maps.RangeRun
namespace Go
abbrev yaa := @List.getElem?_eq_some_iff
abbrev yab := @Option.some.injEq
abbrev yac := @Option.bind_eq_some_iff
abbrev yad := @List.getElem?_eq_getElem
abbrev yae := @Option.map_eq_some_iff
abbrev yaf := @List.mem_of_getElem?
abbrev yag := @List.length_append
abbrev yah := @Option.bind_eq_bind
abbrev yai := @List.mem_append
abbrev yaj := @List.getElem?_append_right
abbrev yak := @List.mem_of_mem_take
abbrev yal := @Result.andThen_ok
abbrev yam := @Option.pure_def
abbrev yan := @List.length_take
abbrev yao := @List.take_of_length_le
abbrev yap := @List.eq_nil_of_length_eq_zero
abbrev yaq := @Nat.le_refl
abbrev yar := @List.getElem?_append_left
abbrev yas := @Nat.mul_le_mul_right
abbrev yat := @List.getElem_mem
abbrev yau := @List.mem_of_mem_drop
abbrev yav := @List.mem_map
abbrev yaw := @List.mem_iff_getElem
abbrev yax := @List.take_add_one
abbrev yay := @Sem.run_bind
abbrev yaz := @List.all_eq_true
abbrev ya0 := @Nat.add_sub_cancel_left
abbrev ya1 := @List.take_length
abbrev ya2 := @List.length_drop
abbrev ya3 := @List.append_assoc
abbrev ya4 := @Array.length_toList
abbrev ya5 := @Sem.run_pure
abbrev ya6 := @Nat.add_mul
abbrev ya7 := @Array.getElem?_eq_some_iff
abbrev ya8 := @World.cell?_of_block
abbrev ya9 := @List.take_append_drop
abbrev yba := @List.getElem?_set_ne
abbrev ybb := @List.mem_cons
abbrev ybc := @Array.getD_eq_getD_getElem?
abbrev ybd := @List.flatten_cons
abbrev ybe := @Nat.zero_add
abbrev ybf := @List.length_cons
abbrev ybg := @List.pairwise_iff_getElem
abbrev ybh := @List.mem_singleton
abbrev ybi := @List.set_append_right
abbrev ybj := @List.getElem?_set_self
abbrev ybk := @List.mem_flatten
abbrev ybl := @Nat.mul_comm
abbrev ybm := @List.getElem?_cons_zero
abbrev ybn := @List.mem_filter
abbrev ybo := @List.getElem?_take
abbrev ybp := @List.mem_replicate
abbrev ybq := @List.mem_cons_of_mem
abbrev ybr := @Nat.mod_eq_of_lt
abbrev ybs := @Nat.mod_lt
abbrev ybt := @Nat.min_eq_left
abbrev ybu := @List.drop_of_length_le
abbrev ybv := @List.cons_append
abbrev ybw := @List.drop_eq_getElem_cons
abbrev ybx := @Array.getElem?_eq_getElem
abbrev yby := @List.append_nil
abbrev ybz := @List.getElem?_drop
abbrev yb0 := @Nat.div_mul_le_self
abbrev yb1 := @List.nodup_iff_pairwise_ne
abbrev yb2 := @Array.getElem?_setIfInBounds_ne
abbrev yb3 := @Bool.and_eq_true
abbrev yb4 := @List.getElem?_of_mem
abbrev yb5 := @List.mapM_cons
abbrev yb6 := @Int.fdiv_eq_ediv_of_nonneg
abbrev yb7 := @List.getElem_take
abbrev yb8 := @List.getElem?_map
abbrev yb9 := @Nat.lt_of_lt_of_le
abbrev yca := @Nat.le_trans
abbrev ycb := @Nat.add_zero
abbrev ycc := @List.getElem_append_right
abbrev ycd := @List.flatten_append
abbrev yce := @List.getElem_append_left
abbrev ycf := @Nat.div_add_mod
abbrev ycg := @Nat.lt_of_le_of_lt
abbrev ych := @Nat.div_lt_iff_lt_mul
abbrev yci := @List.nil_append
abbrev ycj := @List.take_left'
abbrev yck := @Option.map_none
abbrev ycl := @List.take_append_of_le_length
abbrev ycm := @List.pairwise_map
abbrev ycn := @List.getElem_cons_zero
abbrev yco := @List.getElem?_eq_none
abbrev ycp := @Array.getElem?_toList
abbrev ycq := @Nat.mul_le_mul_left
abbrev ycr := @List.set_getElem_self
abbrev ycs := @Nat.two_pow_add_eq_or_of_lt
abbrev yct := @Nat.div_le_self
abbrev ycu := @Nat.mul_assoc
abbrev ycv := @Nat.lt_trichotomy
abbrev ycw := @Int.tmod_eq_emod_of_nonneg
abbrev ycx := @Nat.sub_self
abbrev ycy := @List.filter_append
abbrev ycz := @List.length_nil
abbrev yc0 := @List.length_map
abbrev yc1 := @Nat.two_pow_pos
abbrev yc2 := @List.getElem_map
abbrev yc3 := @List.take_append
abbrev yc4 := @Array.toList_map
abbrev yc5 := @Nat.pow_succ
abbrev yc6 := @List.map_cons
abbrev yc7 := @Int.natCast_mul
abbrev yc8 := @List.cons.injEq
abbrev yc9 := @List.drop_eq_nil_of_le
abbrev yda := @List.length_pos_iff
abbrev ydb := @List.replicate_succ
abbrev ydc := @List.exists_mem_of_ne_nil
abbrev ydd := @List.cons_lt_cons_iff
abbrev yde := @World.cell?_setCells_out
abbrev ydf := @Nat.mul_div_cancel
abbrev ydg := @List.getElem?_cons_succ
abbrev ydh := @List.length_eq_zero_iff
abbrev ydi := @List.nodup_append
abbrev ydj := @List.getElem_drop
abbrev ydk := @Nat.zero_le
abbrev ydl := @List.nodup_cons
abbrev ydm := @List.map_append
abbrev ydn := @List.filter_eq_self
abbrev ydo := @List.getElem_cons_succ
abbrev ydp := @World.frozen?_setCells
abbrev ydq := @List.not_mem_nil
abbrev ydr := @Option.bind_some
abbrev yds := @Bool.false_eq_true
abbrev ydt := @Nat.add_assoc
abbrev ydu := @Option.toList_some
abbrev ydv := @List.pairwise_append
abbrev ydw := @List.contains_eq_mem
abbrev ydx := @Nat.le_of_lt
abbrev ydy := @List.map_congr_left
abbrev ydz := @Nat.mul_add
abbrev yd0 := @Nat.le_of_not_lt
abbrev yd1 := @List.drop_append
abbrev yd2 := @List.drop_length
abbrev yd3 := @List.drop_append_of_le_length
abbrev yd4 := @List.take_take
abbrev yd5 := @Nat.mul_le_mul
abbrev yd6 := @World.cell?_alloc_past
abbrev yd7 := @List.pairwise_cons
abbrev yd8 := @List.length_filter_le
abbrev yd9 := @Nat.pow_add
abbrev yea := @List.mem_attach
abbrev yeb := @Array.size_append
abbrev yec := @List.size_toArray
abbrev yed := @Nat.pow_le_pow_right
abbrev yee := @List.mem_range
abbrev yef := @BitVec.toNat_and
abbrev yeg := @Nat.div_eq_of_lt
abbrev yeh := @List.mem_flatMap
abbrev yei := @BitVec.xor_assoc
abbrev yej := @Nat.one_mul
abbrev yek := @Nat.min_def
abbrev yel := @Nat.lt_or_ge
abbrev yem := @List.map_take
end Go
set_option linter.unusedSimpArgs false
set_option linter.unusedVariables false
set_option linter.constructorNameAsVariable false
section
namespace Go.Abs
open Go.RowKit
inductive AV where
 |junk
 |int (k:IntKind) (n:Int)
 |bool (b:Bool)
 |str (s:List UInt8)
 |flt (k:FloatKind) (bits:Nat)
 |nilp
 |ptr (id off:Nat)
 |rptr (cells:List AV)
 |nils
 |lst (l:List (List AV))
 |row (id n:Nat)
 |rowp (id n size k off:Nat)
 |map (id:Nat)
 |nilm
 |fn (f:Fn) (first captured:List AV)
 |nilf
 |iface (t:TypeId) (v:AV)
 |nili
 |agg (cells:List AV)
 |tup (vs:List AV)
 |any (v:Value)
 |gp (g off:Nat)
 |sub (id n size lo hi:Nat)
 |asl (id off n size:Nat)
 |tight (l:List (List AV))
 deriving Inhabited
class Globs where
 tab:List (Nat×List AV)
def AV.one:AV→Bool
 | .junk| .agg _| .tup _| .any _=>false
 |_=>true
def AV.pure:AV→Bool
 | .ptr ..| .row ..| .rowp ..| .map ..| .sub ..| .asl ..=>false
 | .fn _ a b=>a.attach.all (fun ⟨x,_⟩=>x.pure)&&b.attach.all (fun ⟨x,_⟩=>x.pure)
 | .iface _ v=>v.pure
 | .agg l| .tup l=>l.attach.all fun ⟨x,_⟩=>x.pure
 |_=>true
inductive IR (Im:Addr→Prop) (w:World):AV→Value→Prop
 |junk (v:Value):IR Im w .junk v
 |int (k:IntKind) (n:Int):IR Im w (.int k n) (.int k n)
 |bool (b:Bool):IR Im w (.bool b) (.bool b)
 |str (s:List UInt8):IR Im w (.str s) (.string ⟨s.toArray⟩)
 |flt (k:FloatKind) (bits:Nat):IR Im w (.flt k bits) (.float k bits)
 |nilp:IR Im w .nilp (.pointer none)
 |rptr (cells:List AV) (b o:Nat) (vals:Nat→Value) (hone:∀c∈cells,c.one=true)
   (hc:∀j,j<cells.length→Im ⟨b,o+j,none⟩∧w.cell? ⟨b,o+j,none⟩=some (vals j))
   (hv:∀j (h:j<cells.length),IR Im w (cells[j]) (vals j)):IR Im w (.rptr cells) (.pointer (some ⟨b,o,none⟩))
 |nils:IR Im w .nils (.slice none 0 0)
 |lnil (g:Option Addr):IR Im w (.lst []) (.slice g 0 0)
 |lst (l:List (List AV)) (size b o cap:Nat) (vals:Nat→Nat→Value) (hcap:l.length≤cap) (hmax:cap≤maxLen) (hs:∀c∈l,c.length=size)
   (hone:∀c∈l,∀x∈c,x.one=true)
   (hc:∀k j,k<l.length→j<size→Im ⟨b,o+(k*size+j),none⟩∧w.cell? ⟨b,o+(k*size+j),none⟩=some (vals k j))
   (hv:∀k j (h:k<l.length) (h':j<l[k].length),IR Im w (l[k][j]) (vals k j)):IR Im w (.lst l) (.slice (some ⟨b,o,none⟩) l.length cap)
 |nilm:IR Im w .nilm (.map none)
 |fn (f:Fn) (first captured:List AV) (vs us:List Value) (h1:first.length=vs.length) (h2:captured.length=us.length)
   (hv:∀j (h:j<first.length) (h':j<vs.length),IR Im w (first[j]) (vs[j])) (hu:∀j (h:j<captured.length) (h':j<us.length),IR Im w (captured[j]) (us[j])):
   IR Im w (.fn f first captured) (.func f vs.toArray us.toArray)
 |nilf:IR Im w .nilf .nilFunc
 |iface (t:TypeId) (a:AV) (v:Value) (h:IR Im w a v):IR Im w (.iface t a) (.iface t v)
 |nili:IR Im w .nili .nilIface
 |agg (cells:List AV) (vs:List Value) (hone:∀c∈cells,c.one=true) (h1:cells.length=vs.length) (hv:∀j (h:j<cells.length) (h':j<vs.length),IR Im w (cells[j]) (vs[j])):
   IR Im w (.agg cells) (.agg vs.toArray)
 |tup (cells:List AV) (vs:List Value) (h1:cells.length=vs.length) (hv:∀j (h:j<cells.length) (h':j<vs.length),IR Im w (cells[j]) (vs[j])):
   IR Im w (.tup cells) (.tuple vs.toArray)
 |any (v:Value):IR Im w (.any v) v
 |gp (g off:Nat):IR Im w (.gp g off) (.pointer (some ⟨g,off,none⟩))
 |tight (l:List (List AV)) (g:Option Addr) (h:IR Im w (.lst l) (.slice g l.length l.length)):IR Im w (.tight l) (.slice g l.length l.length)
inductive VR (κ:Nat→Nat→Option Value) (Im:Addr→Prop) (w:World):AV→Value→Prop
 |im (a:AV) (v:Value) (h:IR Im w a v):VR κ Im w a v
 |ptr (id off b:Nat) (h:κ id 0=some (.pointer (some ⟨b,0,none⟩))):VR κ Im w (.ptr id off) (.pointer (some ⟨b,off,none⟩))
 |row (id n:Nat) (g:Option Addr) (cap:Nat) (h:κ id n=some (.slice g n cap)):VR κ Im w (.row id n) (.slice g n cap)
 |rowp (id n size k off b cap:Nat) (h:κ id n=some (.slice (some ⟨b,0,none⟩) n cap)):VR κ Im w (.rowp id n size k off) (.pointer (some ⟨b,k*size+off,none⟩))
 |map (id b:Nat) (h:κ id 0=some (.map (some b))):VR κ Im w (.map id) (.map (some b))
 |asl (id off n size b:Nat) (ad:Addr) (c:Nat) (h:κ id 0=some (.pointer (some ⟨b,0,none⟩))) (h3:0<n→ad=⟨b,off,none⟩) (h4:n≤c) (h5:c≤maxLen) (h6:ad.spot=none):VR κ Im w (.asl id off n size) (.slice (some ad) n c)
 |sub (id n size lo hi b cap:Nat) (ad:Addr) (c:Nat) (h:κ id n=some (.slice (some ⟨b,0,none⟩) n cap)) (h1:lo≤hi) (h2:hi≤n) (h3:lo<cap→ad=⟨b,lo*size,none⟩) (h4:hi-lo≤c∧c=cap-lo) (h5:c≤maxLen) (h6:ad.spot=none):VR κ Im w (.sub id n size lo hi) (.slice (some ad) (hi-lo) c)
 |fn (f:Fn) (first captured:List AV) (vs us:List Value) (h1:first.length=vs.length) (h2:captured.length=us.length)
   (hv:∀j (h:j<first.length) (h':j<vs.length),VR κ Im w (first[j]) (vs[j])) (hu:∀j (h:j<captured.length) (h':j<us.length),VR κ Im w (captured[j]) (us[j])):
   VR κ Im w (.fn f first captured) (.func f vs.toArray us.toArray)
 |iface (t:TypeId) (a:AV) (v:Value) (h:VR κ Im w a v):VR κ Im w (.iface t a) (.iface t v)
 |agg (cells:List AV) (vs:List Value) (hone:∀c∈cells,c.one=true) (h1:cells.length=vs.length) (hv:∀j (h:j<cells.length) (h':j<vs.length),VR κ Im w (cells[j]) (vs[j])):
   VR κ Im w (.agg cells) (.agg vs.toArray)
 |tup (cells:List AV) (vs:List Value) (h1:cells.length=vs.length) (hv:∀j (h:j<cells.length) (h':j<vs.length),VR κ Im w (cells[j]) (vs[j])):
   VR κ Im w (.tup cells) (.tuple vs.toArray)
theorem IR.mono {Im Im':Addr→Prop} {w w':World} (hIm:∀a,Im a→Im' a) (hc:∀a,Im a→w'.cell? a=w.cell? a) {a:AV} {v:Value} (h:IR Im w a v):IR Im' w' a v:=by
 induction h with
 |junk v=>exact .junk v
 |int k n=>exact .int k n
 |bool b=>exact .bool b
 |str s=>exact .str s
 |flt k b=>exact .flt k b
 |nilp=>exact .nilp
 |rptr cells b o vals hone hcc hv ih=>exact .rptr cells b o vals hone (fun j hj=>⟨hIm _ (hcc j hj).1,(hc _ (hcc j hj).1).trans (hcc j hj).2⟩) ih
 |nils=>exact .nils
 |lnil g=>exact .lnil g
 |lst l size b o cap vals hcap hmax hs hone hcc hv ih=>exact .lst l size b o cap vals hcap hmax hs hone (fun k j hk hj=>⟨hIm _ (hcc k j hk hj).1,(hc _ (hcc k j hk hj).1).trans (hcc k j hk hj).2⟩) ih
 |nilm=>exact .nilm
 |fn f first captured vs us h1 h2 hv hu ih1 ih2=>exact .fn f first captured vs us h1 h2 ih1 ih2
 |nilf=>exact .nilf
 |iface t a v h ih=>exact .iface t a v ih
 |nili=>exact .nili
 |agg cells vs hone h1 hv ih=>exact .agg cells vs hone h1 ih
 |tup cells vs h1 hv ih=>exact .tup cells vs h1 ih
 |any v=>exact .any v
 |gp g off=>exact .gp g off
 |tight l g h ih=>exact .tight l g ih
theorem VR.mono {κ κ':Nat→Nat→Option Value} {Im Im':Addr→Prop} {w w':World} (hκ:∀i n v,κ i n=some v→κ' i n=some v) (hIm:∀a,Im a→Im' a) (hc:∀a,Im a→w'.cell? a=w.cell? a)
  {a:AV} {v:Value} (h:VR κ Im w a v):VR κ' Im' w' a v:=by
 induction h with
 |im a v h=>exact .im a v (h.mono hIm hc)
 |ptr id off b h=>exact .ptr id off b (hκ _ _ _ h)
 |row id n g cap h=>exact .row id n g cap (hκ _ _ _ h)
 |rowp id n size k off b cap h=>exact .rowp id n size k off b cap (hκ _ _ _ h)
 |map id b h=>exact .map id b (hκ _ _ _ h)
 |asl id off n size b ad c h h3 h4 h5 h6=>exact .asl id off n size b ad c (hκ _ _ _ h) h3 h4 h5 h6
 |sub id n size lo hi b cap ad c h h1 h2 h3 h4 h5 h6=>exact .sub id n size lo hi b cap ad c (hκ _ _ _ h) h1 h2 h3 h4 h5 h6
 |fn f first captured vs us h1 h2 hv hu ih1 ih2=>exact .fn f first captured vs us h1 h2 ih1 ih2
 |iface t a v h ih=>exact .iface t a v ih
 |agg cells vs hone h1 hv ih=>exact .agg cells vs hone h1 ih
 |tup cells vs h1 hv ih=>exact .tup cells vs h1 ih
theorem VR.pure {κ:Nat→Nat→Option Value} {Im:Addr→Prop} {w:World} {a:AV} {v:Value} (h:VR κ Im w a v) (hp:a.pure=true):IR Im w a v:=by
 induction h with
 |im a v h=>exact h
 |ptr|row|rowp|map|sub|asl=>simp [AV.pure] at hp
 |fn f first captured vs us h1 h2 hv hu ih1 ih2=>
  simp [AV.pure] at hp
  exact .fn f first captured vs us h1 h2 (fun j h h'=>ih1 j h h' (hp.1 _ (yat h))) (fun j h h'=>ih2 j h h' (hp.2 _ (yat h)))
 |iface t a v h ih=>exact .iface t a v (ih (by simpa [AV.pure] using hp))
 |agg cells vs hone h1 hv ih=>
  simp [AV.pure] at hp
  exact .agg cells vs hone h1 fun j h h'=>ih j h h' (hp _ (yat h))
 |tup cells vs h1 hv ih=>
  simp [AV.pure] at hp
  exact .tup cells vs h1 fun j h h'=>ih j h h' (hp _ (yat h))
theorem VR.oneCell {κ:Nat→Nat→Option Value} {Im:Addr→Prop} {w:World} {a:AV} {v:Value} (h:VR κ Im w a v) (hp:a.one=true):v.oneCell'=true:=by
 cases h with
 |im a v h=>cases h<;>first|rfl|simp [AV.one] at hp
 |ptr|row|rowp|map|fn|iface|sub|asl=>rfl
 |agg|tup=>simp [AV.one] at hp
end Go.Abs
end
section
namespace Go.Abs
open Go.RowKit
inductive Entry where
 |dead (n:Nat)
 |var (t:TypeId) (cells:List AV)
 |row (e:TypeId) (size:Nat) (els:List (List AV)) (im:Bool)
 |mp (kv:List (AV×AV))
 |itr (mid:Option Nat) (n:Nat) (left:List Nat) (last:Nat)
 |obj (o:Obj)
 deriving Inhabited
def Entry.isItr:Entry→Bool
 | .itr ..=>true
 |_=>false
def zdF (σ:List Entry):Bool:=σ.all fun e=> !e.isItr
abbrev zac:=List Entry
abbrev Frame:=Nat→AV
def Frame.put (f:Frame) (d:Option Nat) (v:AV):Frame:=match d with
 |some d=>fun t=>if t=d then v else f t
 |none=>f
@[simp] theorem Frame.put_none (f:Frame) (v:AV):Frame.put f none v=f:=rfl
@[simp] theorem Frame.put_some (f:Frame) (d t:Nat) (v:AV):Frame.put f (some d) v t=if t=d then v else f t:=rfl
inductive Opd where
 |s (t:Nat)
 |c (v:AV)
 deriving Inhabited
def Opd.ev (f:Frame):Opd→AV
 | .s t=>f t
 | .c v=>v
@[simp] theorem ev_s (f:Frame) (t:Nat):(Opd.s t).ev f=f t:=rfl
@[simp] theorem ev_c (f:Frame) (v:AV):(Opd.c v).ev f=v:=rfl
def AV.cells:AV→List AV
 | .agg l=>l
 |v=> [v]
def zbc:Nat→Nat→List AV→List (List AV)
 |0,_,_=> []
 |n+1,size,l=>l.take size::zbc n size (l.drop size)
def view (σ:zac):AV→Option (List (List AV))
 | .nils=>some []
 | .lst l=>some l
 | .row id n=>match σ[id]? with
  |some (.row _ _ els _)=>if els.length=n then some els else none
  |_=>none
 | .sub id n size lo hi=>match σ[id]? with
  |some (.row _ size' els _)=>if els.length=n∧size'=size then some ((els.take hi).drop lo) else none
  |_=>none
 | .asl id off n size=>match σ[id]? with
  |some (.var _ cells)=>if off+n*size≤cells.length then some (zbc n size ((cells.drop off).take (n*size))) else none
  |_=>none
 |_=>none
def zaP [Globs] (σ:zac):AV→Nat→Option (List AV)
 | .ptr id off,n=>match σ[id]? with
  |some (.var _ cells)=>if off+n≤cells.length then some ((cells.drop off).take n) else none
  |_=>none
 | .rptr cells,n=>if n≤cells.length then some (cells.take n) else none
 | .gp g off,n=>match Globs.tab.lookup g with
  |some cells=>if off+n≤cells.length then some ((cells.drop off).take n) else none
  |none=>none
 | .rowp id n₀ size k off,n=>match σ[id]? with
  |some (.row _ size' els _)=>if els.length=n₀∧size'=size∧off+n≤size then (els[k]?).map fun c=>(c.drop off).take n else none
  |_=>none
 |_,_=>none
def splice (cells:List AV) (off:Nat) (vs:List AV):List AV:=cells.take off++vs++cells.drop (off+vs.length)
def zvb (σ:zac):AV→List AV→Option zac
 | .ptr id off,vs=>match σ[id]? with
  |some (.var t cells)=>if off+vs.length≤cells.length then some (σ.set id (.var t (splice cells off vs))) else none
  |_=>none
 | .rowp id n₀ size k off,vs=>match σ[id]? with
  |some (.row e size' els false)=>if els.length=n₀∧size'=size∧off+vs.length≤size then
    match els[k]? with
    |some c=>some (σ.set id (.row e size' (els.set k (splice c off vs)) false))
    |none=>none
   else none
  |_=>none
 |_,_=>none
def zeS (σ:zac):AV→Option AV
 | .row id n=>match σ[id]? with
  |some (.row _ _ els true)=>if els.length=n then some (.lst els) else none
  |_=>none
 | .nils=>some (.lst [])
 |v=>if v.pure then some v else none
def zxu (σ:zac) (l:List AV):Option (List AV):=l.mapM (zeS σ)
def share (σ:zac):AV→Option AV
 | .agg l=>(zxu σ l).map AV.agg
 | .tup l=>(l.mapM fun
   |AV.agg l=>(zxu σ l).map AV.agg
   |v=>zeS σ v).map AV.tup
 |v=>zeS σ v
def lay (cells:List AV):List (Nat×List AV)→List AV
 | []=>cells
 |(off,vs)::rest=>lay (splice cells off vs) rest
inductive XOp where
 |isnil (kind:Nat) (neg:Bool) (x:Opd)
 |tostr (x:Opd)
 |look (kind:Nat) (zero:AV) (ok:Bool) (x k:Opd)
 |mlen (x:Opd)
 |bit (op:BinOp) (x y:Opd)
 |inv (x:Opd)
 |cry (x y z:Opd)
 |iload (ag:Bool) (size:Nat) (x:Opd)
 |iidx (size:Nat) (x i:Opd)
 |aslc (len size:Nat) (x:Opd) (lo hi:Option Opd)
 |sl3 (size:Nat) (x hi mx:Opd)
 |ient (x:Opd)
 deriving Inhabited
inductive EOp where
 |mkmap
 |mset (kind:Nat) (x k v:Opd)
 |clr (size:Nat) (zero:List AV) (x:Opd)
 |cpy (size:Nat) (x y:Opd)
 |mdel (kind:Nat) (x k:Opd)
 |rng (x:Opd)
 deriving Inhabited
inductive AOp where
 |mv (x:Opd)
 |pick (c a b:Opd)
 |bin (op:BinOp) (x y:Opd)
 |beq (neg:Bool) (x y:Opd)
 |eqs (neg:Bool) (kinds:List Nat) (x y:Opd)
 |not (x:Opd)
 |neg (x:Opd)
 |conv (k:IntKind) (x:Opd)
 |ext (x:Opd) (i:Nat)
 |alloc (t:Nat) (cells:List AV)
 |box (t:Nat) (x:Opd)
 |build (zero:List AV) (parts:List (Nat×Nat×Opd))
 |field (off size:Nat) (ag:Bool) (x:Opd)
 |load (ag:Bool) (size:Nat) (x:Opd)
 |store (size:Nat) (x v:Opd)
 |nilck (x:Opd)
 |faddr (off:Nat) (x:Opd)
 |iaddr (size:Nat) (x i:Opd)
 |aaddr (len size:Nat) (x i:Opd)
 |sidx (x i:Opd)
 |aidx (len size:Nat) (ag:Bool) (x i:Opd)
 |slen (x:Opd)
 |len (x:Opd)
 |sslc (x:Opd) (lo hi:Option Opd)
 |slc (size:Nat) (x:Opd) (lo hi:Option Opd)
 |mkslice (e size bytes:Nat) (zero:List AV) (len cap:Opd)
 |mklst (e size:Nat) (zero:List AV) (n:Nat) (parts:List (Nat×Opd))
 |mkrow (e size:Nat) (zero:List AV) (n:Nat) (parts:List (Nat×Opd))
 |app (e size bytes:Nat) (x y:Opd)
 |apps (e:Nat) (x y:Opd)
 |mm (mx:Bool) (x y:Opd)
 |call (f:FuncId) (args:List Opd)
 |callv (x:Opd) (args:List Opd)
 |qcall (f:FuncId) (args:List Opd)
 |qcallv (x:Opd) (args:List Opd)
 |mkfn (fn:Fn) (first captured:List Opd)
 |mkif (t:TypeId) (x:Opd)
 |tobytes (x:Opd)
 |px (o:XOp)
 |ex (o:EOp)
 |nlc (neg:Bool) (x:Opd)
 |nxt (x:Opd)
 |apt (e size bytes:Nat) (x y:Opd)
 |bad
 deriving Inhabited
structure AIns where
 g:Option (Nat×Bool)
 d:Option Nat
 o:AOp
 deriving Inhabited
inductive ACode where
 |skip
 |ops (l:List AIns)
 |all (l:List (List AIns))
 |seq (a b:ACode)
 |cond (c:Opd) (x y:ACode)
 |block (id:Nat) (c:ACode)
 |loop (c:ACode)
 |exit (id:Nat)
 |ret
 |gh
 |bad
 deriving Inhabited
inductive AExit where
 |normal
 |exit (id:Nat)
 |ret
def zvf (op:BinOp) (x y:Int):Option Bool:=match op with
 | .eql=>some (x==y)| .neq=>some (x !=y)| .lss=>some (decide (x<y))| .leq=>some (decide (x≤y))| .gtr=>some (decide (x>y))| .geq=>some (decide (x≥y))
 |_=>none
def abin (op:BinOp):AV→AV→Option AV
 | .int k a,.int k' b=>if k=k' then
   match op with
   | .add=>some (.int k (k.wrap (a+b)))
   | .sub=>some (.int k (k.wrap (a-b)))
   | .mul=>some (.int k (k.wrap (a*b)))
   | .quo=>if b=0 then none else some (.int k (k.wrap (a.tdiv b)))
   | .rem=>if b=0 then none else some (.int k (a.tmod b))
   |op=>(zvf op a b).map .bool
  else none
 | .str a,.str b=>match op with
   | .add=>if a.length+b.length≤9223372036854775807 then some (.str (a++b)) else none
   | .eql=>some (.bool (decide (a=b)))
   | .neq=>some (.bool (!decide (a=b)))
   | .lss=>some (.bool (Op.bytesLess a b))
   | .leq=>some (.bool (Op.bytesLess a b||decide (a=b)))
   | .gtr=>some (.bool !(Op.bytesLess a b||decide (a=b)))
   | .geq=>some (.bool !(Op.bytesLess a b))
   |_=>none
 |_,_=>none
def eq1:Nat→AV→AV→Option Bool
 |0,.int k a,.int k' b=>if k=k' then some (decide (a=b)) else none
 |1,.str a,.str b=>some (decide (a=b))
 |2,.bool a,.bool b=>some (a==b)
 |_,_,_=>none
def zjJ:List Nat→List AV→List AV→Option Bool
 | [],[],[]=>some true
 |k::ks,a::l,b::m=>(eq1 k a b).bind fun x=>(zjJ ks l m).map fun y=>x&&y
 |_,_,_=>none
def zfE (ag:Bool) (l:List AV):Option AV:=if ag then some (.agg l) else match l with
 | [v]=>some v
 |_=>none
def zhl:AV→Option Nat
 | .int _ n=>if 0≤n then some n.toNat else none
 |_=>none
def zdI (v:Option AV) (dflt lim:Nat):Option Nat:=match v with
 |none=>some dflt
 |some v=>(zhl v).bind fun n=>if n≤lim then some n else none
def zhJ:Nat→AV→Option Bool
 |0,.nili=>some true
 |0,.iface _ _=>some false
 |1,.nilf=>some true
 |1,.fn _ _ _=>some false
 |2,.nilp=>some true
 |2,.ptr _ _=>some false
 |2,.rptr _=>some false
 |2,.rowp _ _ _ _ _=>some false
 |2,.gp _ _=>some false
 |3,.nils=>some true
 |3,.lst (_::_)=>some false
 |4,.nilm=>some true
 |4,.map _=>some false
 |_,_=>none
def bytesOf:List (List AV)→Option (List UInt8)
 | []=>some []
 | [.int .u8 n]::l=>(bytesOf l).map (UInt8.ofNat n.toNat:: ·)
 |_::_=>none
def zbr (kind:Nat) (k:AV):List (AV×AV)→Nat→Option (Option (Nat×AV))
 | [],_=>some none
 |(k',v)::l,i=>match eq1 kind k k' with
  |some true=>some (some (i,v))
  |some false=>zbr kind k l (i+1)
  |none=>none
def zca (op:BinOp) (k:IntKind) (a b:Int):Option Int:=match op with
 | .and=>some (k.wrap (BitVec.ofInt k.bits a&&&BitVec.ofInt k.bits b).toNat)
 | .or=>some (k.wrap (BitVec.ofInt k.bits a|||BitVec.ofInt k.bits b).toNat)
 | .xor=>some (k.wrap (BitVec.ofInt k.bits a^^^BitVec.ofInt k.bits b).toNat)
 | .andNot=>some (k.wrap (BitVec.ofInt k.bits a&&& ~~~BitVec.ofInt k.bits b).toNat)
 |_=>none
def za4 (op:BinOp) (k:IntKind) (a:Int) (n:Nat):Option Int:=match op with
 | .shl=>some (k.wrap (a*2^min n k.bits))
 | .shr=>some (a.fdiv (2^min n k.bits))
 |_=>none
def zbn (op:BinOp):AV→AV→Option AV
 | .int k a,.int k' b=>if op=.shl∨op=.shr then (if 0≤b then (za4 op k a b.toNat).map (.int k) else none) else if k=k' then (zca op k a b).map (.int k) else none
 |_,_=>none
def zcK:AV→Option AV
 | .int k a=>(zca .xor k (if k.signed then -1 else k.max) a).map (.int k)
 |_=>none
def zrh:AV→AV→AV→Option AV
 | .int .u64 x,.int .u64 y,.int .u64 c=>if 0≤x∧0≤y∧0≤c∧c≤1 then some (.tup [.int .u64 ((x+y+c)%18446744073709551616),.int .u64 ((x+y+c)/18446744073709551616)]) else none
 |_,_,_=>none
def zl7 (ag:Bool) (size:Nat):AV→Option AV
 | .rptr cells=>if size≤cells.length then zfE ag (cells.take size) else none
 |_=>none
def zoo (size:Nat) (i:Option Nat) (x:AV):Option AV:=match i,x with
 |some i,.lst l=>(l[i]?).bind fun c=>if c.length=size then some (.rptr c) else none
 |_,_=>none
def zr2 [Globs] (len size:Nat) (lo hi:Option AV) (X:AV):Option AV:=match X with
 | .ptr id off=>(zdI hi len len).bind fun h=>(zdI lo 0 h).map fun l=> .asl id (off+l*size) (h-l) size
 | .rptr cells=>if len*size≤cells.length then (zdI hi len len).bind fun h=>(zdI lo 0 h).map fun l=> .lst (((zbc len size (cells.take (len*size))).take h).drop l) else none
 | .gp g off=>match Globs.tab.lookup g with
  |some cells=>if off+len*size≤cells.length then (zdI hi len len).bind fun h=>(zdI lo 0 h).map fun l=> .lst (((zbc len size ((cells.drop off).take (len*size))).take h).drop l) else none
  |none=>none
 |_=>none
def zh2 (σ:zac):AV→Option (List (AV×AV))
 | .nilm=>some []
 | .map id=>match σ[id]? with
  |some (.mp kv)=>some kv
  |_=>none
 |_=>none
def zod (kind:Nat) (zero:AV) (ok:Bool) (k:AV) (kv:List (AV×AV)):Option AV:=(zbr kind k kv 0).bind fun
 |some (_,v)=>some (if ok then .tup [v,.bool true] else v)
 |none=>some (if ok then .tup [zero,.bool false] else zero)
def zuI (σ:zac) (size:Nat) (hi mx:Option Nat) (X:AV):Option AV:=match hi,mx with
 |some h,some m=>if h=m then
   match X with
   | .nils=>if h=0 then some (.tight []) else none
   | .lst l=>if (∀c∈l,c.length=size)∧h≤l.length then some (.tight (l.take h)) else none
   | .row id n=>match σ[id]? with
    |some (.row _ size' els true)=>if els.length=n∧size'=size∧h≤n then some (.tight (els.take h)) else none
    |_=>none
   |_=>none
  else none
 |_,_=>none
def zvI (σ:zac):AV→Option AV
 | .ptr id 0=>match σ[id]? with
  |some (.itr (some m) n _ last)=>match σ[m]? with
   |some (.mp kv)=>if kv.length=n then (kv[last]?).map fun p=> .tup [p.1,p.2] else none
   |_=>none
  |_=>none
 |_=>none
def zhW [Globs] (σ:zac) (f:Frame):XOp→Option AV
 | .isnil kind neg x=>(zhJ kind (x.ev f)).map fun b=> .bool (if neg then !b else b)
 | .tostr x=>((view σ (x.ev f)).bind bytesOf).map .str
 | .look kind zero ok x k=>(zh2 σ (x.ev f)).bind (zod kind zero ok (k.ev f))
 | .mlen x=>(zh2 σ (x.ev f)).map fun kv=> .int .i64 kv.length
 | .bit op x y=>zbn op (x.ev f) (y.ev f)
 | .inv x=>zcK (x.ev f)
 | .cry x y z=>zrh (x.ev f) (y.ev f) (z.ev f)
 | .iload ag size x=>zl7 ag size (x.ev f)
 | .iidx size x i=>zoo size (zhl (i.ev f)) (x.ev f)
 | .aslc len size x lo hi=>zr2 len size (lo.map (·.ev f)) (hi.map (·.ev f)) (x.ev f)
 | .sl3 size x hi mx=>zuI σ size (zhl (hi.ev f)) (zhl (mx.ev f)) (x.ev f)
 | .ient x=>zvI σ (x.ev f)
def zeO (kind:Nat) (k v:AV) (kv:List (AV×AV)):Option (List (AV×AV)):=(zbr kind k kv 0).map fun
 |some (i,_)=>kv.set i (k,v)
 |none=>kv++ [(k,v)]
def zzT (σ:zac) (size:Nat) (zero:List AV):AV→Option zac
 | .nils| .lst []=>some σ
 | .row id n=>match σ[id]? with
  |some (.row e size' els false)=>if els.length=n∧size'=size then some (σ.set id (.row e size' (List.replicate n zero) false)) else none
  |_=>none
 | .sub id n sz lo hi=>match σ[id]? with
  |some (.row e size' els false)=>if els.length=n∧size'=size∧sz=size∧lo≤hi∧hi≤n then some (σ.set id (.row e size' (els.take lo++List.replicate (hi-lo) zero++els.drop hi) false)) else none
  |_=>none
 |_=>none
def zvh (σ:zac) (size:Nat) (m:List (List AV)):AV→Option (zac×Nat)
 | .nils| .lst []=>some (σ,0)
 | .row id n=>match σ[id]? with
  |some (.row e size' els false)=>if els.length=n∧size'=size then some (σ.set id (.row e size' (m.take n++els.drop (min m.length n)) false),min m.length n) else none
  |_=>none
 | .sub id n sz lo hi=>match σ[id]? with
  |some (.row e size' els false)=>if els.length=n∧size'=size∧sz=size∧lo≤hi∧hi≤n then some (σ.set id (.row e size' (els.take lo++m.take (hi-lo)++els.drop (lo+min m.length (hi-lo))) false),min m.length (hi-lo)) else none
  |_=>none
 |_=>none
def z0W (kind:Nat) (k:AV) (kv:List (AV×AV)):Option (List (AV×AV)):=(zbr kind k kv 0).map fun
 |some (i,_)=>kv.eraseIdx i
 |none=>kv
def zzM (σ:zac) (kind:Nat) (k:AV):AV→Option zac
 | .nilm=>some σ
 | .map id=>match σ[id]? with
  |some (.mp kv)=>if zdF σ then (z0W kind k kv).map fun kv'=>σ.set id (.mp kv') else none
  |_=>none
 |_=>none
def zzB (σ:zac):AV→Option zac
 | .nilm=>some (σ++ [.itr none 0 [] 0])
 | .map id=>match σ[id]? with
  |some (.mp kv)=>some (σ++ [.itr (some id) kv.length (List.range kv.length) kv.length])
  |_=>none
 |_=>none
def z8d (σ:zac) (f:Frame) (r:AV) (σ':zac):EOp→Prop
 | .mkmap=>r=.map σ.length∧σ'=σ++ [.mp []]
 | .mset kind x k v=>r=.junk∧∃id kv kv',x.ev f=.map id∧σ[id]? =some (.mp kv)∧(k.ev f).pure=true∧zeO kind (k.ev f) (v.ev f) kv=some kv'∧zdF σ=true∧σ'=σ.set id (.mp kv')
 | .clr size zero x=>r=.tup []∧zzT σ size zero (x.ev f)=some σ'
 | .cpy size x y=>∃m k,view σ (y.ev f)=some m∧(∀c∈m,c.length=size)∧0<size∧zvh σ size m (x.ev f)=some (σ',k)∧r=.int .i64 (k:Nat)
 | .mdel kind x k=>r=.tup []∧zzM σ kind (k.ev f) (x.ev f)=some σ'
 | .rng x=>r=.ptr σ.length 0∧zzB σ (x.ev f)=some σ'
def zhn:AV→Option AV
 | .str l=>if l.length≤140737488355328 then some (.lst (l.map fun b=> [.int .u8 b.toNat])) else none
 |_=>none
def za3 [Globs] (σ:zac) (f:Frame):AOp→Option AV
 | .mv x=>some (x.ev f)
 | .pick c a b=>match c.ev f with
  | .bool c=>some (if c then a.ev f else b.ev f)
  |_=>none
 | .bin op x y=>abin op (x.ev f) (y.ev f)
 | .beq neg x y=>match x.ev f,y.ev f with
  | .bool a,.bool b=>some (.bool (if neg then a !=b else a==b))
  |_,_=>none
 | .eqs neg ks x y=>match x.ev f,y.ev f with
  | .agg l,.agg m=>(zjJ ks l m).map fun b=> .bool (if neg then !b else b)
  |_,_=>none
 | .not x=>match x.ev f with
  | .bool b=>some (.bool !b)
  |_=>none
 | .neg x=>match x.ev f with
  | .int k n=>some (.int k (k.wrap (0-n)))
  |_=>none
 | .conv k x=>match x.ev f with
  | .int _ n=>some (.int k (k.wrap n))
  |_=>none
 | .ext x i=>match x.ev f with
  | .tup l=>l[i]?
  |_=>none
 | .build zero parts=>(parts.mapM fun (p:Nat×Nat×Opd)=>if (p.2.2.ev f).cells.length=p.2.1∧(p.2.2.ev f).cells.all AV.one then some (p.1,(p.2.2.ev f).cells) else none).map fun l=> .agg (lay zero l)
 | .field off size ag x=>match x.ev f with
  | .agg l=>if off+size≤l.length then zfE ag ((l.drop off).take size) else none
  |_=>none
 | .load ag size x=>(zaP σ (x.ev f) size).bind (zfE ag)
 | .nilck x=>match x.ev f with
  | .ptr id off=>some (.ptr id off)
  | .rptr l=>some (.rptr l)
  | .rowp a b c d e=>some (.rowp a b c d e)
  | .gp a b=>some (.gp a b)
  | .fn (.func g) a b=>some (.fn (.func g) a b)
  |_=>none
 | .faddr off x=>match x.ev f with
  | .ptr id o=>some (.ptr id (o+off))
  | .rptr l=>if off≤l.length then some (.rptr (l.drop off)) else none
  | .rowp id n size k o=>some (.rowp id n size k (o+off))
  | .gp g o=>some (.gp g (o+off))
  |_=>none
 | .iaddr size x i=>match zhl (i.ev f),x.ev f with
  |some i,.lst l=>(l[i]?).bind fun c=>if c.length=size then some (.rptr c) else none
  |some i,.row id n=>match σ[id]? with
   |some (.row _ size' els _)=>if els.length=n∧size'=size∧i<n then some (.rowp id n size i 0) else none
   |_=>none
  |some i,.sub id n sz lo hi=>if sz=size∧lo+i<hi then some (.rowp id n size (lo+i) 0) else none
  |some i,.asl id off n sz=>if sz=size∧i<n then some (.ptr id (off+i*size)) else none
  |_,_=>none
 | .aaddr len size x i=>match zhl (i.ev f),x.ev f with
  |some i,.ptr id o=>if i<len then some (.ptr id (o+i*size)) else none
  |some i,.rptr l=>if i<len∧i*size≤l.length then some (.rptr (l.drop (i*size))) else none
  |some i,.rowp id n s k o=>if i<len then some (.rowp id n s k (o+i*size)) else none
  |some i,.gp g o=>if i<len then some (.gp g (o+i*size)) else none
  |_,_=>none
 | .sidx x i=>match zhl (i.ev f),x.ev f with
  |some i,.str l=>(l[i]?).map fun b=> .int .u8 b.toNat
  |_,_=>none
 | .aidx len size ag x i=>match zhl (i.ev f),x.ev f with
  |some i,.agg l=>if i<len∧i*size+size≤l.length then zfE ag ((l.drop (i*size)).take size) else none
  |_,_=>none
 | .slen x=>match x.ev f with
  | .str l=>some (.int .i64 l.length)
  |_=>none
 | .len x=>(view σ (x.ev f)).map fun l=> .int .i64 l.length
 | .sslc x lo hi=>match x.ev f with
  | .str l=>(zdI (hi.map (·.ev f)) l.length l.length).bind fun h=>(zdI (lo.map (·.ev f)) 0 h).map fun lo=> .str ((l.take h).drop lo)
  |_=>none
 | .slc size x lo hi=>match x.ev f with
  | .nils=>(zdI (hi.map (·.ev f)) 0 0).bind fun h=>(zdI (lo.map (·.ev f)) 0 h).map fun _=> .nils
  | .lst l=>if∀c∈l,c.length=size then (zdI (hi.map (·.ev f)) l.length l.length).bind fun h=>(zdI (lo.map (·.ev f)) 0 h).map fun lo=> .lst ((l.take h).drop lo) else none
  | .row id n=>match σ[id]? with
   |some (.row _ size' els true)=>if els.length=n∧size'=size then (zdI (hi.map (·.ev f)) n n).bind fun h=>(zdI (lo.map (·.ev f)) 0 h).map fun lo=> .lst ((els.take h).drop lo) else none
   |some (.row _ size' els false)=>if els.length=n∧size'=size then (if 0<n then (zdI (hi.map (·.ev f)) n n).bind fun h=>(zdI (lo.map (·.ev f)) 0 h).map fun lo=> .sub id n size lo h else (zdI (hi.map (·.ev f)) n n).bind fun h=>(zdI (lo.map (·.ev f)) 0 h).map fun _=> .junk) else none
   |_=>none
  | .sub id n sz l0 h0=>if sz=size then (zdI (hi.map (·.ev f)) (h0-l0) (h0-l0)).bind fun h=>(zdI (lo.map (·.ev f)) 0 h).map fun lo=> .sub id n size (l0+lo) (l0+h) else none
  | .asl id off n sz=>if sz=size then (zdI (hi.map (·.ev f)) n n).bind fun h=>(zdI (lo.map (·.ev f)) 0 h).map fun lo=> .asl id (off+lo*size) (h-lo) size else none
  |_=>none
 | .mm mx x y=>match x.ev f,y.ev f with
  | .int k a,.int k' b=>if k=k' then some (.int k (if mx then (if a<b then b else a) else (if b<a then b else a))) else none
  |_,_=>none
 | .mkfn fn first captured=>some (.fn fn (first.map (·.ev f)) (captured.map (·.ev f)))
 | .mkif t x=>some (.iface t (x.ev f))
 | .px o=>zhW σ f o
 |_=>none
end Go.Abs
end
section
namespace Go.Abs
open Go.RowKit
abbrev Key:=Nat→Nat→Option Value
def VRL (κ:Key) (Im:Addr→Prop) (w:World) (as:List AV) (vs:List Value):Prop:=as.length=vs.length∧∀j (h:j<as.length) (h':j<vs.length),VR κ Im w (as[j]) (vs[j])
def IRL (Im:Addr→Prop) (w:World) (as:List AV) (vs:List Value):Prop:=as.length=vs.length∧∀j (h:j<as.length) (h':j<vs.length),IR Im w (as[j]) (vs[j])
def Entry.block (κ:Key) (id:Nat):Entry→Option Nat
 | .dead _=>none
 | .var _ _=>match κ id 0 with
  |some (.pointer (some a))=>some a.block
  |_=>none
 | .row _ _ els _=>(κ id els.length).bind Value.ownBlock
 | .mp _=>match κ id 0 with
  |some (.map (some b))=>some b
  |_=>none
 | .itr ..| .obj _=>match κ id 0 with
  |some (.pointer (some a))=>some a.block
  |_=>none
def Born (es:Array MapEntry) (clock:Nat):Prop:=(es.toList.map (·.born)).Nodup∧∀x∈es.toList,x.born<clock
def ItOK (es:Array MapEntry) (clock since:Nat) (seen:Array Nat) (c0 n:Nat) (left:List Nat) (last:Nat):Prop:=
 es.size=n∧(es.toList.map (·.born)).Nodup∧(∀x∈es.toList,x.born<since)∧since≤c0∧since≤clock∧left.Nodup∧(∀j∈left,j<n)∧(∀j (h:j<es.size),j∈left↔seen.contains (es[j]).born=false)∧(∀(h:last<es.size),c0=clock∧seen.back? =some (es[last]).born)
def EOK (κ:Key) (Im:Addr→Prop) (base:Nat) (w:World) (id:Nat):Entry→Prop
 | .dead _=>True
 | .var t cells=>∃b cs,κ id 0=some (.pointer (some ⟨b,0,none⟩))∧base≤b∧w.heap[b]? =some (.cells cs t (0,0))∧VRL κ Im w cells cs.toList∧(∀c∈cells,c.one=true)∧∀a,Im a→a.block≠b
 | .row e size els im=>∃v xs,κ id els.length=some v∧w.ownsRow base e size v els.length xs∧VRL κ Im w els.flatten xs∧0<size∧(∀c∈els,c.length=size)∧(∀c∈els,∀x∈c,x.one=true)∧(im=true→IRL Im w els.flatten xs)∧
   ∀g,v.ownBlock=some g→(∀a,Im a→a.block=g→im=true∧a.off<els.length*size)∧(im=true→∀o,o<els.length*size→Im ⟨g,o,none⟩)
 | .mp kv=>∃b es clock,κ id 0=some (.map (some b))∧base≤b∧w.heap[b]? =some (.map es clock)∧es.size=kv.length∧(∀j (h:j<kv.length) (h':j<es.size),IR Im w (kv[j]).1 (es[j]).key∧VR κ Im w (kv[j]).2 (es[j]).val)∧(∀a,Im a→a.block≠b)∧Born es clock
 | .itr mid n left last=>∃b,κ id 0=some (.pointer (some ⟨b,0,none⟩))∧base≤b∧(∀a,Im a→a.block≠b)∧
   match mid with
   |none=>w.heap[b]? =some (.mapIter none 0 #[] 0)∧left= []
   |some m=>∃c es clock since seen c0,κ m 0=some (.map (some c))∧w.heap[c]? =some (.map es clock)∧w.heap[b]? =some (.mapIter (some c) since seen c0)∧ItOK es clock since seen c0 n left last
 | .obj o=>∃b,κ id 0=some (.pointer (some ⟨b,0,none⟩))∧base≤b∧(∀a,Im a→a.block≠b)∧w.heap[b]? =some o∧∀es clock,o≠ .map es clock
def Entry.ver:Entry→Nat
 | .row _ _ els _=>els.length
 | .dead n=>n
 |_=>0
def GOK [Globs] (base:Nat) (Im:Addr→Prop) (w:World):Prop:=∀p∈Globs.tab,p.1<base∧(∃cs t fz,w.heap[p.1]? =some (.cells cs t fz)∧cs.size=p.2.length)∧IR Im w (.rptr p.2) (.pointer (some ⟨p.1,0,none⟩))
theorem GOK.mono {G:Globs} {base base':Nat} {Im Im':Addr→Prop} {w w':World} (h:GOK base Im w) (hb:base≤base') (hIm:∀a,Im a→Im' a) (hc:∀a,Im a→w'.cell? a=w.cell? a) (hh:∀k,k<base→w'.heap[k]? =w.heap[k]?):GOK base' Im' w':=fun p hp=>by
 obtain ⟨h1,⟨cs,t,fz,h2,h3⟩,h4⟩:=h p hp
 exact ⟨yb9 h1 hb,⟨cs,t,fz,(hh _ h1).trans h2,h3⟩,h4.mono hIm hc⟩
structure SRel [Globs] (base:Nat) (κ:Key) (Im:Addr→Prop) (σ:zac) (w:World):Prop where
 hb:base≤w.heap.size
 dom:∀id n v,κ id n=some v→∃e,σ[id]? =some e∧n≤e.ver
 ent:∀id e,σ[id]? =some e→EOK κ Im base w id e
 sep:∀(i j:Nat) (e e':Entry) (b:Nat),i≠j→σ[i]? =some e→σ[j]? =some e'→e.block κ i=some b→e'.block κ j≠some b
 imlt:∀a,Im a→a.block<w.heap.size∧a.spot=none
 glob:GOK base Im w
structure Grow (base:Nat) (κ:Key) (Im:Addr→Prop) (w:World) (κ':Key) (Im':Addr→Prop) (w':World):Prop where
 kap:∀i n v,κ i n=some v→κ' i n=some v
 im:∀a,Im a→Im' a
 cell:∀a,Im a→w'.cell? a=w.cell? a
 new:∀a,Im' a→Im a∨base≤a.block
 below:Below base w w'
theorem Grow.refl (base:Nat) (κ:Key) (Im:Addr→Prop) (w:World):Grow base κ Im w κ Im w:=⟨fun _ _ _ h=>h,fun _ h=>h,fun _ _=>rfl,fun _ h=> .inl h,Below.refl _ _⟩
theorem Grow.trans {base:Nat} {κ κ' κ'':Key} {Im Im' Im'':Addr→Prop} {w w' w'':World} (h:Grow base κ Im w κ' Im' w') (h':Grow base κ' Im' w' κ'' Im'' w''):Grow base κ Im w κ'' Im'' w'':=
 ⟨fun i n v hh=>h'.kap _ _ _ (h.kap _ _ _ hh),fun a hh=>h'.im _ (h.im _ hh),fun a hh=>(h'.cell _ (h.im _ hh)).trans (h.cell _ hh),
  fun a hh=>(h'.new a hh).elim (fun x=>h.new a x) .inr,h.below.trans h'.below⟩
theorem VR.grow {base:Nat} {κ κ':Key} {Im Im':Addr→Prop} {w w':World} (g:Grow base κ Im w κ' Im' w') {a:AV} {v:Value} (h:VR κ Im w a v):VR κ' Im' w' a v:=h.mono g.kap g.im g.cell
theorem VRL.grow {base:Nat} {κ κ':Key} {Im Im':Addr→Prop} {w w':World} (g:Grow base κ Im w κ' Im' w') {a:List AV} {v:List Value} (h:VRL κ Im w a v):VRL κ' Im' w' a v:=
 ⟨h.1,fun j hj hj'=>(h.2 j hj hj').grow g⟩
def FRel (κ:Key) (Im:Addr→Prop) (w:World) (f:Frame) (a:Act):Prop:=∀t,VR κ Im w (f t) (a.tmps.getD t undef)
theorem FRel.grow {base:Nat} {κ κ':Key} {Im Im':Addr→Prop} {w w':World} (g:Grow base κ Im w κ' Im' w') {f:Frame} {a:Act} (h:FRel κ Im w f a):FRel κ' Im' w' f a:=fun t=>(h t).grow g
variable [Globs]
def ACalls (P:Program) (f:FuncId) (args:List AV) (σ:zac) (R:AV→zac→Prop):Prop:=
 ∀base κ Im w vs,SRel base κ Im σ w→VRL κ Im w args vs→Calls P f vs.toArray w fun e w'=>
  ∃r σ' v κ' Im',e=.returned v∧R r σ'∧SRel base κ' Im' σ' w'∧Grow base κ Im w κ' Im' w'∧VR κ' Im' w' r v
def PCalls (P:Program) (f:FuncId) (args:List AV) (R:AV→Prop):Prop:=ACalls P f args [] fun r σ'=>σ'= []∧R r
theorem ACalls.mono {P:Program} {f:FuncId} {args:List AV} {σ:zac} {R R':AV→zac→Prop} (h:ACalls P f args σ R) (hr:∀r σ',R r σ'→R' r σ'):ACalls P f args σ R':=
 fun base κ Im w vs hs hv=>(h base κ Im w vs hs hv).mono fun _ _ ⟨r,σ',v,κ',Im',he,hR,rest⟩=>⟨r,σ',v,κ',Im',he,hr _ _ hR,rest⟩
theorem PCalls.mono {P:Program} {f:FuncId} {args:List AV} {R R':AV→Prop} (h:PCalls P f args R) (hr:∀r,R r→R' r):PCalls P f args R':=
 ACalls.mono h fun _ _ ⟨h0,h1⟩=>⟨h0,hr _ h1⟩
inductive Coe (σ:zac) (lend:Bool):AV→AV→Prop
 |pure (a:AV) (h:a.pure=true):Coe σ lend a a
 |nils:Coe σ lend .nils (.lst [])
 |row (id n e size:Nat) (els:List (List AV)) (im:Bool) (h:σ[id]? =some (.row e size els im)) (hn:els.length=n) (hp:im=true∨(lend=true∧∀c∈els,∀x∈c,x.pure=true)):Coe σ lend (.row id n) (.lst els)
 |ptr (id off:Nat) (t:TypeId) (cells cells':List AV) (h:σ[id]? =some (.var t cells)) (hl:lend=true) (hoff:off≤cells.length) (hlen:cells'.length=cells.length) (hp:∀j (h:j<cells.length) (h':j<cells'.length),Coe σ lend (cells[j]) (cells'[j])) (hone:∀c∈cells',c.one=true):Coe σ lend (.ptr id off) (.rptr (cells'.drop off))
 |fn (f:Fn) (l l' m m':List AV) (h1:l.length=l'.length) (h2:m.length=m'.length) (hl:∀j (h:j<l.length) (h':j<l'.length),Coe σ lend (l[j]) (l'[j])) (hm:∀j (h:j<m.length) (h':j<m'.length),Coe σ lend (m[j]) (m'[j])):
   Coe σ lend (.fn f l m) (.fn f l' m')
 |agg (l l':List AV) (h1:l.length=l'.length) (hone:∀c∈l',c.one=true) (hl:∀j (h:j<l.length) (h':j<l'.length),Coe σ lend (l[j]) (l'[j])):Coe σ lend (.agg l) (.agg l')
inductive CoeL (σ:zac) (lend:Bool):List AV→List AV→Prop
 |nil:CoeL σ lend [] []
 |cons {a b:AV} {l m:List AV} (h:Coe σ lend a b) (hl:CoeL σ lend l m):CoeL σ lend (a::l) (b::m)
def rig:AV→Bool
 | .int ..| .bool _| .str _| .flt ..| .nilp| .nilm| .nilf| .nili| .any _| .gp ..=>true
 | .tup l| .agg l=>l.attach.all fun ⟨x,_⟩=>rig x
 | .iface _ v=>rig v
 |_=>false
def zsp (P:Program) (σ:zac) (K:AV→zac→Prop) (f:FuncId) (args:List AV):Prop:=
 (∃args' R,CoeL σ false args args'∧PCalls P f args' R∧∀r,R r→K r σ)∨
 (∃args' R,CoeL σ true args args'∧PCalls P f args' R∧∀r,R r→rig r=true∧K r σ)∨
 ACalls P f args σ K
def ztD (P:Program) (σ:zac) (K:AV→zac→Prop) (f:FuncId) (args:List AV):Prop:=
 ∃(lend:Bool) (args':List AV) (r:AV),CoeL σ lend args args'∧PCalls P f args' (fun r'=>r'=r)∧(lend=true→rig r=true)∧K r σ
def zf4 (σ:zac):AV→Option (List (List AV))
 | .nils=>some []
 | .lst l=>some l
 | .row id n=>match σ[id]? with
  |some (.row _ _ els true)=>if els.length=n then some els else none
  |_=>none
 |_=>none
def zlE (σ:zac) (y:AV) (m:List (List AV)):Prop:=zf4 σ y=some m∨∀c∈m,∀x∈c,x.pure=true
def byteEls (l:List UInt8):List (List AV):=l.map fun b=> [.int .u8 b.toNat]
def zaJ (P:Program) (f:FuncId):Bool:=match P.funcs[f]? with
 | some fn => fn.body.isSome && fn.name != "runtime.NumGoroutine"
 |none=>false
def za0 (P:Program) (K:AV→zac→Prop) (f:Frame) (σ:zac):AOp→Prop
 | .alloc t cells=>K (.ptr σ.length 0) (σ++ [.var t cells])
 | .box t x=>(∀c∈(x.ev f).cells,c.one=true)∧K (.ptr σ.length 0) (σ++ [.var t (x.ev f).cells])
 | .store size x v=>∃σ',(v.ev f).cells.length=size∧(∀c∈(v.ev f).cells,c.one=true)∧zvb σ (x.ev f) (v.ev f).cells=some σ'∧K .junk σ'
 | .mkslice e size bytes zero len cap=>∃n c,zhl (len.ev f)=some n∧zhl (cap.ev f)=some c∧n≤c∧c*bytes≤140737488355328∧c≤9223372036854775807∧0<size∧zero.length=size∧
   K (.row σ.length n) (σ++ [.row e size (List.replicate n zero) false])
 | .mklst _ size zero n parts=>∃ps,(parts.mapM fun (p:Nat×Opd)=>(share σ (p.2.ev f)).bind fun v=>if v.cells.length=size∧v.cells.all AV.one then some (p.1*size,v.cells) else none)=some ps∧
   K (.lst (zbc n size (lay (List.replicate n zero).flatten ps))) σ
 | .mkrow e size zero n parts=>∃ps,(parts.mapM fun (p:Nat×Opd)=>if (p.2.ev f).cells.length=size∧(p.2.ev f).cells.all AV.one then some (p.1*size,(p.2.ev f).cells) else none)=some ps∧0<size∧
   K (.row σ.length n) (σ++ [.row e size (zbc n size (lay (List.replicate n zero).flatten ps)) false])
 | .app e size bytes x y=>∃m,view σ (y.ev f)=some m∧0<size∧(∀c∈m,c.length=size)∧
   match x.ev f with
   | .nils=>(m= []∧K .nils σ)∨∃im,(im=true→zlE σ (y.ev f) m)∧m.length*bytes≤140737488355328∧m.length≤9223372036854775807∧K (.row σ.length m.length) (σ++ [.row e size m im])
   | .row id n=>∃els im,σ[id]? =some (.row e size els im)∧(im=true→zlE σ (y.ev f) m)∧els.length=n∧(n+m.length)*bytes≤140737488355328∧n+m.length≤9223372036854775807∧K (.row id (n+m.length)) (σ.set id (.row e size (els++m) im))
   | .sub id n sz lo hi=>∃els,σ[id]? =some (.row e size els false)∧els.length=n∧0<n∧sz=size∧lo=0∧(hi+m.length)*bytes≤140737488355328∧hi+m.length≤9223372036854775807∧K (.row σ.length (hi+m.length)) (σ.set id (.dead n)++ [.row e size (els.take hi++m) false])
   | .tight l=>∃im,(∀c∈l,c.length=size)∧m≠ []∧(im=true→zlE σ (y.ev f) m)∧(l.length+m.length)*bytes≤140737488355328∧l.length+m.length≤9223372036854775807∧K (.row σ.length (l.length+m.length)) (σ++ [.row e size (l++m) im])
   |_=>False
 | .apps e x y=>∃l,y.ev f=.str l∧
   match x.ev f with
   | .nils=>(l= []∧K .nils σ)∨∃im,l.length≤140737488355328∧K (.row σ.length l.length) (σ++ [.row e 1 (byteEls l) im])
   | .row id n=>∃els im,σ[id]? =some (.row e 1 els im)∧els.length=n∧n+l.length≤140737488355328∧K (.row id (n+l.length)) (σ.set id (.row e 1 (els++byteEls l) im))
   |_=>False
 | .call fn args=>zsp P σ K fn (args.map (·.ev f))
 | .callv x args=>match x.ev f with
  | .fn (.func g) first captured=>zaJ P g=true∧zsp P σ K g (first++args.map (·.ev f)++captured)
  |_=>False
 | .qcall fn args=>ztD P σ K fn (args.map (·.ev f))
 | .qcallv x args=>match x.ev f with
  | .fn (.func g) first captured=>zaJ P g=true∧ztD P σ K g (first++args.map (·.ev f)++captured)
  |_=>False
 | .bad=>False
 | .tobytes x=>∃r,zhn (x.ev f)=some r∧K r σ
 | .ex o=>∃r σ',z8d σ f r σ' o∧K r σ'
 | .apt e size bytes x y=>∃(l m:List (List AV)) (im:Bool),x.ev f=.tight l∧view σ (y.ev f)=some m∧0<size∧(∀c∈m,c.length=size)∧(∀c∈l,c.length=size)∧m≠ []∧(im=true→zlE σ (y.ev f) m)∧(l.length+m.length)*bytes≤140737488355328∧l.length+m.length≤9223372036854775807∧K (.row σ.length (l.length+m.length)) (σ++ [.row e size (l++m) im])
 | .nxt x=>match x.ev f with
  | .ptr id 0=>match σ[id]? with
   |some (.itr mid n left last)=>(left= []→K (.tup [.bool false]) σ)∧∀i∈left,K (.tup [.bool true,.junk,.junk]) (σ.set id (.itr mid n (left.erase i) i))
   |_=>False
  |_=>False
 | .nlc neg x=>match x.ev f with
  | .lst []=>∀b:Bool,K (.bool b) σ
  |v=>∃b,zhJ 3 v=some b∧K (.bool (if neg then !b else b)) σ
 |o=>∃r,za3 σ f o=some r∧K r σ
def zwv (v:AV) (b w:Bool):Prop:=(v=.any undef∧w=false)∨∃c,v=.bool c∧w=(c==b)
def zbk (P:Program) (K:Frame→zac→Prop) (i:AIns) (f:Frame) (σ:zac):Prop:=match i.g with
 |none=>za0 P (fun r σ'=>K (f.put i.d r) σ') f σ i.o
 |some (t,b)=>∃w,zwv (f t) b w∧(w=true→za0 P (fun r σ'=>K (f.put i.d r) σ') f σ i.o)∧(w=false→K (f.put i.d (.any undef)) σ)
def zcM (P:Program) (Q:Frame→zac→Prop):List AIns→Frame→zac→Prop
 | [],f,σ=>Q f σ
 |i::rest,f,σ=>zbk P (zcM P Q rest) i f σ
def AExit.then (N:Frame→zac→Prop) (Q:AExit→Frame→zac→Prop):AExit→Frame→zac→Prop
 | .normal,f,σ=>N f σ
 |e,f,σ=>Q e f σ
def AExit.inBlock (id:Nat) (Q:AExit→Frame→zac→Prop):AExit→Frame→zac→Prop
 | .exit id',f,σ=>if id'=id then Q .normal f σ else Q (.exit id') f σ
 |e,f,σ=>Q e f σ
def Frz (σ σ':zac):Prop:=∃(id e size:Nat) (els els':List (List AV)),σ[id]? =some (.row e size els false)∧(els.mapM fun (c:List AV)=>c.mapM (zeS σ))=some els'∧σ'=σ.set id (.row e size els' true)
def awp (P:Program):ACode→(AExit→Frame→zac→Prop)→Frame→zac→Prop
 | .skip,Q,f,σ=>Q .normal f σ
 | .ops l,Q,f,σ=>zcM P (Q .normal) l f σ
 | .all ls,Q,f,σ=>∀l∈ls,zcM P (Q .normal) l f σ
 | .seq a b,Q,f,σ=>awp P a (AExit.then (awp P b Q) Q) f σ
 | .cond c x y,Q,f,σ=>∃b,c.ev f=.bool b∧(b=true→awp P x Q f σ)∧(b=false→awp P y Q f σ)
 | .block id c,Q,f,σ=>awp P c (AExit.inBlock id Q) f σ
 | .loop c,Q,f,σ=>∃(I:Nat→Frame→zac→Prop) (n:Nat),I n f σ∧∀n f σ,I n f σ→awp P c (AExit.then (fun f' σ'=>∃n',n'<n∧I n' f' σ') Q) f σ
 | .exit id,Q,f,σ=>Q (.exit id) f σ
 | .ret,Q,f,σ=>Q .ret f σ
 | .gh,Q,f,σ=>Q .normal f σ∨∃σ',Frz σ σ'∧Q .normal f σ'
 | .bad,_,_,_=>False
end Go.Abs
end
section
namespace Go.Abs
open Go.RowKit
def const1:Value→Option AV
 | .int k n=>some (.int k n)
 | .bool b=>some (.bool b)
 | .float k b=>some (.flt k b)
 | .string s=>some (.str s.data.toList)
 | .pointer none=>some .nilp
 | .slice none 0 0=>some .nils
 | .map none=>some .nilm
 | .nilFunc=>some .nilf
 | .nilIface=>some .nili
 |_=>none
def constAV:Value→Option AV
 | .agg cs=>(cs.toList.mapM const1).map .agg
 |v=>const1 v
def opd:Operand→Option Opd
 | .tmp t=>some (.s t)
 | .const v=>(constAV v).map .c
 | .func f=>some (.c (.fn (.func f) [] []))
 | .global g=>some (.c (.gp g 0))
def zfl (P:Program) (t:TypeId):Option (List AV):=do
 let i←P.info? t
 let z←i.zero
 z.cells.toList.mapM const1
def znR (P:Program) (t:TypeId):Option Bool:=match P.underlying t with
 |some (.struct _)|some (.array _ _)=>some true
 |some _=>some false
 |none=>none
def sizeOf? (P:Program) (t:TypeId):Option Nat:=(P.info? t).map (·.size)
def zeQ (P:Program):Nat→List Field→Option (List Nat)
 |_,[]=>some []
 | i, f :: fs => if f.name ≠ "_" ∧ f.offset = i then
   match P.underlying f.type with
   |some (.int _)=>(zeQ P (i+1) fs).map (0:: ·)
   |some .string=>(zeQ P (i+1) fs).map (1:: ·)
   |some .bool=>(zeQ P (i+1) fs).map (2:: ·)
   |_=>none
  else none
def zij (P:Program) (t:TypeId):Option (List Nat):=match P.underlying t with
 |some (.struct fs)=>if P.stoodInHeld t=false∧P.eqGuardType P.depth t=false then zeQ P 0 fs.toList else none
 |_=>none
def zd7 (P:Program) (b:Builtin) (ts:List TypeId) (args:List Opd):Option AOp:=
 match b,ts,args with
 | .len,[t],[x]=>match P.underlying t with
  |some .string=>some (.slen x)
  |some (.slice _)=>some (.len x)
  |some (.array n _)=>some (.mv (.c (.int .i64 n)))
  |_=>none
 | .min,[_,_],[x,y]=>some (.mm false x y)
 | .max,[_,_],[x,y]=>some (.mm true x y)
 | .append,[s,t],[x,y]=>if s=t then match P.underlying s with
  |some (.slice e)=>match P.info? e with
   |some i=>match i.zero with
    |some z=>if z.cells.size=i.size∧0<i.size then some (.app e i.size i.bytes x y) else none
    |none=>none
   |none=>none
  |_=>none
  else match P.underlying s,P.underlying t with
   |some (.slice e),some .string=>match P.info? e with
    |some i=>match i.zero with
     |some (.int .u8 0)=>if i.size=1∧i.bytes=1 then some (.apps e x y) else none
     |_=>none
    |none=>none
   |_,_=>none
 |_,_,_=>none
def zoh (n:Nat) (place:Nat→Option (Nat×Nat)) (p:Nat×Operand):Option (Nat×Nat×Opd):=
 match place p.1,opd p.2 with
 |some (off,s),some x=>if off+s≤n then some (off,s,x) else none
 |_,_=>none
def zkJ (len:Nat) (p:Nat×Operand):Option (Nat×Opd):=
 match opd p.2 with
 |some x=>if p.1<len then some (p.1,x) else none
 |none=>none
def zmx (P:Program) (o:Oper):Option AOp:=
 match o.op with
 | .move x| .assign x=>(opd x).map .mv
 | .pick c a b=>do return .pick (←opd c) (←opd a) (←opd b)
 | .alloc t=>(zfl P t).map (.alloc t)
 | .box t x=>(opd x).map (.box t)
 | .build t parts=>match P.underlying t with
  |some (.struct fs)=>do
   let z←zfl P t
   let places←fs.toList.mapM (fun f=>(P.info? f.type).map fun i=>(f.offset,i.size))
   let ps←parts.toList.mapM (zoh z.length fun i=>places.toArray[i]?)
   return .build z ps
  |some (.array _ e)=>do
   let z←zfl P t
   let s←sizeOf? P e
   let ps←parts.toList.mapM (zoh z.length fun i=>some (i*s,s))
   return .build z ps
  |_=>none
 | .buildSlice t len parts=>match P.underlying t with
  |some (.slice e)=>do
   let s←sizeOf? P e
   let z←zfl P e
   if len*s≤16777216∧z.length=s∧0<s then do
    let ps←parts.toList.mapM (zkJ len)
    return .mklst e s z len ps
   else none
  |_=>none
 | .load t x=>do return .load (←znR P t) (←sizeOf? P t) (←opd x)
 | .store t x v=>do return .store (←sizeOf? P t) (←opd x) (←opd v)
 | .nilCheck x=>(opd x).map .nilck
 | .binOp op t x y _=>match P.underlying t with
  |some .bool=>match op with
   | .eql=>do return .beq false (←opd x) (←opd y)
   | .neq=>do return .beq true (←opd x) (←opd y)
   |_=>none
  |some (.int _)|some .string=>match op with
   | .add| .sub| .mul| .quo| .rem| .eql| .neq| .lss| .leq| .gtr| .geq=>do return .bin op (←opd x) (←opd y)
   |_=>none
  |_=>match op with
   | .eql=>do return .eqs false (←zij P t) (←opd x) (←opd y)
   | .neq=>do return .eqs true (←zij P t) (←opd x) (←opd y)
   |_=>none
 | .unOp .not _ x=>(opd x).map .not
 | .unOp .neg _ x=>(opd x).map .neg
 | .convert s t x=>match P.underlying s,P.underlying t with
  |some (.int _),some (.int k)=>(opd x).map (.conv k)
  |_,_=>none
 | .makeInterface t x=>match P.underlying t with
  |some (.interface _)=>none
  |some _=>(opd x).map (.mkif t)
  |none=>none
 | .makeFunc fn first captured=>do return .mkfn fn (←first.toList.mapM opd) (←captured.toList.mapM opd)
 | .makeSlice t l c=>match P.underlying t with
  |some (.slice e)=>do
   let i←P.info? e
   let z←zfl P e
   if z.length=i.size∧0<i.size then return .mkslice e i.size i.bytes z (←opd l) (←opd c) else none
  |_=>none
 | .slice t x lo hi none=>match P.underlying t with
  |some .string=>do return .sslc (←opd x) (←lo.mapM opd) (←hi.mapM opd)
  |some (.slice e)=>do return .slc (←sizeOf? P e) (←opd x) (←lo.mapM opd) (←hi.mapM opd)
  |_=>none
 | .fieldAddr t x i=>match P.underlying t with
  |some (.struct fs)=>do
   let f←fs[i]?
   let s←sizeOf? P f.type
   if s=0 then none else return .faddr f.offset (←opd x)
  |_=>none
 | .field t x i=>match P.underlying t with
  |some (.struct fs)=>do
   let f←fs[i]?
   return .field f.offset (←sizeOf? P f.type) (←znR P f.type) (←opd x)
  |_=>none
 | .indexAddr t x i=>match P.underlying t with
  |some (.slice e)=>do return .iaddr (←sizeOf? P e) (←opd x) (←opd i)
  |some (.array n e)=>do return .aaddr n (←sizeOf? P e) (←opd x) (←opd i)
  |_=>none
 | .index t x i=>match P.underlying t with
  |some .string=>do return .sidx (←opd x) (←opd i)
  |some (.array n e)=>do return .aidx n (←sizeOf? P e) (←znR P e) (←opd x) (←opd i)
  |_=>none
 | .extract x i=>do return .ext (←opd x) i
 | .call c=>match c.callee with
  | .value (.func f)=>match P.funcs[f]? with
   |some _=>if zaJ P f then do return .call f (←c.args.toList.mapM opd) else none
   |none=>none
  | .value (.tmp t)=>do return .callv (.s t) (←c.args.toList.mapM opd)
  | .builtin b=>do zd7 P b c.argTypes.toList (←c.args.toList.mapM opd)
  |_=>none
 |_=>none
def zpx (P:Program) (op:BinOp) (t:TypeId) (x y:Operand):Option (Nat×Bool×Operand):=
 match op with
 | .eql| .neq=>match P.underlying t,y with
  |some (.interface _),.const .nilIface=>some (0,op==.neq,x)
  |some (.func _ _ _),.const .nilFunc=>some (1,op==.neq,x)
  |some (.pointer _),.const (.pointer none)=>some (2,op==.neq,x)
  |some (.slice _),.const (.slice none 0 0)=>some (3,op==.neq,x)
  |some (.map _ _),.const (.map none)=>some (4,op==.neq,x)
  |_,_=>none
 |_=>none
def zdX (P:Program) (t:TypeId):Option Nat:=match P.underlying t with
 |some (.int _)=>some 0
 |some .string=>some 1
 |some .bool=>some 2
 |_=>none
def zwl (P:Program) (o:Oper):Option AOp:=
 match o.op with
 | .binOp op t x y _=>match zpx P op t x y with
  |some (k,n,z)=>(opd z).map fun z=>if k=3 then .nlc n z else .px (.isnil k n z)
  |none=>match P.underlying t with
   |some (.int _)=>match op with
    | .and| .or| .xor| .andNot| .shl| .shr=>do return .px (.bit op (←opd x) (←opd y))
    |_=>none
   |_=>none
 | .unOp .xor _ x=>(opd x).map fun x=> .px (.inv x)
 | .convert s t x=>match P.underlying s,P.underlying t with
  |some .string,some (.slice e)=>match P.underlying e with
   |some (.int .u8)=>(opd x).map .tobytes
   |_=>none
  |some (.slice e),some .string=>match P.underlying e,P.info? e with
   |some (.int .u8),some i=>if i.size=1 then (opd x).map fun x=> .px (.tostr x) else none
   |_,_=>none
  |_,_=>none
 | .slice t x lo hi none=>match P.underlying t with
  |some (.array n e)=>do
   let sz←sizeOf? P e
   if 0<sz∧n≤16777216 then return .px (.aslc n sz (←opd x) (←lo.mapM opd) (←hi.mapM opd)) else none
  |_=>none
 | .makeMap _ none=>some (.ex .mkmap)
 | .mapUpdate t m k x| .insert t m k x=>match P.underlying t with
  |some (.map kt _)=>do return .ex (.mset (←zdX P kt) (←opd m) (←opd k) (←opd x))
  |_=>none
 | .lookup t x k ok=>match P.underlying t with
  |some (.map kt e)=>do return .px (.look (←zdX P kt) (←constAV (←(←P.info? e).zero)) ok (←opd x) (←opd k))
  |_=>none
 | .call c=>match c.callee with
  | .builtin .len=>match c.argTypes.toList,c.args.toList with
   | [t],[x]=>match P.underlying t with
    |some (.map _ _)=>(opd x).map fun x=> .px (.mlen x)
    |_=>none
   |_,_=>none
  | .builtin .copy=>match c.argTypes.toList,c.args.toList with
   | [t,_],[x,y]=>match P.underlying t with
    |some (.slice e)=>do
     let i←P.info? e
     if 0<i.size then return .ex (.cpy i.size (←opd x) (←opd y)) else none
    |_=>none
   |_,_=>none
  | .builtin .clear=>match c.argTypes.toList,c.args.toList with
   | [t],[x]=>match P.underlying t with
    |some (.slice e)=>do
     let i←P.info? e
     let z←zfl P e
     if z.length=i.size∧0<i.size then return .ex (.clr i.size z (←opd x)) else none
    |_=>none
   |_,_=>none
  | .builtin .delete=>match c.argTypes.toList,c.args.toList with
   | [t,_],[x,k]=>match P.underlying t with
    |some (.map kt _)=>do return .ex (.mdel (←zdX P kt) (←opd x) (←opd k))
    |_=>none
   |_,_=>none
  | .value (.func g)=>match P.funcs[g]? with
   | some fn => if fn.body.isNone ∧ fn.name = "math/bits.Add64" ∧ fn.origin = "" then match c.args.toList with
    | [x,y,z]=>do return .px (.cry (←opd x) (←opd y) (←opd z))
    |_=>none
    else none
   |none=>none
  |_=>none
 | .slice t x none (some hi) (some mx)=>match P.underlying t with
  |some (.slice e)=>do return .px (.sl3 (←sizeOf? P e) (←opd x) (←opd hi) (←opd mx))
  |_=>none
 | .range t x=>match P.underlying t with
  |some (.map _ _)=>(opd x).map fun x=> .ex (.rng x)
  |_=>none
 | .next x false=>(opd x).map .nxt
 | .entry x=>(opd x).map fun x=> .px (.ient x)
 |_=>none
def zuy (P:Program) (o:Oper):Option AOp:=match zmx P o with
 |some a=>some a
 |none=>zwl P o
def z8j (N:Nat):Option Tmp→Bool
 |some d=>decide (d<N)
 |none=>true
def zcS (P:Program) (N:Nat) (ops:Array Oper) (o:Oper):AIns:=
 let bad:AIns:=⟨none,none,.bad⟩
 if z8j N o.dst then
  match zuy P o with
  |none=>bad
  |some a=>match o.guard with
   |none=>⟨none,o.dst,a⟩
   |some (j,b)=>match (ops[j]?).bind (·.dst) with
    |some t=>⟨some (t,b),o.dst,a⟩
    |none=>bad
 else bad
def AOp.neutral:AOp→Bool
 | .alloc ..| .box ..| .store ..| .mkslice ..| .mkrow ..| .app ..| .apps ..| .bad| .call ..| .callv ..| .ex _| .nlc ..| .nxt ..| .apt ..=>false
 |_=>true
def AOp.blind:AOp→Bool
 | .alloc ..| .box ..| .store ..| .mkslice ..| .mkrow ..| .app ..| .apps ..| .bad| .nlc ..| .call ..| .callv ..| .qcall ..| .qcallv ..| .load ..| .len ..| .iaddr ..| .slc ..| .mklst ..| .ex _| .nxt ..| .apt ..| .px (.tostr _)| .px (.look ..)| .px (.mlen _)| .px (.sl3 ..)| .px (.ient _)=>false
 |_=>true
def AOp.makes:AOp→Bool
 | .alloc ..| .box ..| .mkslice ..| .mkrow ..| .ex .mkmap| .apt ..=>true
 |_=>false
def Opd.slots:Opd→List Nat
 | .s t=> [t]
 | .c _=> []
def XOp.reads:XOp→List Nat
 | .isnil _ _ x| .tostr x| .mlen x| .inv x=>x.slots
 | .look _ _ _ x y| .bit _ x y=>x.slots++y.slots
 | .cry x y z=>x.slots++y.slots++z.slots
 | .iload _ _ x=>x.slots
 | .iidx _ x i=>x.slots++i.slots
 | .aslc _ _ x lo hi=>x.slots++(lo.toList.flatMap Opd.slots)++(hi.toList.flatMap Opd.slots)
 | .sl3 _ x hi mx=>x.slots++hi.slots++mx.slots
 | .ient x=>x.slots
def EOp.reads:EOp→List Nat
 | .mkmap=> []
 | .mset _ x k v=>x.slots++k.slots++v.slots
 | .clr _ _ x=>x.slots
 | .cpy _ x y=>x.slots++y.slots
 | .mdel _ x k=>x.slots++k.slots
 | .rng x=>x.slots
def AOp.reads:AOp→List Nat
 | .px o=>o.reads
 | .ex o=>o.reads
 | .tobytes x=>x.slots
 | .nlc _ x=>x.slots
 | .nxt x=>x.slots
 | .mv x| .not x| .neg x| .conv _ x| .ext x _| .box _ x| .field _ _ _ x| .load _ _ x| .nilck x| .faddr _ x| .slen x| .len x| .mkif _ x=>x.slots
 | .pick a b c=>a.slots++b.slots++c.slots
 | .bin _ x y| .beq _ x y| .eqs _ _ x y| .store _ x y| .iaddr _ x y| .aaddr _ _ x y| .sidx x y| .aidx _ _ _ x y| .mkslice _ _ _ _ x y| .app _ _ _ x y| .apt _ _ _ x y| .apps _ x y| .mm _ x y=>x.slots++y.slots
 | .alloc _ _| .bad=> []
 | .build _ ps=>ps.flatMap fun p=>p.2.2.slots
 | .sslc x lo hi| .slc _ x lo hi=>x.slots++(lo.toList.flatMap Opd.slots)++(hi.toList.flatMap Opd.slots)
 | .mklst _ _ _ _ ps| .mkrow _ _ _ _ ps=>ps.flatMap fun p=>p.2.slots
 | .call _ l| .qcall _ l=>l.flatMap Opd.slots
 | .callv x l| .qcallv x l=>x.slots++l.flatMap Opd.slots
 | .mkfn _ l m=>l.flatMap Opd.slots++m.flatMap Opd.slots
def AIns.reads (i:AIns):List Nat:=(match i.g with|some (t,_)=> [t]|none=> [])++i.o.reads
def zoX (j i:AIns):Bool:=
 j.o.neutral&&
 (match j.d with|some d=> !i.reads.contains d&&i.d !=some d|none=>true)&&
 (match i.d with|some d=> !j.reads.contains d|none=>true)&&
 (j.o.blind||i.o.neutral||i.o.makes)
def zeP (ops:Array Oper) (i:Nat):List Nat:=match ops[i]? with
 |some o=>(o.after.toList.filter (Region.binds .any)).map (·.on)
 |none=> []
def z5I (ops:Array Oper) (j:Nat):Nat→Nat→Bool
 |0,_=>false
 |n+1,i=>(zeP ops i).contains j||(zeP ops i).any fun k=>z5I ops j n k
def zuc (E:List (Nat×Nat)) (ops:Array Oper) (i:Nat):List Nat:=zeP ops i++(E.filter fun e=>e.2==i).map (·.1)
def zj6 (E:List (Nat×Nat)) (ops:Array Oper) (j:Nat):Nat→Nat→Bool
 |0,_=>false
 |n+1,i=>(zuc E ops i).contains j||(zuc E ops i).any fun k=>zj6 E ops j n k
def z0u (ops:Array Oper) (j:Nat):Bool:=(zeP ops j).all fun k=>k !=j&&decide (k<ops.size)
def zrr (loud:List FuncId):AOp→AOp
 | .call f args=>if loud.contains f then .call f args else .qcall f args
 | .callv x args=> .qcallv x args
 |o=>o
def zfH (loud:List FuncId) (i:AIns):AIns:={i with o:=zrr loud i.o}
def z3j (loud:List FuncId):AOp→AOp
 | .mklst e s z n ps=>if loud.contains 999999 then .mkrow e s z n ps else .mklst e s z n ps
 |o=>o
def zjj (loud:List FuncId) (i:AIns):AIns:={i with o:=z3j loud i.o}
def zpw (E:List (Nat×Nat)) (L:List AIns) (ops:Array Oper) (j i:Nat):Bool:=
 !(zeP ops j).contains i&& !E.contains (i,j)&&((match L[j]?,L[i]? with|some x,some y=>zoX x y|_,_=>false)||E.contains (j,i)||zj6 E ops j ops.size i)
def zlK (E:List (Nat×Nat)) (L:List AIns) (ops:Array Oper):List Nat→Bool
 | []=>true
 |j::rest=>(rest.all fun i=>zpw E L ops j i)&&zlK E L ops rest
def zjZ (L:List AIns) (ops:Array Oper):List (Nat×Nat):=
 (List.range ops.size).flatMap fun i=>(List.range i).filterMap fun j=>
  if (match L[j]?,L[i]? with|some x,some y=>zoX x y||zoX y x|_,_=>false)||z5I ops j ops.size i||z5I ops i ops.size j then none else some (j,i)
def zge:List (Nat×Nat)→List Bool→List (Nat×Nat)
 |p::ps,b::bs=>(if b then p else (p.2,p.1))::zge ps bs
 |_,_=> []
def zeI:Nat→List (List Bool)
 |0=> [[]]
 |n+1=>(zeI n).flatMap fun l=> [true::l,false::l]
def z1r (E:List (Nat×Nat)) (L:List AIns) (ops:Array Oper) (left:List Nat):Option Nat:=
 let ready:=left.filter fun i=>((zeP ops i).all fun k=> !left.contains k)&&(E.all fun e=>e.2 !=i|| !left.contains e.1)
 match ready.find? fun i=>(match L[i]? with|some x=>x.o.neutral|none=>false) with
 |some i=>some i
 |none=>ready.head?
def z4W (E:List (Nat×Nat)) (L:List AIns) (ops:Array Oper):Nat→List Nat→List Nat
 |0,_=> []
 |n+1,left=>match z1r E L ops left with
  |some i=>i::z4W E L ops n (left.filter (· !=i))
  |none=> []
def zqi (E:List (Nat×Nat)) (L:List AIns) (ops:Array Oper) (order:List Nat):Option (List Nat):=
 if order.length=ops.size∧((List.range ops.size).all fun i=>order.contains i)∧order.Nodup∧(order.all fun i=>decide (i<ops.size)&&z0u ops i)∧zlK E L ops order then some order else none
def zni {α β:Type}:List α→(List α→β)→β
 | [],k=>k []
 |x::l,k=>zni l fun l=>k (x::l)
theorem zhf {α β:Type}:∀(l:List α) (k:List α→β),zni l k=k l
 | [],_=>rfl
 |x::l,k=>by rw [zni,zhf]
def zoY (L:List AIns) (ops:Array Oper) (E:List (Nat×Nat)):Option (List Nat):=
 zni E fun E=>zni (z4W E L ops ops.size (List.range ops.size)) fun o=>zqi E L ops o
def zrb (L:List AIns) (ops:Array Oper) (C:List (Nat×Nat)):Option (List (List Nat)):=
 if (C.all fun p=>p.1 !=p.2)∧C.length≤6 then (zeI C.length).mapM fun b=>zoY L ops (zge C b) else none
def z7N:AOp→AOp
 | .load ag n x=> .px (.iload ag n x)
 | .iaddr n x i=> .px (.iidx n x i)
 |o=>o
def zzV (x:AIns):AIns:={x with o:=z7N x.o}
def zgC (C:List (Nat×Nat)):Nat→List AIns→List AIns
 |_,[]=> []
 |i,x::l=>(if C.any fun p=>p.1==i||p.2==i then zzV x else x)::zgC C (i+1) l
def z8n (x:AIns):Bool:=match x.o with
 | .px (.sl3 ..)=>true
 |_=>false
def zlW (L:List AIns) (x:AIns):AIns:=match x.o with
 | .app e n b (.s t) y=>if L.any (fun z=>z8n z&&z.d==some t) then {x with o:=.apt e n b (.s t) y} else x
 |_=>x
def tri (E:List (Nat×Nat)):Bool:=E.any fun p=>E.any fun q=>q.1==p.2&&E.contains (q.2,p.1)
def zhC (L:List AIns) (ops:Array Oper) (C:List (Nat×Nat)):Option (List (List Nat)):=
 if (C.all fun p=>decide (p.1<p.2))∧C.length≤6 then ((zeI C.length).filter fun b=> !tri (zge C b)).mapM fun b=>zoY L ops (zge C b) else none
def acyc (E:List (Nat×Nat)) (ops:Array Oper):Bool:=E.all fun p=> !zj6 E ops p.2 ops.size p.1
def zwM (ops:Array Oper):Bool:=(List.range ops.size).all fun i=>(zeP ops i).all fun k=>decide (k<i)
def zhE (L:List AIns) (ops:Array Oper) (C:List (Nat×Nat)):Option (List (List Nat)):=
 if (C.all fun p=>decide (p.1<p.2)&&decide (p.2<ops.size))∧zwM ops=true∧C.length≤9 then ((zeI C.length).filter fun b=>acyc (zge C b) ops).mapM fun b=>zoY L ops (zge C b) else none
def zos (L:List AIns) (k:ACode):Option (List (List Nat))→ACode
 |some [order]=> .ops (order.filterMap fun i=>L[i]?)
 |some orders=> .all (orders.map fun order=>order.filterMap fun i=>L[i]?)
 |none=>k
def zjg (P:Program) (N:Nat) (loud:List FuncId) (ops:Array Oper) (draw:Bool):ACode:=
 let l:=ops.toList.map (fun o=>zjj loud (zcS P N ops o))
 if !draw then .ops l
 else
  let L:=l.map (zfH loud)
  zni (zjZ L ops) fun C=>
   if loud.contains 999997 then zos L (let L2:=zgC C 0 L;zni (zjZ L2 ops) fun C2=>zos L2 .bad (zhE L2 ops C2)) (zhE L ops C) else
   zos L (let L1:=L.map (zlW L);zos L1 (let L2:=zgC C 0 L;zni (zjZ L2 ops) fun C2=>zos L2 .bad (zhC L2 ops C2)) (if L.any z8n then zhC L1 ops (zjZ L1 ops) else none)) (zrb L ops C)
def slices:Code→Bool
 | .region _ ops _=>ops.any fun o=>match o.op with| .slice ..=>true|_=>false
 | .seq a _=>slices a
 |_=>false
def comp (P:Program) (N:Nat) (loud:List FuncId):Code→ACode
 | .skip=> .skip
 | .region _ ops draw=>zjg P N loud ops draw
 | .seq a b=>if loud.contains 999998&&slices b then .seq (comp P N loud a) (.seq .gh (comp P N loud b)) else .seq (comp P N loud a) (comp P N loud b)
 | .cond c x y=>match opd c with
  |some c=> .cond c (comp P N loud x) (comp P N loud y)
  |none=> .bad
 | .block id c=> .block id (comp P N loud c)
 | .loop c=> .loop (comp P N loud c)
 | .exit id=> .exit id
 | .scope c=>comp P N loud c
 | .label _=> .skip
 | .ret=> .ret
 |_=> .bad
def z8r (l:List Nat) (b:Bool):List Nat:=if b then 999998::l else l
def acs (l:List Nat) (b:Bool):List Nat:=if b then 999997::l else l
structure AFunc where
 n:Nat
 res:List (Nat×Option (Bool×Nat))
 code:ACode
def zmC (P:Program):ResultVar→Option (Nat×Option (Bool×Nat))
 | .tmp t=>some (t,none)
 | .cell a t=>do return (a,some (←znR P t,←sizeOf? P t))
def zaf (P:Program) (loud:List FuncId) (f:FuncId):Option AFunc:=do
 let fn←P.funcs[f]?
 let c←fn.body
 let rs←fn.results.toList.mapM (zmC P)
 return ⟨fn.ntmps,rs,comp P fn.ntmps (acs (z8r (if loud.contains (1000000+f) then 999999::loud else loud) (loud.contains (2000000+f))) (loud.contains (3000000+f))) c⟩
end Go.Abs
end
section
namespace Go.Abs
open Go.RowKit
variable {G:Globs}
section
variable {κ:Key} {Im:Addr→Prop} {w:World} {v:Value}
theorem VR.int_inv {k:IntKind} {n:Int} (h:VR κ Im w (.int k n) v):v=.int k n:=by cases h with|im _ _ h=>cases h;rfl
theorem VR.bool_inv {b:Bool} (h:VR κ Im w (.bool b) v):v=.bool b:=by cases h with|im _ _ h=>cases h;rfl
theorem VR.str_inv {s:List UInt8} (h:VR κ Im w (.str s) v):v=.string ⟨s.toArray⟩:=by cases h with|im _ _ h=>cases h;rfl
theorem VR.agg_inv {l:List AV} (h:VR κ Im w (.agg l) v):∃vs,v=.agg vs.toArray∧VRL κ Im w l vs∧∀c∈l,c.one=true:=by
 cases h with
 |im _ _ h=>cases h with|agg _ vs hone h1 hv=>exact ⟨vs,rfl,⟨h1,fun j h h'=> .im _ _ (hv j h h')⟩,hone⟩
 |agg _ vs hone h1 hv=>exact ⟨vs,rfl,⟨h1,hv⟩,hone⟩
theorem VR.tup_inv {l:List AV} (h:VR κ Im w (.tup l) v):∃vs,v=.tuple vs.toArray∧VRL κ Im w l vs:=by
 cases h with
 |im _ _ h=>cases h with|tup _ vs h1 hv=>exact ⟨vs,rfl,h1,fun j h h'=> .im _ _ (hv j h h')⟩
 |tup _ vs h1 hv=>exact ⟨vs,rfl,h1,hv⟩
theorem VR.ptr_inv {id off:Nat} (h:VR κ Im w (.ptr id off) v):∃b,v=.pointer (some ⟨b,off,none⟩)∧κ id 0=some (.pointer (some ⟨b,0,none⟩)):=by
 cases h with
 |im _ _ h=>cases h
 |ptr _ _ b h=>exact ⟨b,rfl,h⟩
theorem VR.rptr_inv {l:List AV} (h:VR κ Im w (.rptr l) v):∃(b o:Nat) (vals:Nat→Value),v=.pointer (some ⟨b,o,none⟩)∧(∀c∈l,c.one=true)∧(∀j,j<l.length→Im ⟨b,o+j,none⟩∧w.cell? ⟨b,o+j,none⟩=some (vals j))∧∀j (h:j<l.length),IR Im w (l[j]) (vals j):=by
 cases h with
 |im _ _ h=>cases h with|rptr _ b o vals hone hc hv=>exact ⟨b,o,vals,rfl,hone,hc,hv⟩
theorem VR.row_inv {id n:Nat} (h:VR κ Im w (.row id n) v):∃g cap,v=.slice g n cap∧κ id n=some v:=by
 cases h with
 |im _ _ h=>cases h
 |row _ _ g cap h=>exact ⟨g,cap,rfl,h⟩
theorem VR.rowp_inv {id n size k off:Nat} (h:VR κ Im w (.rowp id n size k off) v):∃b cap,v=.pointer (some ⟨b,k*size+off,none⟩)∧κ id n=some (.slice (some ⟨b,0,none⟩) n cap):=by
 cases h with
 |im _ _ h=>cases h
 |rowp _ _ _ _ _ b cap h=>exact ⟨b,cap,rfl,h⟩
theorem VR.gp_inv {g off:Nat} (h:VR κ Im w (.gp g off) v):v=.pointer (some ⟨g,off,none⟩):=by
 cases h with
 |im _ _ h=>cases h;rfl
theorem VR.map_inv {id:Nat} (h:VR κ Im w (.map id) v):∃b,v=.map (some b)∧κ id 0=some v:=by
 cases h with
 |im _ _ h=>cases h
 |map _ b h=>exact ⟨b,rfl,h⟩
theorem VR.nilm_inv (h:VR κ Im w .nilm v):v=.map none:=by cases h with|im _ _ h=>cases h;rfl
theorem VR.sub_inv {id n size lo hi:Nat} (h:VR κ Im w (.sub id n size lo hi) v):∃b cap ad c,v=.slice (some ad) (hi-lo) c∧κ id n=some (.slice (some ⟨b,0,none⟩) n cap)∧lo≤hi∧hi≤n∧(lo<hi→ad=⟨b,lo*size,none⟩)∧hi-lo≤c∧c≤maxLen∧ad.spot=none:=by
 cases h with
 |im _ _ h=>cases h
 |sub _ _ _ _ _ b cap ad c h h1 h2 h3 h4 h5 h6=>exact ⟨b,cap,ad,c,rfl,h,h1,h2,fun hl=>h3 (by omega),h4.1,h5,h6⟩
theorem VR.sub_inv' {id n size lo hi:Nat} (h:VR κ Im w (.sub id n size lo hi) v):∃b cap ad c,v=.slice (some ad) (hi-lo) c∧κ id n=some (.slice (some ⟨b,0,none⟩) n cap)∧lo≤hi∧hi≤n∧(lo<cap→ad=⟨b,lo*size,none⟩)∧hi-lo≤c∧c=cap-lo∧c≤maxLen∧ad.spot=none:=by
 cases h with
 |im _ _ h=>cases h
 |sub _ _ _ _ _ b cap ad c h h1 h2 h3 h4 h5 h6=>exact ⟨b,cap,ad,c,rfl,h,h1,h2,h3,h4.1,h4.2,h5,h6⟩
theorem VR.asl_inv {id off n size:Nat} (h:VR κ Im w (.asl id off n size) v):∃b ad c,v=.slice (some ad) n c∧κ id 0=some (.pointer (some ⟨b,0,none⟩))∧(0<n→ad=⟨b,off,none⟩)∧n≤c∧c≤maxLen∧ad.spot=none:=by
 cases h with
 |im _ _ h=>cases h
 |asl _ _ _ _ b ad c h h3 h4 h5 h6=>exact ⟨b,ad,c,rfl,h,h3,h4,h5,h6⟩
theorem VR.tight_inv {l:List (List AV)} (h:VR κ Im w (.tight l) v):∃g,v=.slice g l.length l.length∧IR Im w (.lst l) (.slice g l.length l.length):=by
 cases h with
 |im _ _ h=>cases h with|tight _ g h=>exact ⟨g,rfl,h⟩
theorem VR.nils_inv (h:VR κ Im w .nils v):v=.slice none 0 0:=by cases h with|im _ _ h=>cases h;rfl
theorem VR.lst_inv {l:List (List AV)} (h:VR κ Im w (.lst l) v):((∃g,v=.slice g 0 0)∧l= [])∨∃(size b o cap:Nat) (vals:Nat→Nat→Value),v=.slice (some ⟨b,o,none⟩) l.length cap∧l.length≤cap∧cap≤maxLen∧(∀c∈l,c.length=size)∧
   (∀c∈l,∀x∈c,x.one=true)∧
   (∀k j,k<l.length→j<size→Im ⟨b,o+(k*size+j),none⟩∧w.cell? ⟨b,o+(k*size+j),none⟩=some (vals k j))∧
   ∀k j (h:k<l.length) (h':j<l[k].length),IR Im w (l[k][j]) (vals k j):=by
 cases h with
 |im _ _ h=>
  cases h with
  |lnil g=>exact .inl ⟨⟨g,rfl⟩,rfl⟩
  |lst _ size b o cap vals h1 h2 h3 h4 h5 h6=>exact .inr ⟨size,b,o,cap,vals,rfl,h1,h2,h3,h4,h5,h6⟩
theorem VR.fn_inv {f:Fn} {l m:List AV} (h:VR κ Im w (.fn f l m) v):∃vs us,v=.func f vs.toArray us.toArray∧VRL κ Im w l vs∧VRL κ Im w m us:=by
 cases h with
 |im _ _ h=>cases h with|fn _ _ _ vs us h1 h2 hv hu=>exact ⟨vs,us,rfl,⟨h1,fun j h h'=> .im _ _ (hv j h h')⟩,h2,fun j h h'=> .im _ _ (hu j h h')⟩
 |fn _ _ _ vs us h1 h2 hv hu=>exact ⟨vs,us,rfl,⟨h1,hv⟩,h2,hu⟩
theorem VR.oneCells {a:AV} (h:VR κ Im w a v) (hone:∀c∈a.cells,c.one=true):VRL κ Im w a.cells v.cells.toList:=by
 cases a with
 |agg l=>obtain ⟨vs,rfl,hl,_⟩:=h.agg_inv;simpa [AV.cells,Value.cells] using hl
 |junk=>exact absurd (hone _ (ybh.2 rfl)) (by simp [AV.one])
 |tup l=>exact absurd (hone _ (ybh.2 rfl)) (by simp [AV.one])
 |any u=>exact absurd (hone _ (ybh.2 rfl)) (by simp [AV.one])
 |_=>
  have hc:v.cells= #[v]:=by
   cases h with
   |im _ _ h=>cases h<;>rfl
   |_=>rfl
  rw [hc]
  exact ⟨rfl,fun j h1 h2=>by
   have:j=0:=by simpa [AV.cells] using h1
   subst this
   exact h⟩
theorem VRL.nil:VRL κ Im w [] []:=⟨rfl,fun j h=>by simp at h⟩
theorem VRL.cons {a:AV} {l:List AV} {vs:List Value} (h:VR κ Im w a v) (hl:VRL κ Im w l vs):VRL κ Im w (a::l) (v::vs):=by
 refine ⟨by simp [hl.1],fun j h1 h2=> ?_⟩
 cases j with
 |zero=>exact h
 |succ j=>exact hl.2 j (by simpa using h1) (by simpa using h2)
theorem VRL.append {l m:List AV} {vs us:List Value} (h:VRL κ Im w l vs) (hm:VRL κ Im w m us):VRL κ Im w (l++m) (vs++us):=by
 refine ⟨by simp [h.1,hm.1],fun j h1 h2=> ?_⟩
 have hh:=h.1
 by_cases hj:j<l.length
 ·rw [yce hj,yce (by omega)];exact h.2 _ _ _
 ·rw [ycc (by omega),ycc (by omega)]
  have e:j-l.length=j-vs.length:=by omega
  simp only [←e]
  exact hm.2 _ (by simp at h1;omega) (by simp at h2;omega)
theorem VRL.take {l:List AV} {vs:List Value} (h:VRL κ Im w l vs) (n:Nat):VRL κ Im w (l.take n) (vs.take n):=
 ⟨by simp [h.1],fun j h1 h2=>by rw [yb7,yb7];exact h.2 _ _ _⟩
theorem VRL.drop {l:List AV} {vs:List Value} (h:VRL κ Im w l vs) (n:Nat):VRL κ Im w (l.drop n) (vs.drop n):=
 ⟨by simp [h.1],fun j h1 h2=>by rw [ydj,ydj];exact h.2 _ _ _⟩
theorem VRL.get? {l:List AV} {vs:List Value} (h:VRL κ Im w l vs) {i:Nat} {a:AV} (hi:l[i]? =some a):∃u,vs[i]? =some u∧VR κ Im w a u:=by
 obtain ⟨hlt,rfl⟩:=yaa.1 hi
 exact ⟨_,yad (by rw [←h.1];exact hlt),h.2 i hlt _⟩
theorem VRL.ofIR {l:List AV} {vs:List Value} (h:IRL Im w l vs):VRL κ Im w l vs:=⟨h.1,fun j a b=> .im _ _ (h.2 j a b)⟩
theorem IR.const1 {a:AV} (h:const1 v=some a):IR Im w a v∧a.one=true∧a.pure=true:=by
 unfold Go.Abs.const1 at h
 split at h<;>first
  |(cases h;done)
  |(simp only [yab] at h;subst h;exact ⟨by constructor,rfl,by simp [AV.pure]⟩)
  |(simp only [yab] at h;subst h;rename_i s;have e:(Value.string s)=.string ⟨s.data.toList.toArray⟩:=by simp
    rw [e];exact ⟨IR.str (Im:=Im) (w:=w) s.data.toList,rfl,by simp [AV.pure]⟩)
theorem zbW:∀{vs:List Value} {l:List AV},vs.mapM const1=some l→IRL Im w l vs∧(∀c∈l,c.one=true)∧∀c∈l,c.pure=true
 | [],l,h=>by simp at h;subst h;exact ⟨⟨rfl,fun j h=>by simp at h⟩,by simp,by simp⟩
 |v::vs,l,h=>by
  rw [yb5] at h
  simp only [yah,yac,yam,yab] at h
  obtain ⟨a,ha,l',hl',rfl⟩:=h
  obtain ⟨h1,h2,h2'⟩:=IR.const1 (Im:=Im) (w:=w) ha
  obtain ⟨h3,h4,h5⟩:=zbW hl'
  refine ⟨⟨by simp [h3.1],fun j hj hj'=> ?_⟩,by simpa using ⟨h2,h4⟩,by simpa using ⟨h2',h5⟩⟩
  cases j with
  |zero=>exact h1
  |succ j=>exact h3.2 j (by simpa using hj) (by simpa using hj')
theorem IR.constAV {a:AV} (h:constAV v=some a):IR Im w a v:=by
 unfold Go.Abs.constAV at h
 split at h
 ·rename_i cs
  simp only [yae] at h
  obtain ⟨l,hl,rfl⟩:=h
  obtain ⟨h1,h2,_⟩:=zbW (Im:=Im) (w:=w) hl
  have:=IR.agg (Im:=Im) (w:=w) l cs.toList h2 h1.1 (fun j a b=>h1.2 j a b)
  simpa using this
 ·exact (IR.const1 h).1
theorem za2 {x:Operand} {x':Opd} {f:Frame} {a:Act} (h:opd x=some x') (hf:FRel κ Im w f a):VR κ Im w (x'.ev f) (a.eval x):=by
 cases x with
 |tmp t=>simp [opd] at h;subst h;exact hf t
 |const v=>simp [opd] at h;obtain ⟨c,hc,rfl⟩:=h;exact .im _ _ (IR.constAV hc)
 |global g=>simp [opd] at h;subst h;exact .im _ _ (.gp g 0)
 |func g=>
  simp [opd] at h;subst h
  exact .im _ _ (.fn (.func g) [] [] [] [] rfl rfl (fun j h=>by simp at h) (fun j h=>by simp at h))
theorem zir {f:Frame} {a:Act} (hf:FRel κ Im w f a):∀{xs:List Operand} {xs':List Opd},xs.mapM opd=some xs'→VRL κ Im w (xs'.map (·.ev f)) (xs.map a.eval)
 | [],xs',h=>by simp at h;subst h;exact .nil
 |x::xs,xs',h=>by
  rw [yb5] at h
  simp only [yah,yac,yam,yab] at h
  obtain ⟨b,hb,l',hl',rfl⟩:=h
  exact .cons (za2 hb hf) (zir hf hl')
end
end Go.Abs
end
section
namespace Go.Abs
open Go.RowKit
variable {G:Globs}
section
variable {P:Program} {κ:Key} {Im:Addr→Prop} {w:World}
theorem zeW {t:TypeId} {z:List AV} (h:zfl P t=some z):∃i zv,P.info? t=some i∧i.zero=some zv∧zv.cells.toList.mapM const1=some z:=by
 unfold zfl at h
 simp only [yah,yac] at h
 obtain ⟨i,hi,zv,hz,hm⟩:=h
 exact ⟨i,zv,hi,hz,hm⟩
theorem sizeOf?_ok {t:TypeId} {n:Nat} (h:sizeOf? P t=some n):∃i,P.info? t=some i∧i.size=n:=by
 unfold sizeOf? at h
 simpa using h
theorem run_sizeOf? {t:TypeId} {n:Nat} (h:sizeOf? P t=some n) (w:World):(sizeOf t).run P w=.ok n w:=by
 obtain ⟨i,hi,hn⟩:=sizeOf?_ok h
 simp [sizeOf,typeInfo,hi,hn]
theorem run_isAgg? {t:TypeId} {b:Bool} (h:znR P t=some b) (w:World):(isAgg t).run P w=.ok b w:=by
 unfold znR at h
 unfold isAgg
 split at h
 ·rename_i hu;simp at h;subst h;simp [run_underlying hu]
 ·rename_i hu;simp at h;subst h;simp [run_underlying hu]
 ·rename_i d h1 h2 hu
  simp at h;subst h
  simp only [yay,run_underlying hu,yal]
  cases d<;>first
   |rfl
   |(exact absurd rfl (h1 _))
   |(exact absurd rfl (h2 _ _))
 ·cases h
theorem zqk {t:TypeId} (h:znR P t=some true):∃d,P.underlying t=some d∧d.isRow=true:=by
 unfold znR at h
 split at h
 ·rename_i hu;exact ⟨_,hu,rfl⟩
 ·rename_i hu;exact ⟨_,hu,rfl⟩
 ·simp at h
 ·cases h
theorem z6v {op:BinOp} {X Y r:AV} {x y:Value} {t:TypeId} {xo yo:Operand} (hx:VR κ Im w X x) (hy:VR κ Im w Y y) (h:abin op X Y=some r):
  ∃v,(do eqGuard op t xo yo x y;binOp op t x y:Sem Value).run P w=.ok v w∧VR κ Im w r v:=by
 unfold abin at h
 split at h
 ·rename_i k a k' b
  cases hx.int_inv;cases hy.int_inv
  split at h
  case isFalse=>cases h
  rename_i hk;subst hk
  have hg:(eqGuard op t xo yo (.int k a) (.int k b)).run P w=.ok () w:=by
   unfold eqGuard;cases op<;>simp<;>rfl
  simp only [yay,hg,yal]
  cases op<;>simp only [zvf,Option.map_some,yck,yab,reduceCtorEq] at h
  case add=>subst h;exact ⟨_,by simp [binOp,Op.intArith],.im _ _ (.int _ _)⟩
  case sub=>subst h;exact ⟨_,by simp [binOp,Op.intArith],.im _ _ (.int _ _)⟩
  case mul=>subst h;exact ⟨_,by simp [binOp,Op.intArith],.im _ _ (.int _ _)⟩
  case quo=>
   split at h
   ·cases h
   ·rename_i hb;simp at h;subst h;exact ⟨_,by simp [binOp,Op.intDiv,hb],.im _ _ (.int _ _)⟩
  case rem=>
   split at h
   ·cases h
   ·rename_i hb;simp at h;subst h;exact ⟨_,by simp [binOp,Op.intDiv,hb],.im _ _ (.int _ _)⟩
  all_goals (subst h;exact ⟨_,by simp [binOp,Op.intCmp],.im _ _ (.bool _)⟩)
 ·rename_i a b
  cases hx.str_inv;cases hy.str_inv
  have hg:(eqGuard op t xo yo (.string ⟨a.toArray⟩) (.string ⟨b.toArray⟩)).run P w=.ok () w:=by
   unfold eqGuard;cases op<;>simp<;>rfl
  have ea:(ByteArray.mk a.toArray).toList=a:=by rw [ByteArray.toList_eq]
  have eb:(ByteArray.mk b.toArray).toList=b:=by rw [ByteArray.toList_eq]
  have he:(a==b)=decide (a=b):=by by_cases h:a=b<;>simp [h]
  simp only [yay,hg,yal]
  cases op<;>simp only [yab,reduceCtorEq] at h
  case add=>
   split at h
   case isFalse=>cases h
   rename_i hl
   simp at h;subst h
   refine ⟨.string ⟨(a++b).toArray⟩, ?_,.im _ _ (.str _)⟩
   have hs:¬((((ByteArray.mk a.toArray).size+(ByteArray.mk b.toArray).size:Nat):Int)>IntKind.i64.max):=by
    simp [ByteArray.size,IntKind.max,IntKind.bits,IntKind.signed];omega
   have happ:(ByteArray.mk a.toArray)++(ByteArray.mk b.toArray)=ByteArray.mk (a++b).toArray:=by
    ext1;simp
   simp only [binOp,Op.stringOp,hs,if_false,ya5,happ]
  all_goals (subst h;refine ⟨_,by simp only [binOp,Op.stringOp,ea,eb,he,ya5],.im _ _ (.bool _)⟩)
 ·cases h
theorem zjE {t:TypeId} (h:P.underlying t=some .bool) (a b:Bool) (w:World):(Op.equal t (.bool a) (.bool b)).run P w=.ok (a==b) w:=by
 have:∀d,(Op.equalIn (d+1) t (.bool a) (.bool b)).run P w=.ok (a==b) w:=fun d=>by
  simp [Op.equalIn,run_underlying h]
 exact this 9999
theorem zmb {β:Type} {g:Nat} {b:β}:∀{l:List (Nat×β)},l.lookup g=some b→(g,b)∈l
 | [],h=>by simp at h
 |(g',b')::l,h=>by
  rw [List.lookup_cons] at h
  split at h
  ·rename_i he
   simp only [yab] at h;subst h
   have:g=g':=by simpa using he
   subst this;simp
  ·exact ybq _ (zmb h)
theorem zqp {base:Nat} {σ:zac} {X:AV} {x:Value} {n:Nat} {l:List AV} (hs:SRel base κ Im σ w) (hx:VR κ Im w X x) (h:zaP σ X n=some l):
  ∃b o cs,x=.pointer (some ⟨b,o,none⟩)∧w.rangeAt b o cs∧VRL κ Im w l cs∧l.length=n∧∀c∈l,c.one=true:=by
 cases X with
 |ptr id off=>
  simp only [zaP] at h
  obtain ⟨b,rfl,hb⟩:=hx.ptr_inv
  split at h
  case h_2=>cases h
  rename_i t cells he
  split at h
  case isFalse=>cases h
  rename_i hle
  simp only [yab] at h;subst h
  obtain ⟨b',cs,hb',_,hheap,hv,hone,_⟩:=hs.ent _ _ he
  rw [hb] at hb';cases hb'
  refine ⟨b,off,(cs.toList.drop off).take n,rfl,fun j v hj=> ?_,(hv.drop off).take n,by simp;omega,fun c hc=>hone c (yau (yak hc))⟩
  rw [cell_of_row w b (off+j) cs t (0,0) hheap]
  rw [ybo] at hj
  split at hj
  ·rw [ybz] at hj;simpa using hj
  ·cases hj
 |rptr cells=>
  simp only [zaP] at h
  obtain ⟨b,o,vals,rfl,hone,hc,hv⟩:=hx.rptr_inv
  split at h
  case isFalse=>cases h
  rename_i hle
  simp only [yab] at h;subst h
  refine ⟨b,o,(List.range n).map vals,rfl,fun j v hj=> ?_,⟨by simp;omega,fun j h1 h2=> ?_⟩,by simp;omega,fun c hc=>hone c (yak hc)⟩
  ·rw [yb8] at hj
   by_cases hjn:j<n
   ·rw [List.getElem?_range hjn] at hj
    simp at hj;subst hj
    exact (hc j (by omega)).2
   ·rw [yco (by simp;omega)] at hj;cases hj
  ·simp only [yb7,yc2,List.getElem_range]
   exact .im _ _ (hv j _)
 |gp g off=>
  simp only [zaP] at h
  have hx':=hx.gp_inv
  split at h
  case h_2=>cases h
  rename_i cells hl
  split at h
  case isFalse=>cases h
  rename_i hle
  simp only [yab] at h;subst h
  obtain ⟨b,o,vals,hb,hone,hc,hv⟩:=(VR.im (κ:=κ) _ _ (hs.glob _ (zmb hl)).2.2).rptr_inv
  simp only [Value.pointer.injEq,yab,Addr.mk.injEq,and_true] at hb
  obtain ⟨rfl,rfl⟩:=hb
  refine ⟨g,off,(List.range n).map fun j=>vals (off+j),hx',fun j v hj=> ?_,⟨by simp;omega,fun j h1 h2=> ?_⟩,by simp;omega,fun c hc=>hone c (yau (yak hc))⟩
  ·rw [yb8] at hj
   by_cases hjn:j<n
   ·rw [List.getElem?_range hjn] at hj
    simp at hj;subst hj
    have:=(hc (off+j) (show off+j<cells.length by omega)).2
    simpa using this
   ·rw [yco (by simp;omega)] at hj;cases hj
  ·simp only [yb7,ydj,yc2,List.getElem_range]
   exact .im _ _ (hv (off+j) _)
 |rowp id n₀ size k off=>
  simp only [zaP] at h
  obtain ⟨b,cap,rfl,hk⟩:=hx.rowp_inv
  split at h
  case h_2=>cases h
  rename_i e size' els im he
  split at h
  case isFalse=>cases h
  rename_i hle
  obtain ⟨hn,rfl,hle⟩:=hle
  simp only [yae] at h
  obtain ⟨c,hc,rfl⟩:=h
  obtain ⟨v,xs,hv,hown,hvr,hsz,hlen,hone,_,_⟩:=hs.ent _ _ he
  subst hn
  rw [hk] at hv;cases hv
  obtain ⟨hkl,rfl⟩:=yaa.1 hc
  have hlk:els[k].length=size':=hlen _ (yat hkl)
  have hflat:∀(l:List (List AV)) (k:Nat) (hk:k<l.length),(∀c∈l,c.length=size')→((l.flatten.drop (k*size')).take size')=l[k]:=by
   intro l
   induction l with
   |nil=>intro k hk;simp at hk
   |cons c l ih=>
    intro k hk hl
    have hc:c.length=size':=hl c (by simp)
    cases k with
    |zero=>simp [hc]
    |succ k=>
     have:(k+1)*size'=c.length+k*size':=by rw [hc,ya6];omega
     rw [ybd,this,←List.drop_drop,List.drop_left,ih k (by simpa using hk) (fun c h=>hl c (by simp [h]))]
     simp
  have hsub:=((hvr.drop (k*size')).take size')
  rw [hflat els k hkl hlen] at hsub
  refine ⟨b,k*size'+off,(((xs.drop (k*size')).take size').drop off).take n,rfl,fun j v hj=> ?_,(hsub.drop off).take n,by simp;omega,fun c hc=>hone _ (yat hkl) c (yau (yak hc))⟩
  rw [ybo] at hj
  split at hj
  case isFalse=>cases hj
  rw [ybz,ybo] at hj
  split at hj
  case isFalse=>cases hj
  rw [ybz] at hj
  have:=hown.cells (g:=b) rfl _ _ hj
  have e:(⟨b,0,none⟩:Addr).add (k*size'+(off+j))=⟨b,k*size'+off+j,none⟩:=by
   rw [Addr.add_mid];simp [ydt]
  rw [e] at this
  exact this
 |_=>simp [zaP] at h
end
end Go.Abs
end
section
namespace Go.Abs
open Go.RowKit
variable {G:Globs}
section
variable {P:Program} {κ:Key} {Im:Addr→Prop} {w:World}
def zig (P:Program) (κ:Key) (Im:Addr→Prop) (w:World) (o:Oper) (a:Act) (r:AV):Prop:=
 ∃v,(execOp a.eval o).run P w=.ok (.value v) w∧VR κ Im w r v
theorem zcZ {X:AV} {x:Value} {n:Nat} (hx:VR κ Im w X x) (h:zhl X=some n):∃k,x=.int k (n:Int):=by
 cases X<;>simp [zhl] at h
 rename_i k m
 obtain ⟨h0,rfl⟩:=h
 cases hx.int_inv
 exact ⟨k,by rw [Int.toNat_of_nonneg h0]⟩
theorem zrB {ag:Bool} {l:List AV} {r:AV} {vs:List Value} (hl:VRL κ Im w l vs) (hone:∀c∈l,c.one=true) (h:zfE ag l=some r):
  (ag=true→VR κ Im w r (.agg vs.toArray))∧(ag=false→∃v,vs= [v]∧VR κ Im w r v):=by
 unfold zfE at h
 cases ag
 ·simp only [yds,if_false] at h
  refine ⟨fun h=>by simp at h,fun _=> ?_⟩
  split at h
  ·rename_i v
   simp at h;subst h
   obtain ⟨hlen,hv⟩:=hl
   match vs,hlen with
   | [u],_=>exact ⟨u,rfl,hv 0 (by simp) (by simp)⟩
  ·cases h
 ·simp only [if_true,yab] at h;subst h
  exact ⟨fun _=> .agg _ _ hone hl.1 hl.2,fun h=>by simp at h⟩
theorem zzH {t:TypeId} {ag:Bool} {size off:Nat} {l:List AV} {vs:List Value} {r:AV} (ha:znR P t=some ag) (hsz:sizeOf? P t=some size) (hl:VRL κ Im w l vs) (hone:∀c∈l,c.one=true)
  (h:zfE ag ((l.drop off).take size)=some r):∃v,(part t vs.toArray off).run P w=.ok v w∧VR κ Im w r v:=by
 have hsub:=((hl.drop off).take size)
 have hlen:=hl.1
 obtain ⟨h1,h2⟩:=zrB hsub (fun c hc=>hone c (yau (yak hc))) h
 unfold part
 simp only [yay,run_isAgg? ha,yal]
 cases ag
 ·obtain ⟨v,hv,hr⟩:=h2 rfl
  refine ⟨v, ?_,hr⟩
  have:vs[off]? =some v:=by
   have h0:((vs.drop off).take size)[0]? =some v:=by rw [hv];rfl
   rw [ybo] at h0
   split at h0
   ·rw [ybz] at h0;simpa using h0
   ·cases h0
  simp [this]
 ·refine ⟨_, ?_,h1 rfl⟩
  simp only [if_true,yay,run_sizeOf? hsz,yal,ya5]
  congr 2
  apply Array.ext'
  simp
theorem z5R {o:Oper} {t:TypeId} {x:Operand} {x':Opd} {ag:Bool} {size:Nat} {base:Nat} {σ:zac} {f:Frame} {a:Act} {r:AV} (ho:o.op=.load t x) (ha:znR P t=some ag) (hsz:sizeOf? P t=some size) (hx:opd x=some x')
  (hs:SRel base κ Im σ w) (hf:FRel κ Im w f a) (h:za3 σ f (.load ag size x')=some r):zig P κ Im w o a r:=by
 simp only [za3,yac] at h
 obtain ⟨l,hl,hr⟩:=h
 obtain ⟨b,off,cs,hp,hrange,hvr,hlen,hone⟩:=zqp hs (za2 hx hf) hl
 obtain ⟨h1,h2⟩:=zrB hvr hone hr
 obtain ⟨i,hi,hin⟩:=sizeOf?_ok hsz
 have hcl:cs.length=size:=by rw [←hvr.1,hlen]
 cases ag
 ·obtain ⟨v,rfl,hv⟩:=h2 rfl
  refine ⟨v, ?_,hv⟩
  have hc:=hrange 0 v rfl
  simp only [ycb] at hc
  simp [execOp,ho,hp,Instr.loadAt,Instr.sureAddr,loadVar,run_isAgg? ha,hc]
 ·obtain ⟨d,hd,hrow⟩:=zqk ha
  refine ⟨_, ?_,h1 rfl⟩
  simp only [execOp,ho,hp,yay,run_loadAt_mid w b off t cs d hrange hd hrow (by rw [hi];simp [hin,hcl]),yal,ya5]
theorem zus (cells vs:List AV) (us ws:List Value) (off:Nat) (h:VRL κ Im w cells us) (h':VRL κ Im w vs ws):
  VRL κ Im w (splice cells off vs) (us.take off++ws++us.drop (off+ws.length)):=by
 unfold splice
 rw [←h'.1]
 exact ((h.take off).append h').append (h.drop _)
theorem z1o (ws:List Value) (cs:Array Value) (off:Nat) (hle:off+ws.length≤cs.size):
  (ws.toArray.zipIdx.foldl (fun cs (c,j)=>cs.setIfInBounds (off+j) c) cs).toList=cs.toList.take off++ws++cs.toList.drop (off+ws.length):=by
 have key:∀(ws:List Value) (n:Nat) (cs:Array Value),off+n+ws.length≤cs.size→
   ((ws.zipIdx n).foldl (fun (cs:Array Value) (p:Value×Nat)=>cs.setIfInBounds (off+p.2) p.1) cs).toList=cs.toList.take (off+n)++ws++cs.toList.drop (off+n+ws.length):=by
  intro ws
  induction ws with
  |nil=>intro n cs h;simp
  |cons c ws ih=>
   intro n cs h
   rw [List.zipIdx_cons,List.foldl_cons,ih (n+1) _ (by simp at h⊢;omega)]
   have hlt:off+n<cs.toList.length:=by simp at h⊢;omega
   simp only [Array.toList_setIfInBounds]
   have e:cs.toList.set (off+n) c=cs.toList.take (off+n)++c::cs.toList.drop (off+n+1):=by
    rw [List.set_eq_take_append_cons_drop,if_pos hlt]
   have hl:(cs.toList.take (off+n)).length=off+n:=by rw [yan];omega
   rw [e]
   have h1:List.take (off+(n+1)) (cs.toList.take (off+n)++c::cs.toList.drop (off+n+1))=cs.toList.take (off+n)++ [c]:=by
    rw [show off+(n+1)=(cs.toList.take (off+n)).length+1 from by rw [hl];omega,yc3,yao (by omega)]
    simp
   have h2:List.drop (off+(n+1)+ws.length) (cs.toList.take (off+n)++c::cs.toList.drop (off+n+1))=cs.toList.drop (off+n+(c::ws).length):=by
    rw [show off+(n+1)+ws.length=(cs.toList.take (off+n)).length+(1+ws.length) from by rw [hl];omega,yd1]
    have:(cs.toList.take (off+n)).drop ((cs.toList.take (off+n)).length+(1+ws.length))= []:=yc9 (by omega)
    rw [this,ya0,Nat.add_comm 1,List.drop_succ_cons,List.drop_drop]
    simp only [yci,ybf]
    congr 1;omega
   rw [h1,h2];simp
 have:=key ws 0 cs (by simpa using hle)
 simpa using this
theorem zv2 (place:Nat→Option (Nat×Nat)):∀(ps:List (Nat×Value)) (qs:List (Nat×List AV)) (cells:List AV) (cs:Array Value),VRL κ Im w cells cs.toList→ps.length=qs.length→
  (∀j (h:j<ps.length) (h':j<qs.length),∃n,place ps[j].1=some (qs[j].1,n)∧n=qs[j].2.length∧VRL κ Im w qs[j].2 ps[j].2.cells.toList∧qs[j].1+n≤cells.length)→
  ∃cs':Array Value,Instr.fill place cs ps=some cs'∧VRL κ Im w (lay cells qs) cs'.toList∧cs'.size=cs.size:=by
 intro ps
 induction ps with
 |nil=>
  intro qs cells cs hv hl _
  have:qs= []:=yap hl.symm
  subst this
  exact ⟨cs,rfl,hv,rfl⟩
 |cons p ps ih=>
  intro qs cells cs hv hl hp
  match qs,hl with
  |q::qs,hl=>
   obtain ⟨n,hpl,hn,hvr,hle⟩:=hp 0 (by simp) (by simp)
   obtain ⟨i,v⟩:=p
   obtain ⟨off,vs⟩:=q
   simp only [ycn] at hpl hn hvr hle
   have hsz:v.cells.size=n:=by rw [hn];simpa using hvr.1.symm
   have hcl:=hv.1
   have hsz2:cells.length=cs.size:=by simpa using hcl
   simp only [Instr.fill,hpl,hsz,ne_eq,not_true,false_or,lay]
   rw [if_neg (by simp;omega)]
   have hset:=z1o v.cells.toList cs off (by simp;omega)
   have hset':(v.cells.zipIdx.foldl (fun cs (c,j)=>cs.setIfInBounds (off+j) c) cs).toList=cs.toList.take off++v.cells.toList++cs.toList.drop (off+v.cells.toList.length):=by
    simpa using hset
   have hsp:=zus cells vs cs.toList v.cells.toList off hv hvr
   rw [←hset'] at hsp
   obtain ⟨cs',h1,h2,h3⟩:=ih qs (splice cells off vs) _ hsp (by simpa using hl) (fun j h h'=>by
    obtain ⟨n',a,b,c,d⟩:=hp (j+1) (by simpa using h) (by simpa using h')
    refine ⟨n',by simpa using a,by simpa using b,by simpa using c, ?_⟩
    have:(splice cells off vs).length=cells.length:=by
     simp only [splice,yag,yan,ya2];omega
    rw [this];simpa using d)
   refine ⟨cs',h1,h2,h3.trans ?_⟩
   rw [←ya4,hset']
   simp;omega
theorem mapM_some {α β:Type} {g:α→Option β}:∀{l:List α} {m:List β},l.mapM g=some m→l.length=m.length∧∀j (h:j<l.length) (h':j<m.length),g l[j]=some m[j]
 | [],m,h=>by simp at h;subst h;exact ⟨rfl,fun j h=>by simp at h⟩
 |a::l,m,h=>by
  rw [yb5] at h
  simp only [yah,yac,yam,yab] at h
  obtain ⟨b,hb,m',hm',rfl⟩:=h
  obtain ⟨h1,h2⟩:=mapM_some hm'
  refine ⟨by simp [h1],fun j h h'=> ?_⟩
  cases j with
  |zero=>exact hb
  |succ j=>exact h2 j (by simpa using h) (by simpa using h')
theorem zsk:∀(ps:List (Nat×List AV)) (cells:List AV),(∀c∈cells,c.one=true)→(∀p∈ps,∀c∈p.2,c.one=true)→∀c∈lay cells ps,c.one=true
 | [],cells,h,_=>h
 |p::ps,cells,h,hp=>by
  refine zsk ps _ (fun c hc=> ?_) (fun q hq=>hp q (by simp [hq]))
  simp only [splice,yai] at hc
  rcases hc with (hc|hc)|hc
  ·exact h c (yak hc)
  ·exact hp p (by simp) c hc
  ·exact h c (yau hc)
end
end Go.Abs
end
section
namespace Go.Abs
open Go.RowKit
variable {G:Globs}
section
variable {P:Program} {κ:Key} {Im:Addr→Prop} {w:World}
theorem zxg {o:Oper} {t:TypeId} {parts:Array (Nat×Operand)} {z:List AV} {ps:List (Nat×Nat×Opd)} {place:Nat→Option (Nat×Nat)} {σ:zac} {f:Frame} {a:Act} {r:AV} (ho:o.op=.build t parts)
  (hz:zfl P t=some z) (hps:parts.toList.mapM (zoh z.length place)=some ps)
  (hb:∀zv,((P.info? t).bind (·.zero))=some zv→∀(l:List (Nat×Value)) (cells:Array Value),Instr.fill place zv.cells l=some cells→P.built t l=some cells)
  (hf:FRel κ Im w f a) (h:za3 σ f (.build z ps)=some r):zig P κ Im w o a r:=by
 simp only [za3,yae] at h
 obtain ⟨qs,hqs,rfl⟩:=h
 obtain ⟨i,zv,hi,hzv,hm⟩:=zeW hz
 obtain ⟨hzr,hzo,_⟩:=zbW (Im:=Im) (w:=w) hm
 obtain ⟨h1,h2⟩:=mapM_some hps
 obtain ⟨h3,h4⟩:=mapM_some hqs
 have hfill:=zv2 (κ:=κ) (Im:=Im) (w:=w) place (parts.toList.map fun p=>(p.1,a.eval p.2)) qs z zv.cells (VRL.ofIR hzr) (by simp [h1,h3]) (fun j hj hj'=>by
  have hj1:j<parts.toList.length:=by simpa using hj
  have hj2:j<ps.length:=by omega
  have e1:=h2 j hj1 hj2
  have e2:=h4 j hj2 hj'
  simp only [yc2]
  unfold zoh at e1
  split at e1
  case h_2=>cases e1
  rename_i off s x hpl hx
  split at e1
  case isFalse=>cases e1
  rename_i hle
  simp only [yab] at e1
  rw [←e1] at e2
  simp only at e2
  split at e2
  case isFalse=>cases e2
  rename_i hcl
  simp only [yab] at e2
  rw [←e2]
  refine ⟨s,hpl,hcl.1.symm,(za2 hx hf).oneCells (by simpa using hcl.2),hle⟩)
 obtain ⟨cs',hfl,hvr,_⟩:=hfill
 have hone:∀c∈lay z qs,c.one=true:=zsk qs z hzo (fun p hp c hc=>by
  obtain ⟨j,hj,rfl⟩:=yaw.1 hp
  have e2:=h4 j (by omega) hj
  split at e2
  case isFalse=>cases e2
  rename_i hcl
  simp only [yab] at e2
  rw [←e2] at hc
  have:=hcl.2
  simp only [yaz] at this
  exact this c hc)
 refine ⟨.agg cs', ?_, ?_⟩
 ·have hbl:=hb zv (by simp [hi,hzv]) _ _ hfl
  have hr:=run_build (P:=P) w t (parts.map fun (i,x)=>(i,a.eval x)) cs' (by simpa using hbl)
  simp only [execOp,ho,yay,hr,yal,ya5]
 ·have:cs'=cs'.toList.toArray:=by simp
  rw [this]
  exact .agg _ _ hone hvr.1 hvr.2
theorem zwV {X:Option AV} {x:Option Value} {d lim n:Nat} (hx:match X,x with|some X,some x=>VR κ Im w X x|none,none=>True|_,_=>False) (h:zdI X d lim=some n):
  (x=none∧n=d)∨∃k,x=some (.int k (n:Int))∧n≤lim:=by
 unfold zdI at h
 cases X with
 |none=>
  simp at h;subst h
  cases x with
  |none=>exact .inl ⟨rfl,rfl⟩
  |some x=>simp at hx
 |some X=>
  cases x with
  |none=>simp at hx
  |some x=>
   simp only [yac] at h
   obtain ⟨m,hm,hle⟩:=h
   split at hle
   case isFalse=>cases hle
   rename_i hle'
   simp at hle;subst hle
   obtain ⟨k,rfl⟩:=zcZ hx hm
   exact .inr ⟨k,rfl,hle'⟩
theorem zc9 (k:IntKind) (n lim:Nat) (c:BoundsCode) (h:n≤lim) (w:World):(Instr.sliceBound (.int k (n:Int)) lim c).run P w=.ok n w:=by
 unfold Instr.sliceBound
 simp [asIntOf,h]
theorem za8 {isSlice:Bool} {len cap:Nat} {LO HI:Option AV} {lo hi:Option Value} {l h:Nat} (hlo:match LO,lo with|some X,some x=>VR κ Im w X x|none,none=>True|_,_=>False)
  (hhi:match HI,hi with|some X,some x=>VR κ Im w X x|none,none=>True|_,_=>False) (hlc:len≤cap) (hh:zdI HI len len=some h) (hl:zdI LO 0 h=some l):
  (Instr.sliceBounds isSlice len cap lo hi none).run P w=.ok (l,h,cap) w∧l≤h∧h≤len:=by
 unfold Instr.sliceBounds
 have e1:=zwV hhi hh
 have e2:=zwV hlo hl
 rcases e1 with ⟨rfl,rfl⟩|⟨k,rfl,hle⟩<;>rcases e2 with ⟨rfl,rfl⟩|⟨k',rfl,hle'⟩
 ·simp
 ·simp [zc9 _ _ _ _ hle',hle']
 ·refine ⟨?_,by omega,hle⟩
  simp [zc9 k h cap _ (by omega)]
 ·refine ⟨?_,hle',hle⟩
  simp [zc9 k h cap _ (by omega),zc9 _ _ _ _ hle']
theorem zgQ {x:Option Operand} {x':Option Opd} {f:Frame} {a:Act} (hf:FRel κ Im w f a) (h:x.mapM opd=some x'):
  match x'.map (·.ev f),x.map a.eval with|some X,some x=>VR κ Im w X x|none,none=>True|_,_=>False:=by
 cases x with
 |none=>simp at h;subst h;trivial
 |some x=>
  simp only [Option.mapM_some,yae,Option.map_eq_map] at h
  obtain ⟨y,hy,rfl⟩:=h
  exact za2 hy hf
theorem zbv (ba:Option Addr) (len cap l h size:Nat) {t e:TypeId} {lo hi:Option Value} (ht:P.underlying t=some (.slice e)) (hsz:sizeOf? P e=some size)
  (hb:(Instr.sliceBounds true len cap lo hi none).run P w=.ok (l,h,cap) w):
  (Instr.sliceAt t (.slice ba len cap) lo hi none).run P w=.ok (.slice (if cap=l then ba else ba.map (·.add (l*size))) (h-l) (cap-l)) w:=by
 simp only [Instr.sliceAt,yay,run_underlying ht,yal,Instr.slice,hb,run_sizeOf? hsz,ya5]
theorem znY {α:Type} (l:List α) (lo hi:Nat) (h:hi≤l.length):((l.take hi).drop lo).length=hi-lo:=by simp;omega
theorem zoi {l:List (List AV)} {size b o cap:Nat} {vals:Nat→Nat→Value} (hcap:l.length≤cap) (hmax:cap≤maxLen) (hs:∀c∈l,c.length=size)
   (hone:∀c∈l,∀x∈c,x.one=true) (hc:∀k j,k<l.length→j<size→Im ⟨b,o+(k*size+j),none⟩∧w.cell? ⟨b,o+(k*size+j),none⟩=some (vals k j))
   (hv:∀k j (h:k<l.length) (h':j<l[k].length),IR Im w (l[k][j]) (vals k j)) (lo hi:Nat) (h1:lo≤hi) (h2:hi≤l.length):
  IR Im w (.lst ((l.take hi).drop lo)) (.slice (if cap=lo then some ⟨b,o,none⟩ else (some (⟨b,o,none⟩:Addr)).map (·.add (lo*size))) (hi-lo) (cap-lo)):=by
 have hlen:=znY l lo hi h2
 have hmem:∀c∈(l.take hi).drop lo,c∈l:=fun c hc=>yak (yau hc)
 by_cases he:cap=lo
 ·have:((l.take hi).drop lo)= []:=yap (by omega)
  rw [if_pos he,this]
  have h0:hi-lo=0:=by omega
  have:=IR.lst (Im:=Im) (w:=w) [] size b o (cap-lo) (fun _ _=>default) (by simp) (by omega) (by simp) (by simp) (fun k j hk=>by simp at hk) (fun k j hk=>by simp at hk)
  simpa [h0] using this
 ·rw [if_neg he,Option.map_some,Addr.add_mid]
  have:=IR.lst (Im:=Im) (w:=w) ((l.take hi).drop lo) size b (o+lo*size) (cap-lo) (fun k j=>vals (lo+k) j) (by rw [hlen];omega) (by omega) (fun c hc=>hs c (hmem c hc)) (fun c hc=>hone c (hmem c hc))
   (fun k j hk hj=>by
    have:=hc (lo+k) j (by rw [hlen] at hk;omega) hj
    have e:o+lo*size+(k*size+j)=o+((lo+k)*size+j):=by rw [ya6];omega
    rw [e];exact this)
   (fun k j hk hj=>by
    have hk':lo+k<l.length:=by rw [hlen] at hk;omega
    have e:((l.take hi).drop lo)[k]=l[lo+k]:=by simp
    simp only [e] at hj⊢
    exact hv (lo+k) j hk' hj)
  rwa [hlen] at this
end
end Go.Abs
end
section
namespace Go.Abs
open Go.RowKit
variable {G:Globs}
section
variable {P:Program} {κ:Key} {Im:Addr→Prop} {w:World}
theorem zf8 {size:Nat}:∀(l:List (List AV)) (k j:Nat),(∀c∈l,c.length=size)→k<l.length→j<size→∃(h:k<l.length) (h':j<l[k].length) (h'':k*size+j<l.flatten.length),l.flatten[k*size+j]=l[k][j]:=by
 intro l
 induction l with
 |nil=>intro k j _ h;simp at h
 |cons c l ih=>
  intro k j hl hk hj
  have hc:c.length=size:=hl c (by simp)
  cases k with
  |zero=>
   refine ⟨hk,by simp [hc,hj],by simp [hc];omega, ?_⟩
   simp only [Nat.zero_mul,ybe,ybd,ycn]
   rw [yce]
  |succ k=>
   obtain ⟨h1,h2,h3,h4⟩:=ih k j (fun c h=>hl c (by simp [h])) (by simpa using hk) hj
   have e:(k+1)*size+j=c.length+(k*size+j):=by rw [hc,ya6];omega
   refine ⟨hk,by simpa using h2,by rw [e,ybd,yag];omega, ?_⟩
   simp only [ybd,ydo]
   rw [←h4]
   simp only [e]
   rw [ycc (by omega)]
   congr 1;omega
theorem zmn {base:Nat} {σ:zac} {id e size:Nat} {els:List (List AV)} {v:Value} (hs:SRel base κ Im σ w) (he:σ[id]? =some (.row e size els true)) (hv:κ id els.length=some v):IR Im w (.lst els) v:=by
 obtain ⟨v',xs,hv',hown,hvr,hsz,hlen,hone,hir,him⟩:=hs.ent _ _ he
 rw [hv] at hv';cases hv'
 have hxl:=hown.1
 rcases hown.2 with ⟨rfl,h0⟩|⟨g,cap,cur,rfl,hg,hh,hle,hmax,hcs,htake⟩
 ·have:els= []:=yap h0
  subst this;exact .lnil _
 ·have hcell:=hown.cells (g:=g) rfl
  obtain ⟨h1,h2⟩:=hir rfl
  obtain ⟨_,h4⟩:=him g rfl
  have h4:=h4 rfl
  have hfl:els.flatten.length=els.length*size:=by rw [h1,hxl]
  refine .lst els size g 0 cap (fun k j=>xs.getD (k*size+j) undef) hle hmax hlen hone (fun k j hk hj=> ?_) (fun k j hk hj=> ?_)
  ·have hlt:k*size+j<els.length*size:=by
    have:(k+1)*size≤els.length*size:=yas _ hk
    rw [ya6] at this;omega
   rw [ybe]
   refine ⟨h4 _ hlt, ?_⟩
   have hlt':k*size+j<xs.length:=by rw [hxl];exact hlt
   have:=hcell (k*size+j) _ (yad hlt')
   rw [Addr.add_mid,ybe] at this
   rw [this]
   simp [hlt']
  ·have hcl:=hlen _ (yat hk)
   obtain ⟨_,_,h3,h5⟩:=zf8 els k j hlen hk (by omega)
   have hlt':k*size+j<xs.length:=by omega
   have:=h2 (k*size+j) h3 hlt'
   rw [h5] at this
   have e:xs.getD (k*size+j) undef=xs[k*size+j]:=by simp [hlt']
   simp only [e]
   exact this
theorem z2E {base:Nat} {σ:zac} {X:AV} {x:Value} {l:List (List AV)} (hs:SRel base κ Im σ w) (hx:VR κ Im w X x) (h:view σ X=some l):∃b cap,x=.slice b l.length cap∧l.length≤cap:=by
 cases X<;>simp only [view,reduceCtorEq,yab] at h
 case nils=>subst h;cases hx.nils_inv;exact ⟨none,0,rfl,by simp⟩
 case lst m=>
  subst h
  rcases hx.lst_inv with ⟨⟨g,rfl⟩,rfl⟩|⟨size,b,o,cap,vals,rfl,hc,_⟩
  ·exact ⟨g,0,rfl,by simp⟩
  ·exact ⟨_,cap,rfl,hc⟩
 case row id n=>
  obtain ⟨g,cap,rfl,hk⟩:=hx.row_inv
  split at h
  case h_2=>cases h
  rename_i e size els im he
  split at h
  case isFalse=>cases h
  rename_i hn
  simp only [yab] at h;subst h;subst hn
  obtain ⟨v,xs,hv,hown,_⟩:=hs.ent _ _ he
  rw [hk] at hv;cases hv
  rcases hown.2 with ⟨h1,h2⟩|⟨g',cap',cur,h1,_,_,hle,_⟩
  ·simp only [Value.slice.injEq] at h1
   obtain ⟨rfl,h3,rfl⟩:=h1
   exact ⟨none,0,rfl,by omega⟩
  ·simp only [Value.slice.injEq] at h1
   obtain ⟨rfl,_,rfl⟩:=h1
   exact ⟨_,_,rfl,hle⟩
 case asl id off n size=>
  obtain ⟨b,ad,c,rfl,hk,h3,h4,_⟩:=hx.asl_inv
  split at h
  case h_2=>cases h
  split at h
  case isFalse=>cases h
  simp only [yab] at h;subst h
  have hl:∀(n:Nat) (l:List AV),(zbc n size l).length=n:=by
   intro n
   induction n with
   |zero=>intro l;rfl
   |succ n ih=>intro l;simp [zbc,ih]
  exact ⟨_,_,by rw [hl],by rw [hl];exact h4⟩
 case sub id n size lo hi=>
  obtain ⟨b,cap,ad,c,rfl,hk,h1,h2,h3,h4,_⟩:=hx.sub_inv
  split at h
  case h_2=>cases h
  rename_i e size' els im he
  split at h
  case isFalse=>cases h
  rename_i hn
  obtain ⟨hn,rfl⟩:=hn
  simp only [yab] at h;subst h;subst hn
  have hl:((els.take hi).drop lo).length=hi-lo:=by simp;omega
  exact ⟨_,_,by rw [hl],by omega⟩
theorem z8k {k:Nat} {X Y:AV} {x y:Value} {b:Bool} {t:TypeId} {d:Nat} (hx:VR κ Im w X x) (hy:VR κ Im w Y y) (h:eq1 k X Y=some b)
  (ht:(k=0∧∃i,P.underlying t=some (.int i))∨(k=1∧P.underlying t=some .string)∨(k=2∧P.underlying t=some .bool)):(Op.equalIn (d+1) t x y).run P w=.ok b w:=by
 unfold eq1 at h
 split at h
 ·rename_i k a k' b'
  cases hx.int_inv;cases hy.int_inv
  split at h
  case isFalse=>cases h
  rename_i hk;subst hk
  simp only [yab] at h;subst h
  obtain ⟨_,i,hi⟩|⟨h,_⟩|⟨h,_⟩:=ht
  ·have:(a==b')=decide (a=b'):=by by_cases h:a=b'<;>simp [h]
   simp [Op.equalIn,run_underlying hi,this]
  ·cases h
  ·cases h
 ·rename_i a b'
  cases hx.str_inv;cases hy.str_inv
  simp only [yab] at h;subst h
  obtain ⟨h,_⟩|⟨_,hi⟩|⟨h,_⟩:=ht
  ·cases h
  ·have ea:(ByteArray.mk a.toArray).toList=a:=by rw [ByteArray.toList_eq]
   have eb:(ByteArray.mk b'.toArray).toList=b':=by rw [ByteArray.toList_eq]
   have he:(a==b')=decide (a=b'):=by by_cases h:a=b'<;>simp [h]
   rw [run_equalIn_string w d t _ _ hi,ea,eb,he]
  ·cases h
 ·rename_i a b'
  cases hx.bool_inv;cases hy.bool_inv
  simp only [yab] at h;subst h
  obtain ⟨h,_⟩|⟨h,_⟩|⟨_,hi⟩:=ht
  ·cases h
  ·cases h
  ·simp [Op.equalIn,run_underlying hi]
 ·cases h
theorem zpn {d:Nat} {xs ys:List Value}:∀(fs:List Field) (i:Nat) (ks:List Nat) (l m:List AV) (b:Bool),zeQ P i fs=some ks→VRL κ Im w l (xs.drop i)→VRL κ Im w m (ys.drop i)→zjJ ks l m=some b→
  (Op.eqFields (d+1) xs.toArray ys.toArray fs).run P w=.ok b w
 | [],i,ks,l,m,b,hk,_,_,h=>by
  simp [zeQ] at hk;subst hk
  cases l<;>cases m<;>simp [zjJ] at h
  subst h
  simp [Op.eqFields]
 |f::fs,i,ks,l,m,b,hk,hl,hm,h=>by
  simp only [zeQ] at hk
  split at hk
  case isFalse=>cases hk
  rename_i hn
  obtain ⟨hname,hoff⟩:=hn
  have hex:∃k ks',ks=k::ks'∧zeQ P (i+1) fs=some ks'∧((k=0∧∃i,P.underlying f.type=some (.int i))∨(k=1∧P.underlying f.type=some .string)∨(k=2∧P.underlying f.type=some .bool)):=by
   split at hk<;>first
    |(cases hk;done)
    |(rename_i hu;simp only [yae] at hk;obtain ⟨ks',h1,rfl⟩:=hk;exact ⟨_,ks',rfl,h1,by first|exact .inl ⟨rfl,_,hu⟩|exact .inr (.inl ⟨rfl,hu⟩)|exact .inr (.inr ⟨rfl,hu⟩)⟩)
  obtain ⟨k,ks',rfl,hks,hty⟩:=hex
  match l,m,h with
  |a::l,c::m,h=>
   simp only [zjJ,yac,yae] at h
   obtain ⟨x,hx,y,hy,rfl⟩:=h
   have hagg:znR P f.type=some false:=by
    unfold znR
    rcases hty with ⟨_,j,hj⟩|⟨_,hj⟩|⟨_,hj⟩<;>simp [hj]
   obtain ⟨u,hu,hur⟩:=hl.get? (i:=0) (a:=a) rfl
   obtain ⟨v,hv,hvr⟩:=hm.get? (i:=0) (a:=c) rfl
   have hu':xs[i]? =some u:=by rw [ybz] at hu;simpa using hu
   have hv':ys[i]? =some v:=by rw [ybz] at hv;simpa using hv
   have hp1:(part f.type xs.toArray f.offset).run P w=.ok u w:=by
    unfold part;simp [run_isAgg? hagg,hoff,hu']
   have hp2:(part f.type ys.toArray f.offset).run P w=.ok v w:=by
    unfold part;simp [run_isAgg? hagg,hoff,hv']
   have heq:=z8k (d:=d) hur hvr hx hty
   have hl':VRL κ Im w l (xs.drop (i+1)):=by have:=hl.drop 1;simpa using this
   have hm':VRL κ Im w m (ys.drop (i+1)):=by have:=hm.drop 1;simpa using this
   have ih:=zpn (d:=d) fs (i+1) ks' l m y hks hl' hm' hy
   simp only [Op.eqFields,hname,ne_eq,not_false_eq_true,if_true,yay,hp1,hp2,yal,heq,Sem.run_ite]
   cases x
   ·simp
   ·simp [ih]
theorem zy3 {t:TypeId} {ks:List Nat} {l m:List AV} {xs ys:List Value} {b:Bool} (hk:zij P t=some ks) (hl:VRL κ Im w l xs) (hm:VRL κ Im w m ys) (h:zjJ ks l m=some b):
  (Op.equal t (.agg xs.toArray) (.agg ys.toArray)).run P w=.ok b w∧∀op x y,(eqGuard op t x y (.agg xs.toArray) (.agg ys.toArray)).run P w=.ok () w:=by
 unfold zij at hk
 split at hk
 case h_2=>cases hk
 rename_i fs hu
 split at hk
 case isFalse=>cases hk
 rename_i hc
 have hfo:P.fieldsOf t=fs:=by simp [Program.fieldsOf,hu]
 have hd:∀d,(Op.equalIn (d+2) t (.agg xs.toArray) (.agg ys.toArray)).run P w=.ok b w:=fun d=>by
  rw [run_equalIn_struct w (d+1) t _ _ (by rw [hfo];exact hu) hc.1,hfo]
  exact zpn fs.toList 0 ks l m b hk (by simpa using hl) (by simpa using hm) h
 refine ⟨hd 9998,fun op x y=> ?_⟩
 unfold eqGuard
 cases op<;>simp [hc.2]<;>rfl
end
end Go.Abs
end
section
namespace Go.Abs
open Go.RowKit
variable {G:Globs}
section
variable {P:Program} {κ:Key} {Im:Addr→Prop} {w:World}
theorem VR.add {b o n:Nat}:(⟨b,o,none⟩:Addr).add n=⟨b,o+n,none⟩:=Addr.add_mid b o n
theorem zlh {l:List AV} {b o:Nat} {vals:Nat→Value} (hone:∀c∈l,c.one=true) (hc:∀j,j<l.length→Im ⟨b,o+j,none⟩∧w.cell? ⟨b,o+j,none⟩=some (vals j)) (hv:∀j (h:j<l.length),IR Im w (l[j]) (vals j)) (n:Nat):
  IR Im w (.rptr (l.drop n)) (.pointer (some ⟨b,o+n,none⟩)):=
 .rptr (l.drop n) b (o+n) (fun j=>vals (n+j)) (fun c h=>hone c (yau h))
  (fun j hj=>by
   have:=hc (n+j) (by simp at hj;omega)
   rw [show o+n+j=o+(n+j) from by omega];exact this)
  (fun j hj=>by rw [ydj];exact hv (n+j) (by simp at hj;omega))
theorem zdA {o:Oper} {a:Act} {b:Builtin} {c:Call} {f:Value} (ho:o.op=.call c) (hb:c.callee=.builtin b) (h:(builtin b c.argTypes o.type (c.args.map fun| .const _=>true|_=>false) (c.args.map a.eval)).run P w=.ok (.value f) w):
  (execOp a.eval o).run P w=.ok (.value f) w:=by
 simp only [execOp,ho,resolve,hb,yay,ya5,yal,invoke]
 exact h
theorem zbm {α:Type} {a:Array α} {l:List α} (h:a.toList=l):a=l.toArray:=by rw [←h]
theorem zye {o:Oper} {c:Call} {b:Builtin} {args:List Opd} {ao:AOp} {base:Nat} {σ:zac} {f:Frame} {a:Act} {r:AV} (ho:o.op=.call c) (hb:c.callee=.builtin b) (hargs:c.args.toList.mapM opd=some args)
  (hc:zd7 P b c.argTypes.toList args=some ao) (hs:SRel base κ Im σ w) (hf:FRel κ Im w f a) (h:za3 σ f ao=some r):zig P κ Im w o a r:=by
 have hv:=zir (κ:=κ) (Im:=Im) (w:=w) hf hargs
 unfold zd7 at hc
 split at hc
 ·rename_i t x hts
  have ht:c.argTypes= #[t]:=zbm hts
  obtain ⟨u,hu⟩:∃u,c.args.toList.map a.eval= [u]:=by
   have:=hv.1;simp only [yc0,ybf,ycz] at this
   match hq:c.args.toList.map a.eval,hv.1 with
   | [u],_=>exact ⟨u,rfl⟩
  rw [hu] at hv
  have hx:VR κ Im w (x.ev f) u:=hv.2 0 (by simp) (by simp)
  have hargs':c.args.map a.eval= #[u]:=by apply zbm;simpa using hu
  split at hc
  ·rename_i hty
   simp only [yab] at hc;subst hc
   simp only [za3] at h
   split at h
   case h_2=>cases h
   rename_i l hl
   simp only [yab] at h;subst h
   rw [hl] at hx
   cases hx.str_inv
   refine ⟨.int .i64 l.length,zdA ho hb ?_,.im _ _ (.int _ _)⟩
   simp [builtin,Builtin.len_,ht,hargs',run_underlying hty,goInt]
   rfl
  ·rename_i e hty
   simp only [yab] at hc;subst hc
   simp only [za3,yae] at h
   obtain ⟨l,hl,rfl⟩:=h
   obtain ⟨b',cap,rfl,_⟩:=z2E hs hx hl
   refine ⟨.int .i64 l.length,zdA ho hb ?_,.im _ _ (.int _ _)⟩
   simp [builtin,Builtin.len_,ht,hargs',run_underlying hty,goInt]
  ·rename_i n e hty
   simp only [yab] at hc;subst hc
   simp only [za3,ev_c,yab] at h;subst h
   refine ⟨.int .i64 n,zdA ho hb ?_,.im _ _ (.int _ _)⟩
   simp [builtin,Builtin.len_,ht,hargs',run_underlying hty,goInt]
  ·cases hc
 ·rename_i t1 t2 x y hts
  simp only [yab] at hc;subst hc
  obtain ⟨u,v,hu⟩:∃u v,c.args.toList.map a.eval= [u,v]:=by
   match hq:c.args.toList.map a.eval,hv.1 with
   | [u,v],_=>exact ⟨u,v,rfl⟩
  rw [hu] at hv
  have hx:VR κ Im w (x.ev f) u:=hv.2 0 (by simp) (by simp)
  have hy:VR κ Im w (y.ev f) v:=hv.2 1 (by simp) (by simp)
  have hargs':c.args.map a.eval= #[u,v]:=by apply zbm;simpa using hu
  simp only [za3] at h
  split at h
  case h_2=>cases h
  rename_i k p k' q hp hq
  split at h
  case isFalse=>cases h
  rename_i hk;subst hk
  simp only [yab,yds,if_false] at h;subst h
  rw [hp] at hx;rw [hq] at hy
  cases hx.int_inv;cases hy.int_inv
  refine ⟨_,zdA ho hb ?_,.im _ _ (.int _ _)⟩
  simp [builtin,Builtin.min_,hargs',Builtin.min2]
 ·rename_i t1 t2 x y hts
  simp only [yab] at hc;subst hc
  obtain ⟨u,v,hu⟩:∃u v,c.args.toList.map a.eval= [u,v]:=by
   match hq:c.args.toList.map a.eval,hv.1 with
   | [u,v],_=>exact ⟨u,v,rfl⟩
  rw [hu] at hv
  have hx:VR κ Im w (x.ev f) u:=hv.2 0 (by simp) (by simp)
  have hy:VR κ Im w (y.ev f) v:=hv.2 1 (by simp) (by simp)
  have hargs':c.args.map a.eval= #[u,v]:=by apply zbm;simpa using hu
  simp only [za3] at h
  split at h
  case h_2=>cases h
  rename_i k p k' q hp hq
  split at h
  case isFalse=>cases h
  rename_i hk;subst hk
  simp only [yab,if_true] at h;subst h
  rw [hp] at hx;rw [hq] at hy
  cases hx.int_inv;cases hy.int_inv
  refine ⟨_,zdA ho hb ?_,.im _ _ (.int _ _)⟩
  simp [builtin,Builtin.max_,hargs',Builtin.max2]
 ·(repeat' (split at hc))<;>first
   |(cases hc;done)
   |(simp only [yab] at hc;subst hc;simp [za3] at h)
 ·cases hc
theorem zsB {o:Oper} {ao:AOp} {base:Nat} {σ:zac} {f:Frame} {a:Act} {r:AV} (hc:zmx P o=some ao) (hs:SRel base κ Im σ w) (hf:FRel κ Im w f a) (h:za3 σ f ao=some r):zig P κ Im w o a r:=by
 unfold zmx at hc
 split at hc
 case h_1 x ho | h_2 x ho => -- move, assign
  simp only [yae] at hc
  obtain ⟨x',hx,rfl⟩:=hc
  simp only [za3,yab] at h;subst h
  exact ⟨_,by simp [execOp,ho],za2 hx hf⟩
 case h_3 c p q ho => -- pick
  simp only [yah,yac,yam,yab] at hc
  obtain ⟨c',hc',p',hp,q',hq,rfl⟩:=hc
  simp only [za3] at h
  split at h
  case h_2=>cases h
  rename_i b hb
  simp only [yab] at h;subst h
  have:=za2 hc' hf
  rw [hb] at this
  have hcv:=this.bool_inv
  refine ⟨if b then a.eval p else a.eval q, ?_, ?_⟩
  ·simp [execOp,ho,hcv,asBool]
  ·cases b
   ·exact za2 hq hf
   ·exact za2 hp hf
 case h_4=>simp only [yah,yac,yae,yam,yab] at hc;obtain ⟨_,_,rfl⟩:=hc;simp [za3] at h
 case h_5=>simp only [yah,yac,yae,yam,yab] at hc;obtain ⟨_,_,rfl⟩:=hc;simp [za3] at h
 case h_6 t parts ho => -- build
  split at hc
  ·rename_i fs hu
   simp only [yah,yac,yae,yam,yab] at hc
   obtain ⟨z,hz,pl,hpl,ps,hps,rfl⟩:=hc
   exact zxg ho hz hps (fun zv hzv l cells hfl=>by
    simp only [yac] at hzv
    obtain ⟨i,hi,hiz⟩:=hzv
    simp only [Program.built,hi,hu,hiz,hpl]
    exact hfl) hf h
  ·rename_i n e hu
   simp only [yah,yac,yae,yam,yab] at hc
   obtain ⟨z,hz,sz,hsz,ps,hps,rfl⟩:=hc
   obtain ⟨ie,hie,rfl⟩:=sizeOf?_ok hsz
   exact zxg ho hz hps (fun zv hzv l cells hfl=>by
    simp only [yac] at hzv
    obtain ⟨i,hi,hiz⟩:=hzv
    simp only [Program.built,hi,hu,hiz,hie]
    exact hfl) hf h
  ·cases hc
 case h_7=>
  split at hc
  ·simp only [yah,yac,yam] at hc
   obtain ⟨_,_,_,_,hc⟩:=hc
   split at hc
   ·simp only [yac,yab] at hc
    obtain ⟨_,_,rfl⟩:=hc;simp [za3] at h
   ·cases hc
  ·cases hc
 case h_8 t x ho => -- load
  simp only [yah,yac,yae,yam,yab] at hc
  obtain ⟨ag,ha,size,hsz,x',hx,rfl⟩:=hc
  exact z5R ho ha hsz hx hs hf h
 case h_9=>simp only [yah,yac,yae,yam,yab] at hc;obtain ⟨_,_,_,_,_,_,rfl⟩:=hc;simp [za3] at h
 case h_10 x ho => -- nilCheck
  simp only [yah,yac,yae,yam,yab] at hc
  obtain ⟨x',hx,rfl⟩:=hc
  have hv:=za2 (κ:=κ) (Im:=Im) (w:=w) hx hf
  simp only [za3] at h
  split at h
  ·rename_i id off he
   simp only [yab] at h;subst h
   rw [he] at hv
   obtain ⟨b,hb,_⟩:=hv.ptr_inv
   exact ⟨a.eval x,by simp [execOp,ho,hb],hv⟩
  ·rename_i l he
   simp only [yab] at h;subst h
   rw [he] at hv
   obtain ⟨b,o',vals,hb,_⟩:=hv.rptr_inv
   exact ⟨a.eval x,by simp [execOp,ho,hb],hv⟩
  ·rename_i he
   simp only [yab] at h;subst h
   rw [he] at hv
   obtain ⟨b,cap,hb,_⟩:=hv.rowp_inv
   exact ⟨a.eval x,by simp [execOp,ho,hb],hv⟩
  ·rename_i he
   simp only [yab] at h;subst h
   rw [he] at hv
   have hb:=hv.gp_inv
   exact ⟨a.eval x,by simp [execOp,ho,hb],hv⟩
  ·rename_i he
   simp only [yab] at h;subst h
   rw [he] at hv
   obtain ⟨vs,us,hb,_⟩:=hv.fn_inv
   exact ⟨a.eval x,by simp [execOp,ho,hb],hv⟩
  ·cases h
 case h_11 op t x y yt ho => -- binOp
  have hbin:∀op' x' y',opd x=some x'→opd y=some y'→za3 σ f (.bin op' x' y')=some r→op'=op→zig P κ Im w o a r:=by
   intro op' x' y' hx hy hp he
   subst he
   simp only [za3] at hp
   obtain ⟨v,hv,hr⟩:=z6v (P:=P) (t:=t) (xo:=x) (yo:=y) (za2 hx hf) (za2 hy hf) hp
   refine ⟨v, ?_,hr⟩
   simp only [execOp,ho]
   rw [yay]
   simp only [hv,yal,ya5]
  have hbeq:∀neg x' y',P.underlying t=some .bool→opd x=some x'→opd y=some y'→za3 σ f (.beq neg x' y')=some r→(if neg then BinOp.neq else BinOp.eql)=op→zig P κ Im w o a r:=by
   intro neg x' y' hu hx hy hp he
   have h1:=za2 (κ:=κ) (Im:=Im) (w:=w) hx hf
   have h2:=za2 (κ:=κ) (Im:=Im) (w:=w) hy hf
   simp only [za3] at hp
   split at hp
   case h_2=>cases hp
   rename_i p q hp1 hq1
   rw [hp1] at h1;rw [hq1] at h2
   simp only [yab] at hp;subst hp
   have e1:=h1.bool_inv
   have e2:=h2.bool_inv
   refine ⟨_, ?_,.im _ _ (.bool _)⟩
   have hg:∀op,(eqGuard op t x y (.bool p) (.bool q)).run P w=.ok () w:=by
    intro op
    unfold eqGuard;cases op<;>simp<;>rfl
   subst he
   cases neg
   ·simp [execOp,ho,e1,e2,hg,binOp,zjE hu]
   ·simp [execOp,ho,e1,e2,hg,binOp,zjE hu,bne]
  have heqs:∀neg ks x' y',zij P t=some ks→opd x=some x'→opd y=some y'→za3 σ f (.eqs neg ks x' y')=some r→(if neg then BinOp.neq else BinOp.eql)=op→zig P κ Im w o a r:=by
   intro neg ks x' y' hu hx hy hp he
   have h1:=za2 (κ:=κ) (Im:=Im) (w:=w) hx hf
   have h2:=za2 (κ:=κ) (Im:=Im) (w:=w) hy hf
   simp only [za3] at hp
   split at hp
   case h_2=>cases hp
   rename_i p q hp1 hq1
   rw [hp1] at h1;rw [hq1] at h2
   simp only [yae] at hp
   obtain ⟨b,hb,rfl⟩:=hp
   obtain ⟨xs,e1,hxs,_⟩:=h1.agg_inv
   obtain ⟨ys,e2,hys,_⟩:=h2.agg_inv
   obtain ⟨h3,h4⟩:=zy3 hu hxs hys hb
   refine ⟨_, ?_,.im _ _ (.bool _)⟩
   subst he
   cases neg
   ·simp [execOp,ho,e1,e2,h4,binOp,h3]
   ·simp [execOp,ho,e1,e2,h4,binOp,h3]
  split at hc
  ·rename_i hu
   split at hc
   ·simp only [yah,yac,yam,yab] at hc
    obtain ⟨x',hx,y',hy,rfl⟩:=hc
    exact hbeq false x' y' hu hx hy h rfl
   ·simp only [yah,yac,yam,yab] at hc
    obtain ⟨x',hx,y',hy,rfl⟩:=hc
    exact hbeq true x' y' hu hx hy h rfl
   ·cases hc
  all_goals try (split at hc)
  all_goals first|(cases hc;done)|skip
  all_goals (simp only [yah,yac,yam,yab] at hc)
  all_goals first
   |(obtain ⟨x',hx,y',hy,rfl⟩:=hc;exact hbin _ x' y' hx hy h rfl)
   |(obtain ⟨ks,hk,x',hx,y',hy,rfl⟩:=hc;first|exact heqs false ks x' y' hk hx hy h rfl|exact heqs true ks x' y' hk hx hy h rfl)
 case h_12 t x ho => -- not
  simp only [yah,yac,yae,yam,yab] at hc
  obtain ⟨x',hx,rfl⟩:=hc
  have hv:=za2 (κ:=κ) (Im:=Im) (w:=w) hx hf
  simp only [za3] at h
  split at h
  case h_2=>cases h
  rename_i b he
  rw [he] at hv
  have e:=hv.bool_inv
  simp only [yab] at h;subst h
  exact ⟨_,by simp [execOp,ho,e,Op.unary],.im _ _ (.bool _)⟩
 case h_13 t x ho => -- neg
  simp only [yah,yac,yae,yam,yab] at hc
  obtain ⟨x',hx,rfl⟩:=hc
  have hv:=za2 (κ:=κ) (Im:=Im) (w:=w) hx hf
  simp only [za3] at h
  split at h
  case h_2=>cases h
  rename_i k n he
  rw [he] at hv
  have e:=hv.int_inv
  simp only [yab] at h;subst h
  exact ⟨_,by simp [execOp,ho,e,Op.unary,Op.intArith],.im _ _ (.int _ _)⟩
 case h_14 s t x ho => -- convert
  split at hc
  case h_2=>cases hc
  rename_i k k' hu1 hu2
  simp only [yae] at hc
  obtain ⟨x',hx,rfl⟩:=hc
  have hv:=za2 (κ:=κ) (Im:=Im) (w:=w) hx hf
  simp only [za3] at h
  split at h
  case h_2=>cases h
  rename_i k2 n he
  rw [he] at hv
  have e:=hv.int_inv
  simp only [yab] at h;subst h
  exact ⟨_,by simp [execOp,ho,e,convert,run_underlying hu1,run_underlying hu2,Conv.intToInt],.im _ _ (.int _ _)⟩
 case h_15 t x ho => -- makeInterface
  split at hc
  ·cases hc
  ·rename_i d hni hu
   simp only [yae] at hc
   obtain ⟨x',hx,rfl⟩:=hc
   simp only [za3,yab] at h;subst h
   refine ⟨.iface t (a.eval x), ?_,.iface _ _ _ (za2 hx hf)⟩
   have hcn:P.concrete t=true:=by
    unfold Program.concrete
    rw [hu]
    cases d<;>first|rfl|exact absurd rfl (hni _)
   simp [execOp,ho,run_makeInterface w t _ hcn]
  ·cases hc
 case h_16 fn first captured ho => -- makeFunc
  simp only [yah,yac,yae,yam,yab] at hc
  obtain ⟨l,hl,m,hm,rfl⟩:=hc
  simp only [za3,yab] at h;subst h
  have h1:=zir (κ:=κ) (Im:=Im) (w:=w) hf hl
  have h2:=zir (κ:=κ) (Im:=Im) (w:=w) hf hm
  refine ⟨.func fn (first.map a.eval) (captured.map a.eval),by simp [execOp,ho,Instr.makeFunc], ?_⟩
  have e1:first.map a.eval=(first.toList.map a.eval).toArray:=zbm (by rw [yc4])
  have e2:captured.map a.eval=(captured.toList.map a.eval).toArray:=zbm (by rw [yc4])
  rw [e1,e2]
  exact .fn _ _ _ _ _ h1.1 h2.1 h1.2 h2.2
 case h_17 => -- makeSlice
  split at hc
  ·simp only [yah,yac,yam] at hc
   obtain ⟨_,_,_,_,hc⟩:=hc
   split at hc
   ·simp only [yac,yab] at hc
    obtain ⟨_,_,_,_,rfl⟩:=hc;simp [za3] at h
   ·cases hc
  ·cases hc
 case h_18 t x lo hi ho => -- slice
  split at hc
  ·rename_i hu
   simp only [yah,yac,yam,yab] at hc
   obtain ⟨x',hx,lo',hlo,hi',hhi,rfl⟩:=hc
   have hv:=za2 (κ:=κ) (Im:=Im) (w:=w) hx hf
   simp only [za3] at h
   split at h
   case h_2=>cases h
   rename_i l he
   rw [he] at hv
   have e:=hv.str_inv
   simp only [yac,yae] at h
   obtain ⟨hh,hhb,ll,hlb,rfl⟩:=h
   obtain ⟨hb,hle1,hle2⟩:=za8 (P:=P) (isSlice:=false) (zgQ (κ:=κ) (Im:=Im) (w:=w) hf hlo) (zgQ (κ:=κ) (Im:=Im) (w:=w) hf hhi) (yaq _) hhb hlb
   refine ⟨_, ?_,.im _ _ (.str _)⟩
   have hsz:(ByteArray.mk l.toArray).size=l.length:=by simp [ByteArray.size]
   simp only [execOp,ho,e,yck,Instr.sliceAt,yay,run_underlying hu,yal,Instr.slice,Option.isSome_none,yds,if_false,hsz,hb,ya5,Sem.run_ite]
   congr 3
   ext1
   simp [ByteArray.data_extract,List.drop_take]
  ·rename_i e hu
   simp only [yah,yac,yam,yab] at hc
   obtain ⟨size,hsz,x',hx,lo',hlo,hi',hhi,rfl⟩:=hc
   have hv:=za2 (κ:=κ) (Im:=Im) (w:=w) hx hf
   have hlo':=zgQ (κ:=κ) (Im:=Im) (w:=w) hf hlo
   have hhi':=zgQ (κ:=κ) (Im:=Im) (w:=w) hf hhi
   simp only [za3] at h
   split at h
   ·rename_i he
    rw [he] at hv
    have ev:=hv.nils_inv
    simp only [yac,yae] at h
    obtain ⟨hh,hhb,ll,hlb,rfl⟩:=h
    obtain ⟨hb,hle1,hle2⟩:=za8 (P:=P) (isSlice:=true) hlo' hhi' (yaq 0) hhb hlb
    refine ⟨.slice none 0 0, ?_,.im _ _ .nils⟩
    have:=zbv none 0 0 ll hh size hu hsz hb
    simp only [execOp,ho,ev,yck,yay,this,yal,ya5]
    have h0:hh=0:=by omega
    have h1:ll=0:=by omega
    simp [h0,h1]
   ·rename_i l he
    rw [he] at hv
    split at h
    case isFalse=>cases h
    rename_i hall
    simp only [yac,yae] at h
    obtain ⟨hh,hhb,ll,hlb,rfl⟩:=h
    rcases hv.lst_inv with ⟨⟨g,ev⟩,rfl⟩|⟨size',b,o',cap,vals,ev,h1,h2,h3,h4,h5,h6⟩
    ·obtain ⟨hb,hle1,hle2⟩:=za8 (P:=P) (isSlice:=true) hlo' hhi' (yaq 0) hhb hlb
     refine ⟨.slice g 0 0, ?_,.im _ _ (by simpa using IR.lnil g)⟩
     have:=zbv g 0 0 ll hh size hu hsz hb
     simp only [execOp,ho,ev,yck,yay,this,yal,ya5]
     have h0:hh=0:=by omega
     have h1:ll=0:=by omega
     simp [h0,h1]
    ·obtain ⟨hb,hle1,hle2⟩:=za8 (P:=P) (isSlice:=true) hlo' hhi' h1 hhb hlb
     have hrun:=zbv (some ⟨b,o',none⟩) l.length cap ll hh size hu hsz hb
     refine ⟨_,by simp only [execOp,ho,ev,yck,yay,hrun,yal,ya5];rfl,.im _ _ ?_⟩
     by_cases hl0:l= []
     ·subst hl0
      have h0:hh=0:=by simp at hle2;exact hle2
      have h1':ll=0:=by omega
      subst h0;subst h1'
      have:=zoi (w:=w) (Im:=Im) h1 h2 h3 h4 h5 h6 0 0 (yaq _) (yaq _)
      simpa using this
     ·have hsz':size'=size:=by
       cases l with
       |nil=>exact absurd rfl hl0
       |cons c l=>rw [←h3 c (by simp),hall c (by simp)]
      subst hsz'
      exact zoi h1 h2 h3 h4 h5 h6 ll hh hle1 hle2
   ·rename_i id n he
    rw [he] at hv
    split at h
    case h_3=>cases h
    case h_2=>
     rename_i e' size' els hent
     split at h
     case isFalse=>cases h
     rename_i hcond
     obtain ⟨rfl,rfl⟩:=hcond
     split at h
     case isFalse=>
      rename_i hpos
      simp only [yac,yae] at h
      obtain ⟨hh,hhb,ll,hlb,rfl⟩:=h
      obtain ⟨g,cap,ev,hk⟩:=hv.row_inv
      obtain ⟨hb,hle1,hle2⟩:=za8 (P:=P) (isSlice:=true) (cap:=cap) hlo' hhi' (by omega) hhb hlb
      have hrun:=zbv g els.length cap ll hh size' hu hsz hb
      exact ⟨_,by simp only [execOp,ho,ev,yck,yay,hrun,yal,ya5];rfl,.im _ _ (.junk _)⟩
     rename_i hpos
     simp only [yac,yae] at h
     obtain ⟨hh,hhb,ll,hlb,rfl⟩:=h
     obtain ⟨g,cap,ev,hk⟩:=hv.row_inv
     obtain ⟨v',xs,hv',hown,_,_,hlen,_,_,_⟩:=hs.ent _ _ hent
     rw [ev] at hk
     rw [hk] at hv';cases hv'
     rcases hown.2 with ⟨q1,q2⟩|⟨g',cap',cur,q1,_,_,hle,hmx,_⟩
     ·omega
     ·simp only [Value.slice.injEq] at q1
      obtain ⟨rfl,_,rfl⟩:=q1
      obtain ⟨hb,hle1,hle2⟩:=za8 (P:=P) (isSlice:=true) hlo' hhi' hle hhb hlb
      have hrun:=zbv (some ⟨g',0,none⟩) els.length cap ll hh size' hu hsz hb
      refine ⟨_,by simp only [execOp,ho,ev,yck,yay,hrun,yal,ya5];rfl, ?_⟩
      by_cases hcl:cap=ll
      ·rw [if_pos hcl]
       exact .sub id els.length size' ll hh g' cap _ _ hk hle1 hle2 (fun h=>by omega) ⟨by omega,rfl⟩ (by omega) rfl
      ·rw [if_neg hcl]
       exact .sub id els.length size' ll hh g' cap _ _ hk hle1 hle2 (fun h=>by simp [VR.add]) ⟨by omega,rfl⟩ (by omega) (by simp [VR.add])
    rename_i e' size' els hent
    split at h
    case isFalse=>cases h
    rename_i hcond
    obtain ⟨rfl,rfl⟩:=hcond
    simp only [yac,yae] at h
    obtain ⟨hh,hhb,ll,hlb,rfl⟩:=h
    obtain ⟨g,cap,ev,hk⟩:=hv.row_inv
    have hir:=zmn hs hent hk
    obtain ⟨v',xs,hv',hown,_,_,hlen,_,_,_⟩:=hs.ent _ _ hent
    rw [ev] at hir hk
    rw [hk] at hv';cases hv'
    rcases (VR.im (κ:=κ) _ _ hir).lst_inv with ⟨⟨gg,ev'⟩,he0⟩|⟨size2,b,o',cap2,vals,ev',h1,h2,h3,h4,h5,h6⟩
    ·simp only [Value.slice.injEq] at ev'
     obtain ⟨rfl,_,rfl⟩:=ev'
     subst he0
     obtain ⟨hb,hle1,hle2⟩:=za8 (P:=P) (isSlice:=true) hlo' hhi' (yaq 0) hhb hlb
     refine ⟨.slice g 0 0, ?_,.im _ _ (by simpa using IR.lnil g)⟩
     have:=zbv g 0 0 ll hh size' hu hsz hb
     simp only [execOp,ho,ev,yck,yay,ycz,this,yal,ya5]
     have h0:hh=0:=by omega
     have h1:ll=0:=by omega
     simp [h0,h1]
    ·simp only [Value.slice.injEq] at ev'
     obtain ⟨rfl,_,rfl⟩:=ev'
     obtain ⟨hb,hle1,hle2⟩:=za8 (P:=P) (isSlice:=true) hlo' hhi' h1 hhb hlb
     have hrun:=zbv (some ⟨b,o',none⟩) els.length cap ll hh size' hu hsz hb
     refine ⟨_,by simp only [execOp,ho,ev,yck,yay,hrun,yal,ya5];rfl,.im _ _ ?_⟩
     by_cases hl0:els= []
     ·subst hl0
      have h0:hh=0:=by simp at hle2;exact hle2
      have h1':ll=0:=by omega
      subst h0;subst h1'
      have:=zoi (w:=w) (Im:=Im) h1 h2 h3 h4 h5 h6 0 0 (yaq _) (yaq _)
      simpa using this
     ·have hsz':size2=size':=by
       obtain ⟨c,hc⟩:=ydc _ hl0
       rw [←h3 c hc,hlen c hc]
      subst hsz'
      exact zoi h1 h2 h3 h4 h5 h6 ll hh hle1 hle2
   ·rename_i id n sz l0 h0 he
    rw [he] at hv
    split at h
    case isFalse=>cases h
    rename_i hcond
    subst hcond
    simp only [yac,yae] at h
    obtain ⟨hh,hhb,ll,hlb,rfl⟩:=h
    obtain ⟨b,cap,ad,c,ev,hk,k1,k2,k3,k4,k7,k5,k6⟩:=hv.sub_inv'
    obtain ⟨hb,hle1,hle2⟩:=za8 (P:=P) (isSlice:=true) hlo' hhi' k4 hhb hlb
    have hrun:=zbv (some ad) (h0-l0) c ll hh sz hu hsz hb
    refine ⟨_,by simp only [execOp,ho,ev,yck,yay,hrun,yal,ya5];rfl, ?_⟩
    rw [show hh-ll=l0+hh-(l0+ll) by omega]
    by_cases hcl:c=ll
    ·rw [if_pos hcl]
     exact .sub id n sz (l0+ll) (l0+hh) b cap _ _ hk (by omega) (by omega) (fun h=>by omega) ⟨by omega,by omega⟩ (by omega) k6
    ·rw [if_neg hcl]
     refine .sub id n sz (l0+ll) (l0+hh) b cap _ _ hk (by omega) (by omega) (fun h=> ?_) ⟨by omega,by omega⟩ (by omega) (by cases ad;simp only at k6;subst k6;simp [VR.add])
     rw [k3 (by omega),ya6];exact VR.add
   ·rename_i id off n sz he
    rw [he] at hv
    split at h
    case isFalse=>cases h
    rename_i hcond
    subst hcond
    simp only [yac,yae] at h
    obtain ⟨hh,hhb,ll,hlb,rfl⟩:=h
    obtain ⟨b,ad,c,ev,hk,k3,k4,k5,k6⟩:=hv.asl_inv
    obtain ⟨hb,hle1,hle2⟩:=za8 (P:=P) (isSlice:=true) hlo' hhi' k4 hhb hlb
    have hrun:=zbv (some ad) n c ll hh sz hu hsz hb
    refine ⟨_,by simp only [execOp,ho,ev,yck,yay,hrun,yal,ya5];rfl, ?_⟩
    by_cases hcl:c=ll
    ·rw [if_pos hcl]
     exact .asl id (off+ll*sz) (hh-ll) sz b _ _ hk (fun h=>by omega) (by omega) (by omega) k6
    ·rw [if_neg hcl]
     refine .asl id (off+ll*sz) (hh-ll) sz b _ _ hk (fun h=> ?_) (by omega) (by omega) (by cases ad;simp only at k6;subst k6;simp [VR.add])
     rw [k3 (by omega)];exact VR.add
   ·cases h
  ·cases hc
 case h_19 t x i ho => -- fieldAddr
  split at hc
  case h_2=>cases hc
  rename_i fs hu
  simp only [yah,yac,yam] at hc
  obtain ⟨fd,hfd,size,hsz,hc⟩:=hc
  split at hc
  case isTrue=>cases hc
  rename_i hne
  simp only [yac,yab] at hc
  obtain ⟨x',hx,rfl⟩:=hc
  have hv:=za2 (κ:=κ) (Im:=Im) (w:=w) hx hf
  have key:∀(b off:Nat),a.eval x=.pointer (some ⟨b,off,none⟩)→(execOp a.eval o).run P w=.ok (.value (.pointer (some ⟨b,off+fd.offset,none⟩))) w:=by
   intro b off he
   simp [execOp,ho,he,Instr.fieldAt,run_underlying hu,hfd,Instr.sureAddr,fieldPlace,run_sizeOf? hsz,hne,VR.add]
  simp only [za3] at h
  split at h
  ·rename_i id off he
   simp only [yab] at h;subst h
   rw [he] at hv
   obtain ⟨b,hb,hk⟩:=hv.ptr_inv
   exact ⟨_,key _ _ hb,.ptr _ _ _ hk⟩
  ·rename_i l he
   split at h
   case isFalse=>cases h
   simp only [yab] at h;subst h
   rw [he] at hv
   obtain ⟨b,o',vals,hb,h1,h2,h3⟩:=hv.rptr_inv
   exact ⟨_,key _ _ hb,.im _ _ (zlh h1 h2 h3 _)⟩
  ·rename_i he
   simp only [yab] at h;subst h
   rw [he] at hv
   obtain ⟨b,cap,hb,hk⟩:=hv.rowp_inv
   refine ⟨_,key _ _ hb, ?_⟩
   rw [ydt]
   exact .rowp _ _ _ _ _ _ _ hk
  ·rename_i g o' he
   simp only [yab] at h;subst h
   rw [he] at hv
   exact ⟨_,key _ _ hv.gp_inv,.im _ _ (.gp _ _)⟩
  ·cases h
 case h_20 t x i ho => -- field
  split at hc
  case h_2=>cases hc
  rename_i fs hu
  simp only [yah,yac,yam,yab] at hc
  obtain ⟨fd,hfd,size,hsz,ag,ha,x',hx,rfl⟩:=hc
  have hv:=za2 (κ:=κ) (Im:=Im) (w:=w) hx hf
  simp only [za3] at h
  split at h
  case h_2=>cases h
  rename_i l he
  split at h
  case isFalse=>cases h
  rw [he] at hv
  obtain ⟨vs,ev,hl,hone⟩:=hv.agg_inv
  obtain ⟨v,h1,h2⟩:=zzH ha hsz hl hone h
  exact ⟨v,by simp [execOp,ho,ev,Instr.field,run_underlying hu,hfd,asAgg,h1],h2⟩
 case h_21 t x i ho => -- indexAddr
  split at hc
  ·rename_i e hu
   simp only [yah,yac,yam,yab] at hc
   obtain ⟨size,hsz,x',hx,i',hi,rfl⟩:=hc
   have hv:=za2 (κ:=κ) (Im:=Im) (w:=w) hx hf
   have hvi:=za2 (κ:=κ) (Im:=Im) (w:=w) hi hf
   have key:∀(b off:Nat) k (n len cap:Nat),a.eval x=.slice (some ⟨b,off,none⟩) len cap→a.eval i=.int k (n:Int)→n<len→(execOp a.eval o).run P w=.ok (.value (.pointer (some ⟨b,off+n*size,none⟩))) w:=by
    intro b off k n len cap he hei hlt
    simp [execOp,ho,he,hei,Instr.indexAt,asIntOf,run_underlying hu,run_sizeOf? hsz,hlt,VR.add]
   simp only [za3] at h
   split at h
   ·rename_i n l hn he
    obtain ⟨k,hk⟩:=zcZ hvi hn
    rw [he] at hv
    simp only [yac] at h
    obtain ⟨c,hcl,h⟩:=h
    split at h
    case isFalse=>cases h
    rename_i hlen
    simp only [yab] at h;subst h
    obtain ⟨hlt,rfl⟩:=yaa.1 hcl
    rcases hv.lst_inv with ⟨_,rfl⟩|⟨size',b,o',cap,vals,ev,h1,h2,h3,h4,h5,h6⟩
    ·simp at hlt
    ·have hsz':size'=size:=by rw [←h3 _ (yat hlt),hlen]
     subst hsz'
     refine ⟨_,key _ _ _ _ _ _ ev hk hlt,.im _ _ (.rptr _ _ _ (vals n) (fun c hc=>h4 _ (yat hlt) c hc) (fun j hj=> ?_) (fun j hj=>h6 n j hlt hj))⟩
     have:=h5 n j hlt (by omega)
     rw [ydt];exact this
   ·rename_i n id m hn he
    obtain ⟨k,hk⟩:=zcZ hvi hn
    rw [he] at hv
    split at h
    case h_2=>cases h
    rename_i e' size' els im hent
    split at h
    case isFalse=>cases h
    rename_i hcond
    obtain ⟨rfl,rfl,hlt⟩:=hcond
    simp only [yab] at h;subst h
    obtain ⟨g,cap,ev,hkk⟩:=hv.row_inv
    obtain ⟨v',xs,hv',hown,_⟩:=hs.ent _ _ hent
    rw [ev] at hkk
    rw [hkk] at hv';cases hv'
    rcases hown.2 with ⟨h1,h2⟩|⟨b,cap',cur,h1,_⟩
    ·omega
    ·simp only [Value.slice.injEq] at h1
     obtain ⟨rfl,_,rfl⟩:=h1
     have:=key _ _ _ _ _ _ ev hk hlt
     rw [ybe] at this
     exact ⟨_,this,by have:=VR.rowp (κ:=κ) (Im:=Im) (w:=w) id els.length size' n 0 b cap hkk;simpa using this⟩
   ·rename_i n id m sz l0 h0 hn he
    obtain ⟨k,hk⟩:=zcZ hvi hn
    rw [he] at hv
    split at h
    case isFalse=>cases h
    rename_i hcond
    obtain ⟨rfl,hlt⟩:=hcond
    simp only [yab] at h;subst h
    obtain ⟨b,cap,ad,c,ev,hkk,k1,k2,k3,k4,_⟩:=hv.sub_inv
    rw [k3 (by omega)] at ev
    have:=key _ _ _ _ _ _ ev hk (by omega)
    rw [←ya6] at this
    exact ⟨_,this,by have:=VR.rowp (κ:=κ) (Im:=Im) (w:=w) id m sz (l0+n) 0 b cap hkk;simpa using this⟩
   ·rename_i n id off m sz hn he
    obtain ⟨k,hk⟩:=zcZ hvi hn
    rw [he] at hv
    split at h
    case isFalse=>cases h
    rename_i hcond
    obtain ⟨rfl,hlt⟩:=hcond
    simp only [yab] at h;subst h
    obtain ⟨b,ad,c,ev,hkk,k3,k4,_⟩:=hv.asl_inv
    rw [k3 (by omega)] at ev
    exact ⟨_,key _ _ _ _ _ _ ev hk hlt,.ptr _ _ _ hkk⟩
   ·cases h
  ·rename_i m e hu
   simp only [yah,yac,yam,yab] at hc
   obtain ⟨size,hsz,x',hx,i',hi,rfl⟩:=hc
   have hv:=za2 (κ:=κ) (Im:=Im) (w:=w) hx hf
   have hvi:=za2 (κ:=κ) (Im:=Im) (w:=w) hi hf
   have key:∀(b off:Nat) k (n:Nat),a.eval x=.pointer (some ⟨b,off,none⟩)→a.eval i=.int k (n:Int)→n<m→(execOp a.eval o).run P w=.ok (.value (.pointer (some ⟨b,off+n*size,none⟩))) w:=by
    intro b off k n he hei hlt
    simp [execOp,ho,he,hei,Instr.indexAt,Instr.sureAddr,asIntOf,run_underlying hu,run_sizeOf? hsz,hlt,VR.add]
   simp only [za3] at h
   split at h
   ·rename_i n id off hn he
    obtain ⟨k,hk⟩:=zcZ hvi hn
    split at h
    case isFalse=>cases h
    rename_i hlt
    simp only [yab] at h;subst h
    rw [he] at hv
    obtain ⟨b,hb,hkk⟩:=hv.ptr_inv
    exact ⟨_,key _ _ _ _ hb hk hlt,.ptr _ _ _ hkk⟩
   ·rename_i n l hn he
    obtain ⟨k,hk⟩:=zcZ hvi hn
    split at h
    case isFalse=>cases h
    rename_i hlt
    simp only [yab] at h;subst h
    rw [he] at hv
    obtain ⟨b,o',vals,hb,h1,h2,h3⟩:=hv.rptr_inv
    exact ⟨_,key _ _ _ _ hb hk hlt.1,.im _ _ (zlh h1 h2 h3 _)⟩
   ·rename_i n id n' s' k' o' hn he
    obtain ⟨k,hk⟩:=zcZ hvi hn
    split at h
    case isFalse=>cases h
    rename_i hlt
    simp only [yab] at h;subst h
    rw [he] at hv
    obtain ⟨b,cap,hb,hkk⟩:=hv.rowp_inv
    refine ⟨_,key _ _ _ _ hb hk hlt, ?_⟩
    rw [ydt]
    exact .rowp _ _ _ _ _ _ _ hkk
   ·rename_i n g o' hn he
    obtain ⟨k,hk⟩:=zcZ hvi hn
    split at h
    case isFalse=>cases h
    rename_i hlt
    simp only [yab] at h;subst h
    rw [he] at hv
    exact ⟨_,key _ _ _ _ hv.gp_inv hk hlt,.im _ _ (.gp _ _)⟩
   ·cases h
  ·cases hc
 case h_22 t x i ho => -- index
  split at hc
  ·rename_i hu
   simp only [yah,yac,yam,yab] at hc
   obtain ⟨x',hx,i',hi,rfl⟩:=hc
   have hv:=za2 (κ:=κ) (Im:=Im) (w:=w) hx hf
   have hvi:=za2 (κ:=κ) (Im:=Im) (w:=w) hi hf
   simp only [za3] at h
   split at h
   case h_2=>cases h
   rename_i n l hn he
   obtain ⟨k,hk⟩:=zcZ hvi hn
   rw [he] at hv
   have ev:=hv.str_inv
   simp only [yae] at h
   obtain ⟨c,hcl,rfl⟩:=h
   obtain ⟨hlt,rfl⟩:=yaa.1 hcl
   refine ⟨_, ?_,.im _ _ (.int _ _)⟩
   have hb:(ByteArray.mk l.toArray)[n]? =some l[n]:=by
    show (if h:n<(ByteArray.mk l.toArray).size then some _ else none)=_
    rw [dif_pos (by simpa [ByteArray.size] using hlt)]
    rfl
   simp [execOp,ho,ev,hk,Instr.index,asIntOf,run_underlying hu,hb]
  ·rename_i m e hu
   simp only [yah,yac,yam,yab] at hc
   obtain ⟨size,hsz,ag,ha,x',hx,i',hi,rfl⟩:=hc
   have hv:=za2 (κ:=κ) (Im:=Im) (w:=w) hx hf
   have hvi:=za2 (κ:=κ) (Im:=Im) (w:=w) hi hf
   simp only [za3] at h
   split at h
   case h_2=>cases h
   rename_i n l hn he
   obtain ⟨k,hk⟩:=zcZ hvi hn
   split at h
   case isFalse=>cases h
   rename_i hlt
   rw [he] at hv
   obtain ⟨vs,ev,hl,hone⟩:=hv.agg_inv
   obtain ⟨v,h1,h2⟩:=zzH ha hsz hl hone h
   exact ⟨v,by simp [execOp,ho,ev,hk,Instr.index,asIntOf,run_underlying hu,hlt.1,run_sizeOf? hsz,h1],h2⟩
  ·cases hc
 case h_23 x i ho => -- extract
  simp only [yah,yac,yam,yab] at hc
  obtain ⟨x',hx,rfl⟩:=hc
  have hv:=za2 (κ:=κ) (Im:=Im) (w:=w) hx hf
  simp only [za3] at h
  split at h
  case h_2=>cases h
  rename_i l he
  rw [he] at hv
  obtain ⟨vs,ev,hl⟩:=hv.tup_inv
  obtain ⟨u,hu,hur⟩:=hl.get? h
  exact ⟨u,by simp [execOp,ho,ev,Instr.extract,hu],hur⟩
 case h_24 c ho => -- call
  split at hc
  ·split at hc
   ·split at hc
    ·simp only [yah,yac,yam,yab] at hc
     obtain ⟨_,_,rfl⟩:=hc;simp [za3] at h
    ·cases hc
   ·cases hc
  ·simp only [yah,yac,yam,yab] at hc
   obtain ⟨_,_,rfl⟩:=hc;simp [za3] at h
  ·rename_i b hb
   simp only [yah,yac] at hc
   obtain ⟨args,hargs,hc⟩:=hc
   exact zye ho hb hargs hc hs hf h
  ·cases hc
 case h_25=>cases hc
end
end Go.Abs
end
section
namespace Go.Abs
open Go.RowKit
variable {G:Globs}
section
variable {P:Program} {base:Nat} {κ κ':Key} {Im Im':Addr→Prop} {w w':World} {σ:zac}
theorem zuk {b:Nat} {e:TypeId} {size:Nat} {v:Value} {n:Nat} {xs:List Value} (h:w.ownsRow b e size v n xs) (hh:∀g,v.ownBlock=some g→w'.heap[g]? =w.heap[g]?):w'.ownsRow b e size v n xs:=by
 refine ⟨h.1, ?_⟩
 rcases h.2 with h0|⟨g,cap,cur,hv,hg,hgg,rest⟩
 ·exact .inl h0
 ·exact .inr ⟨g,cap,cur,hv,hg,by rw [hh g (by rw [hv];rfl)];exact hgg,rest⟩
theorem EOK.keep {id:Nat} {e:Entry} (h:EOK κ Im base w id e) (hκ:∀i n v,κ i n=some v→κ' i n=some v) (hIm:∀a,Im a→Im' a) (hc:∀a,Im a→w'.cell? a=w.cell? a)
  (hh:∀b,e.block κ id=some b→w'.heap[b]? =w.heap[b]?) (hn:∀b,e.block κ id=some b→∀a,a.block=b→Im' a→Im a)
  (hit:e.isItr=true→∀(c:Nat) (es:Array MapEntry) (clock:Nat),w.heap[c]? =some (Obj.map es clock)→w'.heap[c]? =w.heap[c]?):EOK κ' Im' base w' id e:=by
 cases e with
 |dead _=>trivial
 |var t cells=>
  obtain ⟨b,cs,hk,hb,hheap,hv,hone,him⟩:=h
  have hbl:(Entry.var t cells).block κ id=some b:=by simp [Entry.block,hk]
  exact ⟨b,cs,hκ _ _ _ hk,hb,(hh b hbl).trans hheap,⟨hv.1,fun j h h'=>(hv.2 j h h').mono hκ hIm hc⟩,hone,fun a ha he=>him a (hn b hbl a he ha) he⟩
 |row ty size els im=>
  obtain ⟨v,xs,hk,hown,hv,hsz,hlen,hone,hir,him⟩:=h
  have hbl:(Entry.row ty size els im).block κ id=v.ownBlock:=by simp [Entry.block,hk]
  refine ⟨v,xs,hκ _ _ _ hk,zuk hown (fun g hg=>hh g (by rw [hbl,hg])),⟨hv.1,fun j h h'=>(hv.2 j h h').mono hκ hIm hc⟩,hsz,hlen,hone,fun hi=>⟨(hir hi).1,fun j h h'=>((hir hi).2 j h h').mono hIm hc⟩,fun g hg=> ?_⟩
  obtain ⟨h1,h2⟩:=him g hg
  exact ⟨fun a ha he=>h1 a (hn g (by rw [hbl,hg]) a he ha) he,fun hi o ho=>hIm _ (h2 hi o ho)⟩
 |mp kv=>
  obtain ⟨b,es,clock,hk,hb,hheap,hsz,hv,him,hbo⟩:=h
  have hbl:(Entry.mp kv).block κ id=some b:=by simp [Entry.block,hk]
  exact ⟨b,es,clock,hκ _ _ _ hk,hb,(hh b hbl).trans hheap,hsz,fun j h h'=>⟨(hv j h h').1.mono hIm hc,(hv j h h').2.mono hκ hIm hc⟩,fun a ha he=>him a (hn b hbl a he ha) he,hbo⟩
 |itr mid n left last=>
  obtain ⟨b,hk,hb,him,h⟩:=h
  have hbl:(Entry.itr mid n left last).block κ id=some b:=by simp [Entry.block,hk]
  refine ⟨b,hκ _ _ _ hk,hb,fun a ha he=>him a (hn b hbl a he ha) he, ?_⟩
  cases mid with
  |none=>exact ⟨(hh b hbl).trans h.1,h.2⟩
  |some m=>
   obtain ⟨c,es,clock,since,seen,c0,h1,h2,h3,h4⟩:=h
   exact ⟨c,es,clock,since,seen,c0,hκ _ _ _ h1,(hit rfl c es clock h2).trans h2,(hh b hbl).trans h3,h4⟩
 |obj o=>
  obtain ⟨b,hk,hb,him,h,ho⟩:=h
  have hbl:(Entry.obj o).block κ id=some b:=by simp [Entry.block,hk]
  exact ⟨b,hκ _ _ _ hk,hb,fun a ha he=>him a (hn b hbl a he ha) he,(hh b hbl).trans h,ho⟩
theorem EOK.block_ge {id:Nat} {e:Entry} (h:EOK κ Im base w id e) {b:Nat} (hb:e.block κ id=some b):base≤b∧b<w.heap.size:=by
 cases e with
 |dead _=>simp [Entry.block] at hb
 |var t cells=>
  obtain ⟨b',cs,hk,hbb,hheap,_⟩:=h
  simp [Entry.block,hk] at hb;subst hb
  exact ⟨hbb,(ya7.1 hheap).1⟩
 |row ty size els im=>
  obtain ⟨v,xs,hk,hown,_⟩:=h
  simp [Entry.block,hk] at hb
  exact hown.lt _ hb
 |mp kv=>
  obtain ⟨b',es,clock,hk,hbb,hheap,_⟩:=h
  simp [Entry.block,hk] at hb;subst hb
  exact ⟨hbb,(ya7.1 hheap).1⟩
 |itr mid n left last=>
  obtain ⟨b',hk,hbb,_,h⟩:=h
  simp [Entry.block,hk] at hb;subst hb
  refine ⟨hbb, ?_⟩
  cases mid with
  |none=>exact (ya7.1 h.1).1
  |some m=>
   obtain ⟨c,es,clock,since,seen,c0,h1,h2,h3,h4⟩:=h
   exact (ya7.1 h3).1
 |obj o=>
  obtain ⟨b',hk,hbb,_,h,_⟩:=h
  simp [Entry.block,hk] at hb;subst hb
  exact ⟨hbb,(ya7.1 h).1⟩
theorem zdS {id:Nat} {e:Entry} {b:Nat} (h:EOK κ Im base w id e) (hκ:∀i n v,κ i n=some v→κ' i n=some v):e.block κ' id=e.block κ id:=by
 cases e with
 |dead _=>rfl
 |var t cells=>
  obtain ⟨b',cs,hk,_⟩:=h
  simp [Entry.block,hk,hκ _ _ _ hk]
 |row ty size els im=>
  obtain ⟨v,xs,hk,_⟩:=h
  simp [Entry.block,hk,hκ _ _ _ hk]
 |mp kv=>
  obtain ⟨b',es,clock,hk,_⟩:=h
  simp [Entry.block,hk,hκ _ _ _ hk]
 |itr mid n left last=>
  obtain ⟨b',hk,_⟩:=h
  simp [Entry.block,hk,hκ _ _ _ hk]
 |obj o=>
  obtain ⟨b',hk,_⟩:=h
  simp [Entry.block,hk,hκ _ _ _ hk]
theorem SRel.push (hs:SRel base κ Im σ w) (e:Entry) (hκ:∀i n v,κ i n=some v→κ' i n=some v) (hκ':∀i n v,κ' i n=some v→κ i n=some v∨(i=σ.length∧n≤e.ver)) (hIm:∀a,Im a→Im' a)
  (hn:∀a,Im' a→Im a∨(w.heap.size≤a.block∧a.block<w'.heap.size∧a.spot=none)) (hsize:w.heap.size≤w'.heap.size) (hh:∀k,k<w.heap.size→w'.heap[k]? =w.heap[k]?)
  (he:EOK κ' Im' base w' σ.length e) (hb:∀b,e.block κ' σ.length=some b→w.heap.size≤b):SRel base κ' Im' (σ++ [e]) w':=by
 have hc:∀a,Im a→w'.cell? a=w.cell? a:=fun a ha=>ya8 (hh _ (hs.imlt a ha).1)
 have hold:∀id e',σ[id]? =some e'→EOK κ' Im' base w' id e':=fun id e' h0=>
  (hs.ent _ _ h0).keep hκ hIm hc (fun b hb=>hh b ((hs.ent _ _ h0).block_ge hb).2) (fun b hb a ha hi=>(hn a hi).resolve_right (fun hx=>by have:=((hs.ent _ _ h0).block_ge hb).2;omega)) (fun _ c es clock hc=>hh c (ya7.1 hc).1)
 refine ⟨yca hs.hb hsize,fun id n v h=> ?_,fun id e' h0=> ?_,fun i j e1 e2 b hij h1 h2 hb1 hb2=> ?_,fun a ha=> ?_,hs.glob.mono (yaq _) hIm hc (fun k hk=>hh k (yb9 hk hs.hb))⟩
 ·rcases hκ' _ _ _ h with hx|⟨rfl,hx⟩
  ·obtain ⟨e',h1,h2⟩:=hs.dom _ _ _ hx
   exact ⟨e',by rw [yar (yaa.1 h1).1];exact h1,h2⟩
  ·exact ⟨e,by simp,hx⟩
 ·rw [List.getElem?_append] at h0
  split at h0
  ·exact hold _ _ h0
  ·rename_i hge
   have:id=σ.length:=by
    have:=(yaa.1 h0).1;simp at this;omega
   subst this
   simp at h0;subst h0;exact he
 ·rw [List.getElem?_append] at h1 h2
  split at h1<;>split at h2
  ·have k1:=zdS (b:=b) (hs.ent _ _ h1) hκ
   have k2:=zdS (b:=b) (hs.ent _ _ h2) hκ
   exact hs.sep i j e1 e2 b hij h1 h2 (k1▸hb1) (k2▸hb2)
  ·have hj:j=σ.length:=by have:=(yaa.1 h2).1;simp at this;omega
   subst hj
   simp at h2;subst h2
   have k1:=zdS (b:=b) (hs.ent _ _ h1) hκ
   have:=((hs.ent _ _ h1).block_ge (k1▸hb1)).2
   have:=hb b hb2
   omega
  ·have hi:i=σ.length:=by have:=(yaa.1 h1).1;simp at this;omega
   subst hi
   simp at h1;subst h1
   have k2:=zdS (b:=b) (hs.ent _ _ h2) hκ
   have:=((hs.ent _ _ h2).block_ge (k2▸hb2)).2
   have:=hb b hb1
   omega
  ·have hi:i=σ.length:=by have:=(yaa.1 h1).1;simp at this;omega
   have hj:j=σ.length:=by have:=(yaa.1 h2).1;simp at this;omega
   omega
 ·rcases hn a ha with h|h
  ·have:=hs.imlt a h;exact ⟨by omega,this.2⟩
  ·exact ⟨h.2.1,h.2.2⟩
theorem SRel.set (hs:SRel base κ Im σ w) {id:Nat} {old:Entry} (hold:σ[id]? =some old) (e:Entry) (hκ:∀i n v,κ i n=some v→κ' i n=some v) (hκ':∀i n v,κ' i n=some v→κ i n=some v∨(i=id∧n≤e.ver)) (hver:old.ver≤e.ver) (hIm:∀a,Im a→Im' a)
  (hcell:∀a,Im a→w'.cell? a=w.cell? a)
  (hn:∀a,Im' a→Im a∨((e.block κ' id=some a.block)∧a.block<w'.heap.size∧a.spot=none)) (hsize:w.heap.size≤w'.heap.size) (hh:∀k,k<w.heap.size→old.block κ id≠some k→w'.heap[k]? =w.heap[k]?)
  (he:EOK κ' Im' base w' id e) (hb:∀b,e.block κ' id=some b→w.heap.size≤b∨old.block κ id=some b) (hmp:(∃kv,old=.mp kv)→zdF σ=true:=by rintro ⟨_,h⟩;cases h):SRel base κ' Im' (σ.set id e) w':=by
 have hid:id<σ.length:=(yaa.1 hold).1
 have hold':∀j e',j≠id→σ[j]? =some e'→EOK κ' Im' base w' j e'∧∀b,e'.block κ j=some b→e.block κ' id≠some b:=fun j e' hj h0=>by
  have hne:∀b,e'.block κ j=some b→old.block κ id≠some b:=fun b hb=>hs.sep j id e' old b hj h0 hold hb
  have hlt:∀b,e'.block κ j=some b→b<w.heap.size:=fun b hb=>((hs.ent _ _ h0).block_ge hb).2
  have hne':∀b,e'.block κ j=some b→e.block κ' id≠some b:=fun b hb' hx=>by
   rcases hb b hx with h|h
   ·have:=hlt b hb';omega
   ·exact hne b hb' h
  refine ⟨(hs.ent _ _ h0).keep hκ hIm hcell (fun b hb=>hh b (hlt b hb) (hne b hb)) (fun b hb a ha hi=>(hn a hi).resolve_right (fun hx=>hne' b hb (by rw [←ha];exact hx.1))) (fun hi c es clock hc=>hh c (ya7.1 hc).1 fun ho=> ?_),hne'⟩
  have hok:=hs.ent _ _ hold
  cases old with
  |dead _=>simp [Entry.block] at ho
  |var t cells=>
   obtain ⟨b',cs,hk,_,hheap,_⟩:=hok
   simp [Entry.block,hk] at ho;subst ho
   rw [hc] at hheap;cases hheap
  |row ty size els im=>
   obtain ⟨v,xs,hk,hown,_⟩:=hok
   simp [Entry.block,hk] at ho
   rcases hown.2 with ⟨h1,_⟩|⟨g,cap,cur,h1,_,h3,_⟩
   ·rw [h1] at ho;simp [Value.ownBlock] at ho
   ·rw [h1] at ho;simp [Value.ownBlock] at ho;subst ho
    rw [hc] at h3;cases h3
  |mp kv=>
   have:=hmp ⟨kv,rfl⟩
   simp only [zdF,yaz] at this
   have:=this _ (yaf h0)
   rw [hi] at this;cases this
  |itr mid n left last=>
   obtain ⟨b',hk,_,_,h⟩:=hok
   simp [Entry.block,hk] at ho;subst ho
   cases mid with
   |none=>rw [hc] at h;cases h.1
   |some m=>
    obtain ⟨c',es',clock',since,seen,c0,h1,h2,h3,h4⟩:=h
    rw [hc] at h3;cases h3
  |obj o=>
   obtain ⟨b',hk,_,_,h,ho2⟩:=hok
   simp [Entry.block,hk] at ho;subst ho
   rw [hc] at h;cases h
   exact ho2 _ _ rfl
 refine ⟨yca hs.hb hsize,fun i n v h=> ?_,fun i e' h0=> ?_,fun i j e1 e2 b hij h1 h2 hb1 hb2=> ?_,fun a ha=> ?_,hs.glob.mono (yaq _) hIm hcell (fun k hk=>hh k (yb9 hk hs.hb) (fun he=>by have:=((hs.ent _ _ hold).block_ge he).1;omega))⟩
 ·rcases hκ' _ _ _ h with hx|⟨rfl,hx⟩
  ·obtain ⟨e',h1,h2⟩:=hs.dom _ _ _ hx
   by_cases hi:i=id
   ·subst hi
    rw [hold] at h1;cases h1
    exact ⟨e,by rw [ybj hid],by omega⟩
   ·exact ⟨e',by rw [yba (Ne.symm hi)];exact h1,h2⟩
  ·exact ⟨e,by rw [ybj hid],hx⟩
 ·by_cases hi:i=id
  ·subst hi
   rw [ybj hid] at h0
   simp at h0;subst h0;exact he
  ·rw [yba (Ne.symm hi)] at h0
   exact (hold' _ _ hi h0).1
 ·by_cases hi:i=id<;>by_cases hj:j=id
  ·omega
  ·subst hi
   rw [ybj hid] at h1
   rw [yba (Ne.symm hj)] at h2
   simp at h1;subst h1
   have k2:=zdS (b:=b) (hs.ent _ _ h2) hκ
   exact (hold' _ _ hj h2).2 b (k2▸hb2) hb1
  ·subst hj
   rw [ybj hid] at h2
   rw [yba (Ne.symm hi)] at h1
   simp at h2;subst h2
   have k1:=zdS (b:=b) (hs.ent _ _ h1) hκ
   exact (hold' _ _ hi h1).2 b (k1▸hb1) hb2
  ·rw [yba (Ne.symm hi)] at h1
   rw [yba (Ne.symm hj)] at h2
   have k1:=zdS (b:=b) (hs.ent _ _ h1) hκ
   have k2:=zdS (b:=b) (hs.ent _ _ h2) hκ
   exact hs.sep i j e1 e2 b hij h1 h2 (k1▸hb1) (k2▸hb2)
 ·rcases hn a ha with h|h
  ·have:=hs.imlt a h;exact ⟨by omega,this.2⟩
  ·exact h.2
theorem SRel.world (hs:SRel base κ Im σ w) (hIm:∀a,Im a→Im' a) (hn:∀a,Im' a→Im a∨(w.heap.size≤a.block∧a.block<w'.heap.size∧a.spot=none)) (hsize:w.heap.size≤w'.heap.size)
  (hh:∀k,k<w.heap.size→w'.heap[k]? =w.heap[k]?):SRel base κ Im' σ w':=by
 have hc:∀a,Im a→w'.cell? a=w.cell? a:=fun a ha=>ya8 (hh _ (hs.imlt a ha).1)
 refine ⟨yca hs.hb hsize,hs.dom,fun id e h0=> ?_,hs.sep,fun a ha=> ?_,hs.glob.mono (yaq _) hIm hc (fun k hk=>hh k (yb9 hk hs.hb))⟩
 ·exact (hs.ent _ _ h0).keep (fun _ _ _ h=>h) hIm hc (fun b hb=>hh b ((hs.ent _ _ h0).block_ge hb).2) (fun b hb a ha hi=>(hn a hi).resolve_right (fun hx=>by have:=((hs.ent _ _ h0).block_ge hb).2;omega)) (fun _ c es clock hc=>hh c (ya7.1 hc).1)
 ·rcases hn a ha with h|h
  ·have:=hs.imlt a h;exact ⟨by omega,this.2⟩
  ·exact ⟨h.2.1,h.2.2⟩
end
end Go.Abs
end
section
namespace Go.Abs
open Go.RowKit
variable {G:Globs}
section
variable {P:Program} {base:Nat} {κ:Key} {Im:Addr→Prop} {w:World} {σ:zac}
def zeB [Globs] (P:Program) (base:Nat) (κ:Key) (Im:Addr→Prop) (w:World) (o:Oper) (a:Act) (K:AV→zac→Prop):Prop:=
 ∃v w' κ' Im' r σ',((execOp a.eval o).run P w=.ok (.value v) w'∨((execOp a.eval o).run P w=.ok .skip w'∧v=undef))∧K r σ'∧VR κ' Im' w' r v∧SRel base κ' Im' σ' w'∧Grow base κ Im w κ' Im' w'
def Key.with (κ:Key) (id n:Nat) (v:Value):Key:=fun i m=>if i=id∧m=n then some v else κ i m
theorem Key.with_same (κ:Key) (id n:Nat) (v:Value):κ.with id n v id n=some v:=by simp [Key.with]
theorem Key.with_new {κ:Key} {id:Nat} (h:∀m v,κ id m=some v→False) (n:Nat) (v:Value):∀i m u,κ i m=some u→κ.with id n v i m=some u:=by
 intro i m u hu
 unfold Key.with
 split
 ·rename_i hc;obtain ⟨rfl,rfl⟩:=hc;exact (h _ _ hu).elim
 ·exact hu
theorem z0y {cells:List AV} {cs:Array Value} (t:TypeId) (hs:SRel base κ Im σ w) (hv:VRL κ Im w cells cs.toList) (hone:∀c∈cells,c.one=true):
  ∃κ',VR κ' Im (w.alloc (.cells cs t)) (.ptr σ.length 0) (.pointer (some ⟨w.heap.size,0,none⟩))∧SRel base κ' Im (σ++ [.var t cells]) (w.alloc (.cells cs t))∧Grow base κ Im w κ' Im (w.alloc (.cells cs t)):=by
 have hfree:∀m v,κ σ.length m=some v→False:=fun m v h=>by obtain ⟨e,h1,_⟩:=hs.dom _ _ _ h;simp at h1
 have hκ:=Key.with_new hfree 0 (.pointer (some ⟨w.heap.size,0,none⟩))
 have hh:∀k,k<w.heap.size→(w.alloc (.cells cs t)).heap[k]? =w.heap[k]? :=fun k hk=>Below.heap_alloc w _ k hk
 have hc:∀a,Im a→(w.alloc (.cells cs t)).cell? a=w.cell? a:=fun a ha=>ya8 (hh _ (hs.imlt a ha).1)
 refine ⟨κ.with σ.length 0 (.pointer (some ⟨w.heap.size,0,none⟩)),.ptr _ _ _ (Key.with_same _ _ _ _), ?_,⟨hκ,fun _ h=>h,hc,fun _ h=> .inl h,(Below.refl _ _).alloc hs.hb _⟩⟩
 refine hs.push (.var t cells) hκ (fun i n v h=> ?_) (fun _ h=>h) (fun _ h=> .inl h) (by simp) hh ?_ (fun b hb=> ?_)
 ·unfold Key.with at h
  split at h
  ·rename_i hc;exact .inr ⟨hc.1,by rw [hc.2];exact ydk _⟩
  ·exact .inl h
 ·exact ⟨w.heap.size,cs,Key.with_same _ _ _ _,hs.hb,heap_alloc_new w _,⟨hv.1,fun j h h'=>(hv.2 j h h').mono hκ (fun _ h=>h) hc⟩,hone,fun a ha he=>by have:=(hs.imlt a ha).1;omega⟩
 ·simp [Entry.block,Key.with] at hb;omega
theorem zzl {o:Oper} {t:TypeId} {z:List AV} {a:Act} {K:AV→zac→Prop} (ho:o.op=.alloc t) (hz:zfl P t=some z) (hs:SRel base κ Im σ w) (h:K (.ptr σ.length 0) (σ++ [.var t z])):zeB P base κ Im w o a K:=by
 obtain ⟨i,zv,hi,hzv,hm⟩:=zeW hz
 obtain ⟨hzr,hzo,_⟩:=zbW (Im:=Im) (w:=w) hm
 obtain ⟨κ',h1,h2,h3⟩:=z0y (cs:=zv.cells) t hs (VRL.ofIR hzr) hzo
 refine ⟨_,_,κ',Im,_,_,.inl ?_,h,h1,h2,h3⟩
 simp [execOp,ho,Instr.alloc,zeroValue,typeInfo,hi,hzv,newVar,newRow]
theorem z7o {o:Oper} {t:TypeId} {x:Operand} {x':Opd} {f:Frame} {a:Act} {K:AV→zac→Prop} (ho:o.op=.box t x) (hx:opd x=some x') (hs:SRel base κ Im σ w) (hf:FRel κ Im w f a)
  (hone:∀c∈(x'.ev f).cells,c.one=true) (h:K (.ptr σ.length 0) (σ++ [.var t (x'.ev f).cells])):zeB P base κ Im w o a K:=by
 obtain ⟨κ',h1,h2,h3⟩:=z0y (cs:=(a.eval x).cells) t hs ((za2 hx hf).oneCells hone) hone
 refine ⟨_,_,κ',Im,_,_,.inl ?_,h,h1,h2,h3⟩
 simp [execOp,ho,Instr.box,newVar,newRow]
theorem VRL.splice {cells vs:List AV} {us ws:List Value} (off:Nat) (h:VRL κ Im w cells us) (h':VRL κ Im w vs ws):VRL κ Im w (splice cells off vs) (us.take off++ws++us.drop (off+ws.length)):=zus cells vs us ws off h h'
theorem zb8 (b:Nat):∀(vs:List Value) (off:Nat) (w:World) (cs:Array Value) (t:TypeId),w.heap[b]? =some (.cells cs t (0,0))→off+vs.length≤cs.size→
  ∃cs':Array Value,(w.setCells b off vs).heap[b]? =some (.cells cs' t (0,0))∧cs'.toList=cs.toList.take off++vs++cs.toList.drop (off+vs.length)∧(∀k,k≠b→(w.setCells b off vs).heap[k]? =w.heap[k]?)∧
   (w.setCells b off vs).heap.size=w.heap.size∧(w.setCells b off vs).os=w.os∧(w.setCells b off vs).tape=w.tape∧(w.setCells b off vs).output=w.output:=by
 intro vs
 induction vs with
 |nil=>intro off w cs t h _;exact ⟨cs,by simpa [World.setCells] using h,by simp,by simp [World.setCells],by simp [World.setCells],rfl,rfl,rfl⟩
 |cons v vs ih=>
  intro off w cs t h hle
  simp only [ybf] at hle
  have h1:=heap_setCell_same w b off cs t v h
  obtain ⟨cs',h2,h3,h4,h5,h6,h7,h8⟩:=ih (off+1) (w.setCell ⟨b,off,none⟩ v) (cs.setIfInBounds off v) t h1 (by simp;omega)
  have hlt:off<cs.toList.length:=by simp;omega
  have e:cs.toList.set off v=cs.toList.take off++v::cs.toList.drop (off+1):=by rw [List.set_eq_take_append_cons_drop,if_pos hlt]
  have hl:(cs.toList.take off).length=off:=by rw [yan];omega
  refine ⟨cs',by simpa [World.setCells] using h2, ?_,fun k hk=> ?_, ?_, ?_, ?_, ?_⟩
  ·rw [h3,Array.toList_setIfInBounds,e]
   have e1:List.take (off+1) (cs.toList.take off++v::cs.toList.drop (off+1))=cs.toList.take off++ [v]:=by
    rw [show off+1=(cs.toList.take off).length+1 from by rw [hl],yc3,yao (by omega)]
    simp
   have e2:List.drop (off+1+vs.length) (cs.toList.take off++v::cs.toList.drop (off+1))=cs.toList.drop (off+(v::vs).length):=by
    rw [show off+1+vs.length=(cs.toList.take off).length+(1+vs.length) from by rw [hl];omega,yd1]
    have:(cs.toList.take off).drop ((cs.toList.take off).length+(1+vs.length))= []:=yc9 (by omega)
    rw [this,ya0,Nat.add_comm 1,List.drop_succ_cons,List.drop_drop]
    simp only [yci,ybf]
    congr 1;omega
   rw [e1,e2];simp
  ·have:=h4 k hk
   simp only [World.setCells]
   rw [this,heap_setCell_other w ⟨b,off,none⟩ k v hk]
  ·simp only [World.setCells];rw [h5];simp [World.setCell]
  ·simp only [World.setCells];rw [h6];rfl
  ·simp only [World.setCells];rw [h7];rfl
  ·simp only [World.setCells];rw [h8];rfl
theorem zeT {l:List AV} {vs:List Value} (h:VRL κ Im w l vs) (hone:∀c∈l,c.one=true):∀u∈vs,u.oneCell'=true:=by
 intro u hu
 obtain ⟨j,hj,rfl⟩:=yaw.1 hu
 have hj':j<l.length:=by rw [h.1];exact hj
 exact (h.2 j hj' hj).oneCell (hone _ (yat hj'))
theorem zqW {cells vs:List AV} {off:Nat} (h:∀c∈cells,c.one=true) (h':∀c∈vs,c.one=true):∀c∈splice cells off vs,c.one=true:=by
 intro c hc
 simp only [splice,yai] at hc
 rcases hc with (hc|hc)|hc
 ·exact h c (yak hc)
 ·exact h' c hc
 ·exact h c (yau hc)
theorem ztK {t:TypeId} {size b off:Nat} {x:Value} (hsz:sizeOf? P t=some size) (hlen:x.cells.size=size) (h1:∀u∈x.cells.toList,u.oneCell'=true) (ht:w.there b off size):
  (Instr.storeAt t (.pointer (some ⟨b,off,none⟩)) x).run P w=.ok () (w.setCells b off x.cells.toList):=by
 have:=run_storeCells_cells (P:=P) b off x.cells.toList 0 w (fun j hj=>by simpa using (ht j (by simpa [hlen] using hj)).1) (fun j hj=>by simpa using (ht j (by simpa [hlen] using hj)).2) h1
 simp only [ycb] at this
 simp [Instr.storeAt,Instr.sureAddr,storeVar,run_sizeOf? hsz,hlen,this]
theorem zeM {b:Nat} {cs:Array Value} {t:TypeId} {off n:Nat} (h:w.heap[b]? =some (.cells cs t (0,0))) (hle:off+n≤cs.size):w.there b off n:=fun j hj=>by
 refine ⟨?_,by simp [World.frozen?,h]⟩
 rw [cell_of_row w b (off+j) cs t (0,0) h]
 simp;omega
theorem zpX {size:Nat}:∀(els:List (List AV)) (k:Nat) (c vs:List AV) (off:Nat),(∀c∈els,c.length=size)→els[k]? =some c→off+vs.length≤size→
  (els.set k (splice c off vs)).flatten=splice els.flatten (k*size+off) vs:=by
 intro els
 induction els with
 |nil=>intro k c vs off _ h;simp at h
 |cons e els ih=>
  intro k c vs off hl hk hle
  have he:e.length=size:=hl e (by simp)
  cases k with
  |zero=>
   simp at hk;subst hk
   simp only [List.set_cons_zero,ybd,Nat.zero_mul,ybe,splice]
   rw [ycl (by omega),yd3 (by omega)]
   simp
  |succ k=>
   have e1:(k+1)*size+off=e.length+(k*size+off):=by rw [he,ya6];omega
   rw [List.set_cons_succ,ybd,ih k c vs off (fun c h=>hl c (by simp [h])) (by simpa using hk) hle,ybd,e1]
   have t1:∀m,List.take (e.length+m) (e++els.flatten)=e++els.flatten.take m:=fun m=>by
    rw [yc3,yao (by omega),ya0]
   have t2:∀m,List.drop (e.length+m) (e++els.flatten)=els.flatten.drop m:=fun m=>by
    rw [yd1,ybu (by omega),ya0,yci]
   simp only [splice]
   rw [t1,ydt e.length,t2]
   simp
theorem z0v {o:Oper} {t:TypeId} {x y:Operand} {x' y':Opd} {size:Nat} {f:Frame} {a:Act} {K:AV→zac→Prop} {σ':zac} (ho:o.op=.store t x y) (hsz:sizeOf? P t=some size) (hx:opd x=some x') (hy:opd y=some y')
  (hs:SRel base κ Im σ w) (hf:FRel κ Im w f a) (hlen:(y'.ev f).cells.length=size) (hone:∀c∈(y'.ev f).cells,c.one=true) (hput:zvb σ (x'.ev f) (y'.ev f).cells=some σ') (h:K .junk σ'):zeB P base κ Im w o a K:=by
 have hvx:=za2 (κ:=κ) (Im:=Im) (w:=w) hx hf
 have hvy:=(za2 (κ:=κ) (Im:=Im) (w:=w) hy hf).oneCells hone
 have h1:=zeT hvy hone
 have hcl:(a.eval y).cells.size=size:=by rw [←hlen,hvy.1];simp
 generalize hX:x'.ev f=X at*
 generalize hV:(y'.ev f).cells=vs at*
 -- the step, once the block is z7R
 have key:∀(id:Nat) (old e:Entry) (b off:Nat) (cs:Array Value) (ty:TypeId),a.eval x=.pointer (some ⟨b,off,none⟩)→σ[id]? =some old→old.block κ id=some b→w.heap[b]? =some (.cells cs ty (0,0))→off+size≤cs.size→base≤b→
   (∀a,Im a→a.block=b→a.off<off∨off+size≤a.off)→σ'=σ.set id e→e.block κ id=some b→old.ver≤e.ver→
   (∀w' cs',w'.heap[b]? =some (.cells cs' ty (0,0))→cs'.toList=cs.toList.take off++(a.eval y).cells.toList++cs.toList.drop (off+(a.eval y).cells.toList.length)→(∀a,Im a→w'.cell? a=w.cell? a)→EOK κ Im base w' id e)→zeB P base κ Im w o a K:=by
  intro id old e b off cs ty hpx hold hblk hheap hle hbase him hσ heb hver hE
  have hrun:=ztK (P:=P) (x:=a.eval y) hsz hcl h1 (zeM hheap hle)
  obtain ⟨cs',g1,g2,g3,g4,g5,g6,g7⟩:=zb8 b (a.eval y).cells.toList off w cs ty hheap (by simp [hcl];exact hle)
  have hcell:∀ad,Im ad→(w.setCells b off (a.eval y).cells.toList).cell? ad=w.cell? ad:=by
   intro ad hIm
   by_cases hab:ad.block=b
   ·have hsp:=(hs.imlt ad hIm).2
    refine yde b _ off w ad (fun _ _=> ?_)
    have:=him ad hIm hab
    simp [hcl];exact this
   ·exact ya8 (g3 _ hab)
  refine ⟨undef,_,κ,Im,.junk,σ',.inr ⟨by simp [execOp,ho,hpx,hrun],rfl⟩,h,.im _ _ (.junk _), ?_,⟨fun _ _ _ h=>h,fun _ h=>h,hcell,fun _ h=> .inl h, ?_⟩⟩
  ·rw [hσ]
   refine hs.set hold e (fun _ _ _ h=>h) (fun _ _ _ h=> .inl h) hver (fun _ h=>h) hcell (fun _ h=> .inl h) (by omega) (fun k _ hk=>g3 k (fun he=>hk (by rw [he];exact hblk))) (hE _ cs' g1 g2 hcell) (fun b' hb'=> .inr (by rw [heb] at hb';rw [hblk];exact hb')) (by
    rintro ⟨kv,rfl⟩
    obtain ⟨b2,es,clock,hk2,_,hh2,_⟩:=hs.ent _ _ hold
    simp [Entry.block,hk2] at hblk;subst hblk
    rw [hheap] at hh2;cases hh2)
  ·exact ⟨g5,g6,g7,by omega,fun k hk=>g3 k (by omega)⟩
 cases X with
 |ptr id off=>
  obtain ⟨b,hb,hk⟩:=hvx.ptr_inv
  simp only [zvb] at hput
  split at hput
  case h_2=>cases hput
  rename_i ty cells hent
  split at hput
  case isFalse=>cases hput
  rename_i hle
  simp only [yab] at hput
  obtain ⟨b',cs,hk',hbase,hheap,hvr,hones,him⟩:=hs.ent _ _ hent
  rw [hk] at hk';cases hk'
  have hcs:cells.length=cs.size:=by simpa using hvr.1
  refine key id _ _ b off cs ty hb hent (by simp [Entry.block,hk]) hheap (by omega) hbase (fun ad hi he=>absurd he (him ad hi)) hput.symm (by simp [Entry.block,hk]) (yaq _) (fun w' cs' g1 g2 hcell=> ?_)
  refine ⟨b,cs',hk,hbase,g1, ?_,zqW hones hone,him⟩
  rw [g2]
  have:=VRL.splice off hvr hvy
  exact ⟨this.1,fun j h h'=>(this.2 j h h').mono (fun _ _ _ h=>h) (fun _ h=>h) hcell⟩
 |rowp id n₀ sz k off=>
  obtain ⟨b,cap,hb,hk⟩:=hvx.rowp_inv
  simp only [zvb] at hput
  split at hput
  case h_2=>cases hput
  rename_i e size' els hent
  split at hput
  case isFalse=>cases hput
  rename_i hcond
  obtain ⟨rfl,rfl,hle⟩:=hcond
  split at hput
  case h_2=>cases hput
  rename_i c hc
  simp only [yab] at hput
  obtain ⟨v,xs,hv,hown,hvr,hpos,hlens,hones,hir,him⟩:=hs.ent _ _ hent
  rw [hk] at hv;cases hv
  obtain ⟨hkl,hce⟩:=yaa.1 hc
  rcases hown.2 with ⟨h1',_⟩|⟨g,cap',cur,hvv,hbase,hheap,hlecap,hmax,hcur,htake⟩
  ·cases h1'
  simp only [Value.slice.injEq,yab,Addr.mk.injEq] at hvv
  obtain ⟨⟨rfl,_⟩,_,rfl⟩:=hvv
  obtain ⟨him1,him2⟩:=him b rfl
  have hmul:(k+1)*size'≤els.length*size':=yas _ hkl
  have hmul2:els.length*size'≤cap*size':=yas _ hlecap
  rw [ya6] at hmul
  have hfl:els.flatten.length=els.length*size':=by rw [hvr.1,hown.1]
  refine key id _ _ b (k*size'+off) cur e hb hent (by simp [Entry.block,hk,Value.ownBlock]) hheap (by omega) hbase (fun ad hi he=> ?_) hput.symm (by simp [Entry.block,hk,Value.ownBlock]) (by simp [Entry.ver]) (fun w' cs' g1 g2 hcell=> ?_)
  ·have:=(him1 ad hi he).1;simp at this
  ·have hset:(els.set k (splice c off vs)).length=els.length:=by simp
   have hxs:xs=cur.toList.take (els.length*size'):=htake.symm
   have hvl:vs.length=(a.eval y).cells.toList.length:=hvy.1
   have hnew:cs'.toList.take (els.length*size')=xs.take (k*size'+off)++(a.eval y).cells.toList++xs.drop (k*size'+off+(a.eval y).cells.toList.length):=by
    rw [g2,hxs]
    have hA:(cur.toList.take (k*size'+off)).length=k*size'+off:=by rw [yan];simp;omega
    rw [ya3,yc3,yao (by omega),yc3,yao (l:=(a.eval y).cells.toList) (by omega),hA]
    rw [yd4,List.drop_take]
    rw [ybt (by omega)]
    rw [ya3]
    congr 3
    omega
   refine ⟨_,cs'.toList.take (els.length*size'),by rw [hset];exact hk,⟨?_,.inr ⟨b,cap,cs',by rw [hset],hbase,g1,by rw [hset];exact hlecap,hmax, ?_,by rw [hset]⟩⟩, ?_,hpos, ?_, ?_,fun h=>by simp at h,fun g hg=> ?_⟩
   ·rw [hset,yan]
    have:=congrArg List.length g2
    simp only [yag,yan,ya2,ya4] at this
    simp only [ya4];omega
   ·have:=congrArg List.length g2
    simp only [yag,yan,ya2,ya4] at this
    omega
   ·rw [zpX els k c vs off hlens hc hle]
    have:=VRL.splice (k*size'+off) hvr hvy
    rw [hnew]
    exact ⟨this.1,fun j h h'=>(this.2 j h h').mono (fun _ _ _ h=>h) (fun _ h=>h) hcell⟩
   ·intro c' hc'
    rcases List.mem_or_eq_of_mem_set hc' with h|rfl
    ·exact hlens _ h
    ·have:=hlens c (by rw [←hce];exact yat hkl)
     simp only [splice,yag,yan,ya2];omega
   ·intro c' hc' x hx
    rcases List.mem_or_eq_of_mem_set hc' with h|rfl
    ·exact hones _ h x hx
    ·exact zqW (hones c (by rw [←hce];exact yat hkl)) hone x hx
   ·rw [hset]
    exact him g hg
 |_=>simp [zvb] at hput
end
end Go.Abs
end
section
namespace Go.Abs
open Go.RowKit
variable {G:Globs}
section
variable {P:Program} {base:Nat} {κ:Key} {Im:Addr→Prop} {w:World} {σ:zac}
theorem zyQ {t ty e:TypeId} {i:TypeInfo} {z:Value} (ht:P.underlying t=some (.slice e)) (hi:P.info? e=some i) (hz:i.zero=some z) (hzs:z.cells.size=i.size) (hsz:0<i.size)
  {v:Value} {n:Nat} {xs:List Value} (b0:Nat) (hown:w.ownsRow b0 e i.size v n xs) (ad:Addr) (m c:Nat) (news:List Value) (hl:news.length=m*i.size) (hnews:∀j u,news[j]? =some u→w.cell? (ad.add j)=some u) (h1:∀u∈news,u.oneCell'=true)
  (h63:n+m≤maxLen) (hbytes:(n+m)*i.bytes≤140737488355328) (hbase:b0≤w.heap.size):
  ∃v' w',(Builtin.append_ #[t,t] ty #[v,.slice (some ad) m c]).run P w=.ok v' w'∧w'.ownsRow b0 e i.size v' (n+m) (xs++news)∧w.grownBy w' v.ownBlock∧(∀g,v'.ownBlock=some g→v.ownBlock=some g∨w.heap.size≤g)∧(m=0→v'=v∧w'=w)∧
   (∀g j,v.ownBlock=some g→j<n*i.size→w'.cell? ⟨g,j,none⟩=w.cell? ⟨g,j,none⟩):=by
 obtain ⟨v',w',hr,ho,hg,hiff⟩:=run_append_own (P:=P) w b0 t ty e i z i.size i.bytes ht hi hz rfl rfl hzs hsz v n xs hown ad m c news hl hnews h1 h63 hbytes hbase
 have hsmall:n+m≤9223372036854775807:=by simp only [maxLen] at h63;omega
 refine ⟨v',w',hr,ho,hg,fun g hgb=> ?_,fun hm=> ?_,fun g j hgb hj=> ?_⟩
 ·rcases hown.2 with ⟨rfl,rfl⟩|⟨g',cap,cur,rfl,hbg,hgg,hnc,hcm,hcs,htake⟩
  ·by_cases hm:m=0
   ·subst hm
    have:v'=.slice none 0 0:=hiff.2 ⟨rfl,rfl⟩
    subst this;simp [Value.ownBlock] at hgb
   ·have hr2:=run_append_nil (P:=P) w t ty e i z ht hi hz ad m c news hl hnews (by omega) (by omega) (by have hb:=hbytes;simp only [ybe] at hb;omega)
    rw [hr2] at hr
    cases hr
    simp [Value.ownBlock] at hgb;right;omega
  ·by_cases hroom:n+m≤cap
   ·have hfit:n*i.size+news.length≤cur.size:=by rw [hl,hcs,←ya6];exact yas _ hroom
    have hr2:=run_append_room (P:=P) w t ty e i ht hi g' n cap cur hgg ad m c news hl hnews h1 hroom hfit
    rw [hr2] at hr
    cases hr
    exact .inl hgb
   ·have holds:∀j u,xs[j]? =some u→w.cell? ((⟨g',0,none⟩:Addr).add j)=some u:=hown.cells (g:=g') rfl
    have hr2:=run_append_grow (P:=P) w t ty e i z ht hi hz ⟨g',0,none⟩ n cap xs hown.1 holds ad m c news hl hnews (by omega) (by omega) (growslice_fits (by omega) hbytes)
    rw [hr2] at hr
    cases hr
    simp [Value.ownBlock] at hgb;right;omega
 ·subst hm
  have hn:news= []:=yap (by simpa using hl)
  have hle:∀b cap,v=.slice b n cap→n≤cap:=by
   intro b cap hv
   rcases hown.2 with ⟨h1,h2⟩|⟨g',cap',cur,h1,_,_,hnc,_⟩
   ·omega
   ·rw [hv] at h1;simp only [Value.slice.injEq] at h1;omega
  obtain ⟨b,cap,hv⟩:∃b cap,v=.slice b n cap:=by
   rcases hown.2 with ⟨h1,h2⟩|⟨g',cap',cur,h1,_⟩
   ·exact ⟨none,0,by rw [h1,h2]⟩
   ·exact ⟨_,_,h1⟩
  have hle:=hle b cap hv
  subst hv
  have:(Builtin.append_ #[t,t] ty #[.slice b n cap,.slice (some ad) 0 c]).run P w=.ok (.slice b n cap) w:=by
   cases b<;>simp [Builtin.append_,run_underlying ht,sizeOf,typeInfo,hi,Builtin.lenOf,hle,Builtin.firstCells,loadCells,loadCellsFrom,storeCells]
  rw [this] at hr
  cases hr
  exact ⟨rfl,rfl⟩
 ·rcases hown.2 with ⟨rfl,rfl⟩|⟨g',cap,cur,rfl,hbg,hgg,hnc,hcm,hcs,htake⟩
  ·simp [Value.ownBlock] at hgb
  ·simp only [Value.ownBlock,yab] at hgb;subst hgb
   by_cases hroom:n+m≤cap
   ·have hfit:n*i.size+news.length≤cur.size:=by rw [hl,hcs,←ya6];exact yas _ hroom
    have hr2:=run_append_room (P:=P) w t ty e i ht hi g' n cap cur hgg ad m c news hl hnews h1 hroom hfit
    rw [hr2] at hr
    cases hr
    rw [cell_setRow_same w g' j cur _ e _ hgg,cell_of_row w g' j cur e (0,0) hgg]
    have hjl:j<(cur.toList.take (n*i.size)).length:=by rw [yan];simp;omega
    rw [List.getElem?_toArray,ya3,yar hjl,ybo,if_pos hj]
    simp
   ·have holds:∀j u,xs[j]? =some u→w.cell? ((⟨g',0,none⟩:Addr).add j)=some u:=hown.cells (g:=g') rfl
    have hr2:=run_append_grow (P:=P) w t ty e i z ht hi hz ⟨g',0,none⟩ n cap xs hown.1 holds ad m c news hl hnews (by omega) (by omega) (growslice_fits (by omega) hbytes)
    rw [hr2] at hr
    cases hr
    exact ya8 (Below.heap_alloc _ _ _ (by simpa using (ya7.1 hgg).1))
theorem zt6 {X:AV} {x:Value} {m:List (List AV)} {size:Nat} (hs:SRel base κ Im σ w) (hx:VR κ Im w X x) (h:zf4 σ X=some m) (hlen:∀c∈m,c.length=size) (hpos:0<size):
  (x=.slice none 0 0∧m= [])∨∃ad c news,x=.slice (some ad) m.length c∧news.length=m.length*size∧(∀j u,news[j]? =some u→w.cell? (ad.add j)=some u)∧IRL Im w m.flatten news∧∀c∈m,∀v∈c,v.one=true:=by
 have hir:IR Im w (.lst m) x:=by
  cases X<;>simp only [zf4,reduceCtorEq,yab] at h
  case nils=>subst h;cases hx.nils_inv;exact .lnil _
  case lst l=>subst h;exact hx.pure (by simp [AV.pure])
  case row id n=>
   obtain ⟨g,cap,rfl,hk⟩:=hx.row_inv
   split at h
   case h_2=>cases h
   rename_i e size els he
   split at h
   case isFalse=>cases h
   rename_i hn
   simp only [yab] at h;subst h;subst hn
   exact zmn hs he hk
 rcases (VR.im (κ:=κ) _ _ hir).lst_inv with ⟨⟨g,h0⟩,hm0⟩|⟨size',b,o,cap,vals,hv,h1,h2,h3,h4,h5,h6⟩
 ·cases g with
  |none=>exact .inl ⟨h0,hm0⟩
  |some ad=>
   subst hm0
   exact .inr ⟨ad,0,[],h0,by simp,fun j u h=>by simp at h,⟨rfl,fun j h=>by simp at h⟩,fun c h=>by simp at h⟩
 ·by_cases hm:m= []
  ·subst hm
   exact .inr ⟨_,_,[],hv,by simp,fun j u h=>by simp at h,⟨rfl,fun j h=>by simp at h⟩,h4⟩
  ·have hse:size'=size:=by
    obtain ⟨c,hc⟩:=ydc _ hm
    rw [←h3 c hc,hlen c hc]
   subst hse
   have hfl:∀(l:List (List AV)),(∀c∈l,c.length=size')→l.flatten.length=l.length*size':=by
    intro l
    induction l with
    |nil=>intro _;simp
    |cons c l ih=>intro hl;rw [ybd,yag,ih (fun c h=>hl c (by simp [h])),hl c (by simp),ybf,ya6];omega
   refine .inr ⟨_,_,(List.range (m.length*size')).map fun q=>vals (q/size') (q%size'),hv,by simp,fun j u hj=> ?_,⟨by rw [hfl m h3];simp,fun j hj hj'=> ?_⟩,h4⟩
   ·rw [yb8] at hj
    by_cases hjl:j<m.length*size'
    ·rw [List.getElem?_range hjl] at hj
     simp at hj;subst hj
     have hk:j/size'<m.length:=(ych hpos).2 hjl
     have:=(h5 (j/size') (j%size') hk (ybs _ hpos)).2
     rw [Addr.add_mid]
     rw [Nat.div_add_mod'] at this
     exact this
    ·rw [yco (by simp;omega)] at hj;cases hj
   ·have hjl:j<m.length*size':=by rw [hfl m h3] at hj;exact hj
    have hk:j/size'<m.length:=(ych hpos).2 hjl
    obtain ⟨g1,g2,g3,g4⟩:=zf8 m (j/size') (j%size') h3 hk (ybs _ hpos)
    have e:(j/size')*size'+j%size'=j:=Nat.div_add_mod' ..
    have e2:m.flatten[j]=m[j/size'][j%size']:=by rw [←g4];congr 1;exact e.symm
    rw [e2]
    simp only [yc2,List.getElem_range]
    exact h6 _ _ g1 g2
theorem zcz {size:Nat}:∀(l:List (List AV)) (k:Nat),(∀c∈l,c.length=size)→(l.take k).flatten=l.flatten.take (k*size)
 | [],k,_=>by simp
 |c::l,0,_=>by simp
 |c::l,k+1,h=>by
  have hc:c.length=size:=h c (by simp)
  have e:(k+1)*size=c.length+k*size:=by rw [hc,ya6];omega
  rw [List.take_succ_cons,ybd,zcz l k (fun c hc=>h c (by simp [hc])),ybd,e,yc3,yao (l:=c) (by omega),ya0]
theorem zdE {size:Nat}:∀(l:List (List AV)) (k:Nat),(∀c∈l,c.length=size)→(l.drop k).flatten=l.flatten.drop (k*size)
 | [],k,_=>by simp
 |c::l,0,_=>by simp
 |c::l,k+1,h=>by
  have hc:c.length=size:=h c (by simp)
  have e:(k+1)*size=c.length+k*size:=by rw [hc,ya6];omega
  rw [List.drop_succ_cons,zdE l k (fun c hc=>h c (by simp [hc])),ybd,e,yd1,ybu (l:=c) (by omega),ya0,yci]
theorem zit:∀(n size:Nat) (l:List AV),l.length=n*size→(zbc n size l).length=n∧(∀c∈zbc n size l,c.length=size)∧(zbc n size l).flatten=l
 |0,size,l,h=>by simp [zbc];exact yap (by simpa using h)
 |n+1,size,l,h=>by
  rw [ya6] at h
  obtain ⟨h1,h2,h3⟩:=zit n size (l.drop size) (by simp;omega)
  refine ⟨by simp [zbc,h1],fun c hc=> ?_,by simp only [zbc,ybd,h3,ya9]⟩
  simp only [zbc,ybb] at hc
  rcases hc with rfl|hc
  ·simp;omega
  ·exact h2 c hc
theorem zh4 {X:AV} {x:Value} {m:List (List AV)} {size:Nat} (hs:SRel base κ Im σ w) (hx:VR κ Im w X x) (h:view σ X=some m) (hlen:∀c∈m,c.length=size) (hpos:0<size):
  (x=.slice none 0 0∧m= [])∨∃ad c news,x=.slice (some ad) m.length c∧news.length=m.length*size∧(∀j u,news[j]? =some u→w.cell? (ad.add j)=some u)∧VRL κ Im w m.flatten news∧(∀c∈m,∀v∈c,v.one=true)∧(zlE σ X m→IRL Im w m.flatten news):=by
 by_cases ha:zf4 σ X=some m
 ·rcases zt6 hs hx ha hlen hpos with h0|⟨ad,c,news,h1,h2,h3,h4,h5⟩
  ·exact .inl h0
  ·exact .inr ⟨ad,c,news,h1,h2,h3,VRL.ofIR h4,h5,fun _=>h4⟩
 ·cases X<;>simp only [view,reduceCtorEq,yab] at h
  case nils=>exact absurd (by simpa [zf4] using h) ha
  case lst l=>exact absurd (by simpa [zf4] using h) ha
  case row id n=>
   obtain ⟨g,cap,rfl,hk⟩:=hx.row_inv
   split at h
   case h_2=>cases h
   rename_i e size' els im he
   split at h
   case isFalse=>cases h
   rename_i hn
   simp only [yab] at h;subst h;subst hn
   obtain ⟨v0,xs,hv0,hown,hvr,hpos2,hlens,hones0,hir,him⟩:=hs.ent _ _ he
   rw [hk] at hv0;cases hv0
   have hxl:=hown.1
   rcases hown.2 with ⟨h1,h2⟩|⟨b,cap',cur,h1,hg,hh,hle,hmax,hcs,htake⟩
   ·exact .inl ⟨by rw [h1],yap h2⟩
   ·simp only [Value.slice.injEq] at h1
    obtain ⟨rfl,_,rfl⟩:=h1
    have hcell:=hown.cells (g:=b) rfl
    refine .inr ⟨_,_,xs,rfl, ?_,hcell,hvr,hones0,fun hf=> ?_⟩
    ·by_cases hm:els= []
     ·subst hm;simpa using hxl
     ·obtain ⟨c,hc⟩:=ydc _ hm
      rw [hxl,←hlens c hc,hlen c hc]
    ·rcases hf with hf|hf
     ·exact absurd hf ha
     ·refine ⟨hvr.1,fun j hj hj'=>(hvr.2 j hj hj').pure ?_⟩
      obtain ⟨c,hc,hcm⟩:=ybk.1 (yat hj)
      exact hf c hc _ hcm
  case asl id off n sz=>
   obtain ⟨b,ad,c,rfl,hk,k3,k4,_⟩:=hx.asl_inv
   split at h
   case h_2=>cases h
   rename_i t cells he
   split at h
   case isFalse=>cases h
   rename_i hle
   simp only [yab] at h;subst h
   obtain ⟨b',cs,hk',_,hheap,hvr,hones,_⟩:=hs.ent _ _ he
   rw [hk] at hk';cases hk'
   have hcl:((cells.drop off).take (n*sz)).length=n*sz:=by simp;omega
   obtain ⟨c1,c2,c3⟩:=zit n sz _ hcl
   have hvr2:=(hvr.drop off).take (n*sz)
   refine .inr ⟨ad,c,(cs.toList.drop off).take (n*sz),by rw [c1], ?_,fun j u hj=> ?_,by rw [c3];exact hvr2,fun c' hc' v hv'=> ?_,fun hf=> ?_⟩
   ·rw [←hvr2.1,hcl,c1]
    by_cases hn:n=0
    ·subst hn;simp
    ·have hne:zbc n sz ((cells.drop off).take (n*sz))≠ []:=fun h0=>by rw [h0] at c1;simp at c1;omega
     obtain ⟨c',hc'⟩:=ydc _ hne
     rw [←c2 c' hc',hlen c' hc']
   ·rw [ybo] at hj
    split at hj
    case isFalse=>cases hj
    rename_i hjl
    have hn:0<n:=by
     rcases Nat.eq_zero_or_pos n with h0|h0
     ·subst h0;simp at hjl
     ·exact h0
    rw [k3 hn,Addr.add_mid,cell_of_row w b (off+j) cs t (0,0) hheap]
    rw [ybz] at hj
    simpa using hj
   ·refine hones v (yau (yak (?_:v∈(cells.drop off).take (n*sz))))
    rw [←c3];exact ybk.2 ⟨c',hc',hv'⟩
   ·rcases hf with hf|hf
    ·simp [zf4] at hf
    ·rw [c3]
     refine ⟨hvr2.1,fun j hj hj'=>(hvr2.2 j hj hj').pure ?_⟩
     have hmem:∀v,v∈(cells.drop off).take (n*sz)→v∈(zbc n sz ((cells.drop off).take (n*sz))).flatten:=fun v hv=>by rw [c3];exact hv
     obtain ⟨c',hc',hcm⟩:=ybk.1 (hmem _ (yat hj))
     exact hf c' hc' _ hcm
  case sub id n sz lo hi=>
   obtain ⟨b,cap,ad,c,rfl,hk,k1,k2,k3,k4,_⟩:=hx.sub_inv
   split at h
   case h_2=>cases h
   rename_i e size' els im he
   split at h
   case isFalse=>cases h
   rename_i hn
   obtain ⟨hn,rfl⟩:=hn
   simp only [yab] at h;subst h;subst hn
   obtain ⟨v0,xs,hv0,hown,hvr,hpos2,hlens,hones0,hir,him⟩:=hs.ent _ _ he
   rw [hk] at hv0;cases hv0
   have hml:((els.take hi).drop lo).length=hi-lo:=by simp;omega
   have hxl:=hown.1
   have hfl:((els.take hi).drop lo).flatten=(els.flatten.take (hi*size')).drop (lo*size'):=by
    rw [zdE _ _ (fun c hc=>hlens c (yak hc)),zcz _ _ hlens]
   have hvr2:=(hvr.take (hi*size')).drop (lo*size')
   rw [←hfl] at hvr2
   rcases hown.2 with ⟨h1,h2⟩|⟨b',cap',cur,h1,hg,hh,hle,hmax,hcs,htake⟩
   ·cases h1
   ·simp only [Value.slice.injEq,yab,Addr.mk.injEq] at h1
    obtain ⟨⟨rfl,_⟩,_,rfl⟩:=h1
    have hcell:=hown.cells (g:=b) rfl
    have hlo:=yas size' k1
    have hhi:=yas size' k2
    refine .inr ⟨_,_,(xs.take (hi*size')).drop (lo*size'),by rw [hml], ?_,fun j u hj=> ?_,hvr2,fun c hc=>hones0 c (yak (yau hc)),fun hf=> ?_⟩
    ·rw [hml]
     by_cases hm:lo=hi
     ·subst hm;simp
     ·have:size'=size:=by
       have hne:(els.take hi).drop lo≠ []:=fun h0=>by rw [h0] at hml;simp at hml;omega
       obtain ⟨c,hc⟩:=ydc _ hne
       rw [←hlens c (yak (yau hc)),hlen c hc]
      subst this
      rw [ya2,yan,hxl,Nat.sub_mul];omega
    ·rw [ybz,ybo] at hj
     split at hj
     case isFalse=>cases hj
     rename_i hjl
     have hlt:lo<hi:=by
      refine Nat.lt_of_le_of_ne k1 fun he=> ?_
      subst he;omega
     have:=hcell _ _ hj
     rw [k3 hlt,Addr.add_mid]
     rw [Addr.add_mid,ybe] at this
     exact this
    ·rcases hf with hf|hf
     ·simp [zf4] at hf
     ·refine ⟨hvr2.1,fun j hj hj'=>(hvr2.2 j hj hj').pure ?_⟩
      obtain ⟨c,hc,hcm⟩:=ybk.1 (yat hj)
      exact hf c hc _ hcm
theorem zmP {e size n:Nat} {m:List (List AV)} {im:Bool} {v:Value} {w':World} {xs:List Value} (hs:SRel base κ Im σ w) (hn:n=m.length) (hpos:0<size) (hlen:∀c∈m,c.length=size) (hone:∀c∈m,∀x∈c,x.one=true)
  (hown:w'.ownsRow w.heap.size e size v n xs) (hh:∀k,k<w.heap.size→w'.heap[k]? =w.heap[k]?) (hsize:w.heap.size≤w'.heap.size) (hos:w'.os=w.os) (htape:w'.tape=w.tape) (hout:w'.output=w.output)
  (hv:VRL κ Im w m.flatten xs) (hir:im=true→IRL Im w m.flatten xs):
  ∃κ' Im',VR κ' Im' w' (.row σ.length n) v∧SRel base κ' Im' (σ++ [.row e size m im]) w'∧Grow base κ Im w κ' Im' w':=by
 subst hn
 have hfree:∀k u,κ σ.length k=some u→False:=fun k u h=>by obtain ⟨e,h1,_⟩:=hs.dom _ _ _ h;simp at h1
 have hκ:=Key.with_new hfree m.length v
 have hc:∀a,Im a→w'.cell? a=w.cell? a:=fun a ha=>ya8 (hh _ (hs.imlt a ha).1)
 obtain ⟨g,cap,hsl⟩:∃g cap,v=.slice g m.length cap:=by
  rcases hown.2 with ⟨h1,h2⟩|⟨g,cap,_,h1,_⟩
  ·exact ⟨none,0,by rw [h1,h2]⟩
  ·exact ⟨_,_,h1⟩
 -- the cells that never change any more
 let Im':Addr→Prop:=fun a=>Im a∨(im=true∧v.ownBlock=some a.block∧a.spot=none∧a.off<m.length*size)
 have hlt:∀b,v.ownBlock=some b→w.heap.size≤b∧b<w'.heap.size:=fun b hb=>hown.lt b hb
 refine ⟨κ.with σ.length m.length v,Im', ?_, ?_,⟨hκ,fun _ h=> .inl h,hc,fun a h=> ?_,⟨hos,htape,hout,hsize,fun k hk=>hh k (yb9 hk hs.hb)⟩⟩⟩
 ·have:=Key.with_same κ σ.length m.length v
  rw [hsl] at this⊢
  exact .row _ _ _ _ this
 ·refine hs.push _ hκ (fun i k u h=> ?_) (fun _ h=> .inl h) (fun a h=> ?_) hsize hh ?_ (fun b hb=> ?_)
  ·unfold Key.with at h
   split at h
   ·rename_i hcc;exact .inr ⟨hcc.1,by rw [hcc.2];exact yaq _⟩
   ·exact .inl h
  ·rcases h with h|⟨_,h1,h2,_⟩
   ·exact .inl h
   ·exact .inr ⟨(hlt _ h1).1,(hlt _ h1).2,h2⟩
  ·have hb':base≤w.heap.size:=hs.hb
   refine ⟨v,xs,Key.with_same _ _ _ _,⟨hown.1, ?_⟩,⟨hv.1,fun j h h'=>(hv.2 j h h').mono hκ (fun _ h=> .inl h) hc⟩,hpos,hlen,hone,fun hi=>⟨(hir hi).1,fun j h h'=>((hir hi).2 j h h').mono (fun _ h=> .inl h) hc⟩,fun b hb=>⟨fun a ha hab=> ?_,fun hi o ho=> .inr ⟨hi,hb,rfl,ho⟩⟩⟩
   ·rcases hown.2 with h|⟨g,cap,cur,h1,h2,rest⟩
    ·exact .inl h
    ·exact .inr ⟨g,cap,cur,h1,by omega,rest⟩
   ·rcases ha with ha|⟨h1,h2,h3,h4⟩
    ·have:=(hs.imlt a ha).1
     have:=(hlt b hb).1
     omega
    ·exact ⟨h1,h4⟩
  ·have:(Entry.row e size m im).block (κ.with σ.length m.length v) σ.length=v.ownBlock:=by simp [Entry.block,Key.with_same]
   rw [this] at hb
   exact (hlt b hb).1
 ·rcases h with h|⟨_,h1,_⟩
  ·exact .inl h
  ·exact .inr (yca hs.hb (hlt _ h1).1)
theorem zeG {α:Type} {a:Array α} {l:List α} (h:a.toList=l):a=l.toArray:=by rw [←h]
def z4J (P:Program) (w:World) (o:Oper) (a:Act) (e size bytes:Nat) (u:Value) (m:List (List AV)) (news:List Value):Prop:=
 ∀(b0 n:Nat) (xs:List Value),w.ownsRow b0 e size u n xs→n+m.length≤maxLen→(n+m.length)*bytes≤140737488355328→b0≤w.heap.size→
  ∃v' w',(execOp a.eval o).run P w=.ok (.value v') w'∧w'.ownsRow b0 e size v' (n+m.length) (xs++news)∧w.grownBy w' u.ownBlock∧(∀g,v'.ownBlock=some g→u.ownBlock=some g∨w.heap.size≤g)∧(m.length=0→v'=u∧w'=w)∧
   (∀g j,u.ownBlock=some g→j<n*size→w'.cell? ⟨g,j,none⟩=w.cell? ⟨g,j,none⟩)
def z7l (P:Program) (Im:Addr→Prop) (w:World) (σ:zac) (K:AV→zac→Prop) (e size bytes:Nat) (m:List (List AV)) (news:List Value):AV→Prop
 | .nils=>(m= []∧K .nils σ)∨∃im,(im=true→IRL Im w m.flatten news)∧m.length*bytes≤140737488355328∧m.length≤9223372036854775807∧K (.row σ.length m.length) (σ++ [.row e size m im])
 | .row id n=>∃els im,σ[id]? =some (.row e size els im)∧(im=true→IRL Im w m.flatten news)∧els.length=n∧(n+m.length)*bytes≤140737488355328∧n+m.length≤9223372036854775807∧K (.row id (n+m.length)) (σ.set id (.row e size (els++m) im))
 |_=>False
theorem zoU {o:Oper} {a:Act} {e size bytes:Nat} {X:AV} {u:Value} {m:List (List AV)} {news:List Value} {K:AV→zac→Prop} (hpos:0<size) (hlen:∀c∈m,c.length=size) (hs:SRel base κ Im σ w) (hx:VR κ Im w X u)
  (g3:VRL κ Im w m.flatten news) (g4:∀c∈m,∀v∈c,v.one=true) (hrun:z4J P w o a e size bytes u m news) (h:z7l P Im w σ K e size bytes m news X):zeB P base κ Im w o a K:=by
 cases X<;>try (exact h.elim)
 case nils=>
  cases hx.nils_inv
  have hnil:=World.ownsRow_nil w w.heap.size e size
  rcases h with ⟨rfl,hK⟩|⟨im,hfix,h1,h2,hK⟩
  ·obtain ⟨v',w',hr,_,_,_,p4,_⟩:=hrun w.heap.size 0 [] hnil (by simp [maxLen]) (by simp) (yaq _)
   obtain ⟨rfl,rfl⟩:=p4 rfl
   exact ⟨_,_,κ,Im,_,_,.inl hr,hK,hx,hs,Grow.refl _ _ _ _⟩
  obtain ⟨v',w',hr,p1,p2,_,_,_⟩:=hrun w.heap.size 0 [] hnil (by simp only [maxLen];omega) (by simpa using h1) (yaq _)
  rw [ybe,yci] at p1
  obtain ⟨κ',Im',q1,q2,q3⟩:=zmP (e:=e) (size:=size) (m:=m) (im:=im) hs rfl hpos hlen g4 p1 (fun k hk=>p2.block k hk (by simp [Value.ownBlock])) p2.size p2.os p2.tape p2.output g3 hfix
  exact ⟨_,_,κ',Im',_,_,.inl hr,hK,q1,q2,q3⟩
 case row id n=>
  obtain ⟨els,im,hent,hfix,rfl,h1,h2,hK⟩:=h
  obtain ⟨b,cap,rfl,hk⟩:=hx.row_inv
  obtain ⟨v0,xs,hv0,hown,hvr,hpos2,hlens,hones0,hir,him⟩:=hs.ent _ _ hent
  rw [hk] at hv0;cases hv0
  obtain ⟨v',w',hr,p1,p2,p3,p4,p5⟩:=hrun base els.length xs hown (by simp only [maxLen];omega) h1 hs.hb
  by_cases hm0:m.length=0
  ·obtain ⟨rfl,rfl⟩:=p4 hm0
   have hm0:m= []:=yap hm0
   subst hm0
   simp only [ycz,ycb,yby] at hK
   have hset:σ.set id (.row e size els im)=σ:=by
    obtain ⟨hlt,he⟩:=yaa.1 hent
    rw [←he,ycr]
   rw [hset] at hK
   exact ⟨_,_,κ,Im,_,_,.inl hr,hK,hx,hs,Grow.refl _ _ _ _⟩
  have hfree:∀u,κ id (els.length+m.length)=some u→False:=fun u h=>by
   obtain ⟨e',h1,h2⟩:=hs.dom _ _ _ h
   rw [hent] at h1;cases h1
   simp only [Entry.ver] at h2;omega
  have hκ:∀i' k u,κ i' k=some u→κ.with id (els.length+m.length) v' i' k=some u:=by
   intro i' k u hu
   unfold Key.with
   split
   ·rename_i hcc;obtain ⟨rfl,rfl⟩:=hcc;exact (hfree _ hu).elim
   ·exact hu
  have hblk0:(Entry.row e size els im).block κ id=(Value.slice b els.length cap).ownBlock:=by simp [Entry.block,hk]
  have hblk1:(Entry.row e size (els++m) im).block (κ.with id (els.length+m.length) v') id=v'.ownBlock:=by
   simp [Entry.block,Key.with_same]
  have hlt':∀g,v'.ownBlock=some g→base≤g∧g<w'.heap.size:=fun g hg=>p1.lt g hg
  let Im':Addr→Prop:=fun ad=>Im ad∨(im=true∧v'.ownBlock=some ad.block∧ad.spot=none∧ad.off<(els.length+m.length)*size)
  -- the old cells stand
  have hcell:∀ad,Im ad→w'.cell? ad=w.cell? ad:=by
   intro ad hI
   by_cases hab:(Value.slice b els.length cap).ownBlock=some ad.block
   ·obtain ⟨k1,k2⟩:=him _ hab
    have hoff:=(k1 ad hI rfl).2
    have hsp:=(hs.imlt ad hI).2
    have had:ad=⟨ad.block,ad.off,none⟩:=by cases ad;simp_all
    rw [had]
    exact p5 _ _ hab hoff
   ·exact ya8 (p2.block _ (hs.imlt ad hI).1 (fun h=>hab h.symm))
  have hvr':VRL (κ.with id (els.length+m.length) v') Im' w' (els++m).flatten (xs++news):=by
   rw [ycd]
   have q1:VRL (κ.with id (els.length+m.length) v') Im' w' els.flatten xs:=⟨hvr.1,fun j h h'=>(hvr.2 j h h').mono hκ (fun _ h=> .inl h) hcell⟩
   have q2:VRL (κ.with id (els.length+m.length) v') Im' w' m.flatten news:=⟨g3.1,fun j h h'=>(g3.2 j h h').mono hκ (fun _ h=> .inl h) hcell⟩
   exact q1.append q2
  have hlenapp:(els++m).length=els.length+m.length:=yag
  refine ⟨v',w',κ.with id (els.length+m.length) v',Im',_,_,.inl hr,hK, ?_, ?_,⟨hκ,fun _ h=> .inl h,hcell,fun ad h=> ?_,⟨p2.os,p2.tape,p2.output,p2.size,fun k hk'=>p2.block k (yb9 hk' hs.hb) (fun hkk=> ?_)⟩⟩⟩
  ·obtain ⟨g,cap2,hsl⟩:∃g cap,v'=.slice g (els.length+m.length) cap:=by
    rcases p1.2 with ⟨h1,h2⟩|⟨g,cap,_,h1,_⟩
    ·omega
    ·exact ⟨_,_,h1⟩
   have:=Key.with_same κ id (els.length+m.length) v'
   rw [hsl] at this⊢
   exact .row _ _ _ _ this
  ·refine hs.set hent _ hκ (fun i' k u h=> ?_) (by simp [Entry.ver]) (fun _ h=> .inl h) hcell (fun ad h=> ?_) p2.size (fun k hk' hne=>p2.block k hk' (fun h=>hne (by rw [hblk0,h]))) ?_ (fun g hg=> ?_)
   ·unfold Key.with at h
    split at h
    ·rename_i hcc;exact .inr ⟨hcc.1,by rw [hcc.2];simp [Entry.ver]⟩
    ·exact .inl h
   ·rcases h with h|⟨_,q1,q2,_⟩
    ·exact .inl h
    ·exact .inr ⟨by rw [hblk1];exact q1,(hlt' _ q1).2,q2⟩
   ·refine ⟨v',xs++news,by rw [hlenapp];exact Key.with_same _ _ _ _,by rw [hlenapp];exact p1,hvr',hpos2,fun c hc=> ?_,fun c hc=> ?_,fun hi=> ?_,fun g hg=>⟨fun ad ha hab=> ?_,fun hi o ho=> .inr ⟨hi,hg,rfl,by rw [hlenapp] at ho;exact ho⟩⟩⟩
    ·rcases yai.1 hc with h|h
     ·exact hlens _ h
     ·exact hlen _ h
    ·rcases yai.1 hc with h|h
     ·exact hones0 _ h
     ·exact g4 _ h
    ·refine ⟨hvr'.1,fun j h h'=> ?_⟩
     have q0:=hir hi
     have hl0:=q0.1
     by_cases hj:j<els.flatten.length
     ·have e1:(els++m).flatten[j]=els.flatten[j]:=by simp only [ycd];rw [yce hj]
      have e2:(xs++news)[j]=xs[j]'(by omega):=by rw [yce (by omega)]
      rw [e1,e2]
      exact (q0.2 j hj (by omega)).mono (fun _ h=> .inl h) hcell
     ·have e1:(els++m).flatten[j]=m.flatten[j-els.flatten.length]'(by rw [ycd,yag] at h;omega):=by
       simp only [ycd];rw [ycc (by omega)]
      have e2:(xs++news)[j]=news[j-els.flatten.length]'(by rw [yag] at h';omega):=by
       rw [ycc (by omega)];congr 1;omega
      rw [e1,e2]
      exact ((hfix hi).2 _ _ _).mono (fun _ h=> .inl h) hcell
    ·rw [hlenapp]
     rcases ha with ha|⟨q1,q2,q3,q4⟩
     ·rcases p3 g hg with h|h
      ·have:=(him g h).1 ad ha hab
       refine ⟨this.1, ?_⟩
       have:=this.2
       have:=yas size (Nat.le_add_right els.length m.length)
       omega
      ·have:=(hs.imlt ad ha).1
       omega
     ·exact ⟨q1,q4⟩
   ·rw [hblk1] at hg
    rcases p3 g hg with h|h
    ·exact .inr (by rw [hblk0];exact h)
    ·exact .inl h
  ·rcases h with h|⟨_,q1,_⟩
   ·exact .inl h
   ·exact .inr (hlt' _ q1).1
  ·have:=hown.lt k hkk.symm
   omega
def zwQ (P:Program) (Im:Addr→Prop) (w:World) (σ:zac) (K:AV→zac→Prop) (e size bytes:Nat) (m:List (List AV)) (news:List Value):AV→Prop
 | .nils=>(m= []∧K .nils σ)∨∃im,(im=true→IRL Im w m.flatten news)∧m.length*bytes≤140737488355328∧m.length≤9223372036854775807∧K (.row σ.length m.length) (σ++ [.row e size m im])
 | .row id n=>∃els im,σ[id]? =some (.row e size els im)∧(im=true→IRL Im w m.flatten news)∧els.length=n∧(n+m.length)*bytes≤140737488355328∧n+m.length≤9223372036854775807∧K (.row id (n+m.length)) (σ.set id (.row e size (els++m) im))
 | .sub id n sz lo hi=>∃els,σ[id]? =some (.row e size els false)∧els.length=n∧0<n∧sz=size∧lo=0∧(hi+m.length)*bytes≤140737488355328∧hi+m.length≤9223372036854775807∧K (.row σ.length (hi+m.length)) (σ.set id (.dead n)++ [.row e size (els.take hi++m) false])
 |_=>False
theorem zwO {id e size hi b cap:Nat} {els:List (List AV)} (hs:SRel base κ Im σ w) (hent:σ[id]? =some (.row e size els false)) (hk:κ id els.length=some (.slice (some ⟨b,0,none⟩) els.length cap)) (hhi:hi≤els.length):
  ∃κ1,VR κ1 Im w (.row σ.length hi) (.slice (some ⟨b,0,none⟩) hi cap)∧SRel base κ1 Im (σ.set id (.dead els.length)++ [.row e size (els.take hi) false]) w∧Grow base κ Im w κ1 Im w:=by
 have hfree:∀k u,κ σ.length k=some u→False:=fun k u h=>by obtain ⟨e,h1,_⟩:=hs.dom _ _ _ h;simp at h1
 obtain ⟨u,hu⟩:∃u:Value,u=.slice (some ⟨b,0,none⟩) hi cap:=⟨_,rfl⟩
 rw [←hu]
 have hκ:=Key.with_new hfree hi u
 have hid:id<σ.length:=(yaa.1 hent).1
 obtain ⟨v0,xs,hv0,hown,hvr,hpos2,hlens,hones0,hir,him⟩:=hs.ent _ _ hent
 rw [hk] at hv0;cases hv0
 have hblk:(Entry.row e size els false).block κ id=some b:=by simp [Entry.block,hk,Value.ownBlock]
 obtain ⟨cur,hbb,hg,hnc,hcm,hcs,htk⟩:∃cur,base≤b∧w.heap[b]? =some (.cells cur e (0,0))∧els.length≤cap∧cap≤maxLen∧cur.size=cap*size∧cur.toList.take (els.length*size)=xs:=by
  rcases hown.2 with ⟨h,_⟩|⟨g,cap',cur,h1,h2,h3,h4,h5,h6,h7⟩
  ·cases h
  ·simp only [Value.slice.injEq,yab,Addr.mk.injEq] at h1
   obtain ⟨⟨rfl,_,_⟩,_,rfl⟩:=h1
   exact ⟨cur,h2,h3,h4,h5,h6,h7⟩
 have hml:(els.take hi).length=hi:=by simp;omega
 have hle:hi*size≤els.length*size:=yas size hhi
 have hfl:(els.take hi).flatten=els.flatten.take (hi*size):=zcz _ _ hlens
 have hfll:els.flatten.length=els.length*size:=by rw [hvr.1];exact hown.1
 have hnew:EOK (κ.with σ.length hi u) Im base w σ.length (.row e size (els.take hi) false):=by
  refine ⟨u,xs.take (hi*size),by rw [hml];exact Key.with_same _ _ _ _, ?_, ?_,hpos2,fun c hc=>hlens c (yak hc),fun c hc=>hones0 c (yak hc),fun h=>(by cases h),fun g hg=>⟨fun a ha hab=> ?_,fun h=>by cases h⟩⟩
  ·rw [hml]
   refine ⟨by rw [yan,hown.1];omega,.inr ⟨b,cap,cur,hu,hbb,hg,by omega,hcm,hcs, ?_⟩⟩
   rw [←htk,yd4]
   congr 1;omega
  ·rw [hfl]
   refine ⟨by rw [yan,yan,hvr.1],fun j h h'=> ?_⟩
   rw [yan] at h h'
   have:=hvr.2 j (by omega) (by omega)
   rw [yb7,yb7]
   exact this.mono hκ (fun _ h=>h) (fun _ _=>rfl)
  ·rw [hu] at hg
   simp only [Value.ownBlock,yab] at hg
   exact absurd ((him b (by simp [Value.ownBlock])).1 a ha (by rw [hab,hg])).1 (by simp)
 refine ⟨κ.with σ.length hi u, ?_,⟨hs.hb,fun i n v h=> ?_,fun i e' h0=> ?_,fun i j e1 e2 b' hij h1 h2 hb1 hb2=> ?_,hs.imlt,hs.glob⟩,⟨hκ,fun _ h=>h,fun _ _=>rfl,fun _ h=> .inl h,Below.refl _ _⟩⟩
 ·have:=Key.with_same κ σ.length hi u
  rw [hu] at this⊢
  exact .row _ _ _ _ this
 ·unfold Key.with at h
  split at h
  ·rename_i hcc
   refine ⟨.row e size (els.take hi) false,by rw [hcc.1,yaj (by simp)];simp, ?_⟩
   simp only [Entry.ver]
   omega
  ·obtain ⟨e',h1,h2⟩:=hs.dom _ _ _ h
   have hil:=(yaa.1 h1).1
   by_cases hi':i=id
   ·subst hi'
    rw [hent] at h1;cases h1
    exact ⟨.dead els.length,by rw [yar (by simpa using hil),ybj hid],h2⟩
   ·exact ⟨e',by rw [yar (by simpa using hil),yba (Ne.symm hi')];exact h1,h2⟩
 ·by_cases hlt:i<σ.length
  ·rw [yar (by simpa using hlt)] at h0
   by_cases hi':i=id
   ·subst hi'
    rw [ybj hid] at h0
    simp at h0;subst h0
    trivial
   ·rw [yba (Ne.symm hi')] at h0
    exact (hs.ent _ _ h0).keep hκ (fun _ h=>h) (fun _ _=>rfl) (fun _ _=>rfl) (fun _ _ _ _ h=>h) (fun _ _ _ _ _=>rfl)
  ·rw [yaj (by simp;omega)] at h0
   have hx:=(yaa.1 h0).1
   simp at hx
   have:i=σ.length:=by omega
   subst this
   simp at h0;subst h0
   exact hnew
 ·have hblk1:(Entry.row e size (els.take hi) false).block (κ.with σ.length hi u) σ.length=some b:=by
   simp only [Entry.block,hml,Key.with_same]
   rw [hu];rfl
  have hcase:∀(i:Nat) (e':Entry) (b':Nat),(σ.set id (.dead els.length)++ [.row e size (els.take hi) false])[i]? =some e'→e'.block (κ.with σ.length hi u) i=some b'→(i<σ.length∧i≠id∧σ[i]? =some e'∧e'.block κ i=some b')∨(i=σ.length∧b'=b):=fun i e' b' h0 hb'=>by
   by_cases hlt:i<σ.length
   ·rw [yar (by simpa using hlt)] at h0
    by_cases hi':i=id
    ·subst hi'
     rw [ybj hid] at h0
     simp at h0;subst h0
     simp [Entry.block] at hb'
    ·rw [yba (Ne.symm hi')] at h0
     have k1:=zdS (b:=b') (hs.ent _ _ h0) hκ
     exact .inl ⟨hlt,hi',h0,k1▸hb'⟩
   ·rw [yaj (by simp;omega)] at h0
    have hx:=(yaa.1 h0).1
    simp at hx
    have:i=σ.length:=by omega
    subst this
    simp at h0;subst h0
    rw [hblk1] at hb'
    exact .inr ⟨rfl,by cases hb';rfl⟩
  rcases hcase i e1 b' h1 hb1 with ⟨a1,a2,a3,a4⟩|⟨a1,a2⟩<;>rcases hcase j e2 b' h2 hb2 with ⟨c1,c2,c3,c4⟩|⟨c1,c2⟩
  ·exact hs.sep i j e1 e2 b' hij a3 c3 a4 c4
  ·subst c2
   exact hs.sep i id e1 _ b' a2 a3 hent a4 hblk
  ·subst a2
   exact hs.sep id j _ e2 b' (Ne.symm c2) hent c3 hblk c4
  ·omega
theorem zr3 {o:Oper} {a:Act} {e size bytes:Nat} {X:AV} {u:Value} {m:List (List AV)} {news:List Value} {K:AV→zac→Prop} (hpos:0<size) (hlen:∀c∈m,c.length=size) (hs:SRel base κ Im σ w) (hx:VR κ Im w X u)
  (g3:VRL κ Im w m.flatten news) (g4:∀c∈m,∀v∈c,v.one=true) (hrun:z4J P w o a e size bytes u m news) (h:zwQ P Im w σ K e size bytes m news X):zeB P base κ Im w o a K:=by
 cases X
 case nils=>exact zoU hpos hlen hs hx g3 g4 hrun h
 case row id n=>exact zoU hpos hlen hs hx g3 g4 hrun h
 case sub id n sz lo hi=>
  obtain ⟨els,hent,rfl,h0,rfl,rfl,h1,h2,hK⟩:=h
  obtain ⟨b,cap,ad,c,rfl,hk,k1,k2,k3,k4,k7,k5,k6⟩:=hx.sub_inv'
  obtain ⟨v0,xs,hv0,hown,_⟩:=hs.ent _ _ hent
  rw [hk] at hv0;cases hv0
  have hcap:els.length≤cap:=by
   rcases hown.2 with ⟨h,_⟩|⟨g,cap',cur,h1,_,_,h4,_⟩
   ·cases h
   ·simp only [Value.slice.injEq] at h1
    obtain ⟨_,_,rfl⟩:=h1
    exact h4
  have had:=k3 (by omega)
  rw [Nat.zero_mul] at had
  subst had
  rw [Nat.sub_zero] at k7 hrun hx
  subst k7
  obtain ⟨κ1,q1,q2,q3⟩:=zwO hs hent hk k2
  have hsl:(σ.set id (.dead els.length)).length=σ.length:=by simp
  obtain ⟨v,w',κ',Im',r,σ',p1,p2,p3,p4,p5⟩:=zoU (K:=K) hpos hlen q2 q1 (g3.grow q3) g4 hrun ⟨els.take hi,false,by rw [yaj (by simp)];simp,fun h=>(by cases h),by simp;omega,h1,h2,by
   rw [ybi _ _ (by simp),hsl,ycx]
   exact hK⟩
  exact ⟨v,w',κ',Im',r,σ',p1,p2,p3,p4,q3.trans p5⟩
 all_goals exact h.elim
theorem zsF {t ty e:TypeId} {i:TypeInfo} {z:Value} (ht:P.underlying t=some (.slice e)) (hi:P.info? e=some i) (hz:i.zero=some z) (hzs:z.cells.size=i.size)
  {g:Option Addr} {n:Nat} {olds:List Value} (hol:olds.length=n*i.size) (hg:g=none→n=0) (holds:∀b,g=some b→∀j u,olds[j]? =some u→w.cell? (b.add j)=some u) (ad:Addr) (m c:Nat) (news:List Value) (hl:news.length=m*i.size) (hnews:∀j u,news[j]? =some u→w.cell? (ad.add j)=some u)
  (hm:0<m) (h63:n+m≤maxLen) (hbytes:(n+m)*i.bytes≤140737488355328):
  ∃v' w',(Builtin.append_ #[t,t] ty #[.slice g n n,.slice (some ad) m c]).run P w=.ok v' w'∧w'.ownsRow w.heap.size e i.size v' (n+m) (olds++news)∧w.grownBy w' none:=by
 have hsmall:n+m≤9223372036854775807:=by simp only [maxLen] at h63;omega
 have hlen:(olds++news).length=(n+m)*i.size:=by rw [yag,hol,hl,ya6]
 have hge:=grownCap_ge w (n+m) n e
 have hcm:grownCap w (n+m) n e≤maxLen:=grownCap_le_maxLen w (n+m) n e h63
 refine ⟨.slice (some ⟨w.heap.size,0,none⟩) (n+m) (grownCap w (n+m) n e),w.drew.alloc (.cells (olds.toArray++news.toArray++Builtin.zeroCells z.cells (grownCap w (n+m) n e-(n+m))) e), ?_,⟨hlen,.inr ⟨w.heap.size,_,_,rfl,yaq _,heap_alloc_new w.drew _,hge,hcm, ?_, ?_⟩⟩,⟨rfl,rfl,rfl,by simp,fun k hk _=>Below.heap_alloc w.drew _ k hk⟩⟩
 ·cases g with
  |none=>
   obtain rfl:=hg rfl
   have ho:olds= []:=yap (by simpa using hol)
   subst ho
   have hr:=run_append_nil (P:=P) w t ty e i z ht hi hz ad m c news hl hnews hm (by omega) (by simp only [ybe] at hbytes;omega)
   simpa using hr
  |some b=>exact run_append_grow (P:=P) w t ty e i z ht hi hz b n n olds hol (holds b rfl) ad m c news hl hnews (by omega) (by omega) (growslice_fits (by omega) hbytes)
 ·simp only [yeb,yec,size_zeroCells,hzs,hol,hl,←ya6]
  congr 1
  omega
 ·simp only [Array.toList_append,ya3]
  rw [←ya3,←hlen]
  exact List.take_left
theorem z5j {o:Oper} {c:Call} {s e size bytes:Nat} {x y:Opd} {i:TypeInfo} {z:Value} {f:Frame} {a:Act} {K:AV→zac→Prop} (ho:o.op=.call c) (hb:c.callee=.builtin .append) (hts:c.argTypes.toList= [s,s]) (hargs:c.args.toList.mapM opd=some [x,y])
  (ht:P.underlying s=some (.slice e)) (hi:P.info? e=some i) (hz:i.zero=some z) (hzs:z.cells.size=i.size) (hpos:0<i.size) (hsize:i.size=size) (hbytes:i.bytes=bytes)
  (hs:SRel base κ Im σ w) (hf:FRel κ Im w f a) (h:za0 P K f σ (.app e size bytes x y)):zeB P base κ Im w o a K:=by
 subst hsize;subst hbytes
 have hv:=zir (κ:=κ) (Im:=Im) (w:=w) hf hargs
 obtain ⟨u,v,hu⟩:∃u v,c.args.toList.map a.eval= [u,v]:=by
  match hq:c.args.toList.map a.eval,hv.1 with
  | [u,v],_=>exact ⟨u,v,rfl⟩
 rw [hu] at hv
 have hx:VR κ Im w (x.ev f) u:=hv.2 0 (by simp) (by simp)
 have hy:VR κ Im w (y.ev f) v:=hv.2 1 (by simp) (by simp)
 have hargs':c.args.map a.eval= #[u,v]:=by apply zeG;simpa using hu
 have hts':c.argTypes= #[s,s]:=zeG hts
 have hrun:∀r w',(Builtin.append_ #[s,s] o.type #[u,v]).run P w=.ok r w'→(execOp a.eval o).run P w=.ok (.value r) w':=by
  intro r w' hr
  simp only [execOp,ho,resolve,hb,yay,ya5,yal,invoke,builtin,hargs',hts',hr]
 simp only [za0] at h
 obtain ⟨m,hm,hpos',hlen,h⟩:=h
 by_cases hT:∃l,x.ev f=.tight l
 ·obtain ⟨l,hX⟩:=hT
  rw [hX] at h hx
  simp only at h
  obtain ⟨im,hl,hm0,hfix,hb,h63,hK⟩:=h
  obtain ⟨g,rfl,hir⟩:=hx.tight_inv
  rcases zh4 hs hy hm hlen hpos with ⟨rfl,rfl⟩|⟨ad,c',news,rfl,g1,g2,g3,g4,g5⟩
  ·exact absurd rfl hm0
  have hmp:0<m.length:=yda.2 hm0
  have hole:∃olds:List Value,olds.length=l.length*i.size∧(g=none→l.length=0)∧(∀b,g=some b→∀j u,olds[j]? =some u→w.cell? (b.add j)=some u)∧IRL Im w l.flatten olds∧∀c∈l,∀v∈c,v.one=true:=by
   rcases zt6 hs (.im _ _ hir) (by rfl) hl hpos with ⟨h1,rfl⟩|⟨ad0,c0,olds,h1,h2,h3,h4,h5⟩
   ·exact ⟨[],by simp,fun _=>rfl,fun b _ j u h=>by simp at h,⟨rfl,fun j h=>by simp at h⟩,by simp⟩
   ·simp only [Value.slice.injEq] at h1
    exact ⟨olds,h2,fun h=>by rw [h1.1] at h;(cases h),fun b hb=>by rw [h1.1] at hb;cases hb;exact h3,h4,h5⟩
  obtain ⟨olds,h2,hgn,h3,h4,h5⟩:=hole
  obtain ⟨v',w',hr,ho,hgb⟩:=zsF (ty:=o.type) ht hi hz hzs h2 hgn h3 ad m.length c' news g1 g2 hmp (by simp only [maxLen];omega) hb
  have hlm:(l++m).length=l.length+m.length:=yag
  have hvr:VRL κ Im w (l++m).flatten (olds++news):=by rw [ycd];exact (VRL.ofIR h4).append g3
  obtain ⟨κ',Im',q1,q2,q3⟩:=zmP (e:=e) (size:=i.size) (m:=l++m) (im:=im) hs rfl hpos (fun c hc=>(yai.1 hc).elim (hl c) (hlen c)) (fun c hc=>(yai.1 hc).elim (h5 c) (g4 c)) (by rw [hlm];exact ho) (fun k hk=>hgb.block k hk (by simp)) hgb.size hgb.os hgb.tape hgb.output hvr (fun hi'=>by
   rw [ycd]
   have h6:=g5 (hfix hi')
   refine ⟨by rw [yag,yag,h4.1,h6.1],fun j h h'=> ?_⟩
   by_cases hj:j<l.flatten.length
   ·rw [yce hj,yce (by rw [←h4.1];exact hj)]
    exact h4.2 _ _ _
   ·rw [ycc (by omega),ycc (by rw [←h4.1];omega)]
    have:=h6.2 (j-l.flatten.length) (by rw [yag] at h;omega) (by rw [yag,←h4.1] at h';omega)
    simpa only [h4.1] using this)
  rw [hlm] at q1
  exact ⟨_,_,κ',Im',_,_,.inl (hrun _ _ hr),hK,q1,q2,q3⟩
 have hask:∀news,(zlE σ (y.ev f) m→IRL Im w m.flatten news)→zwQ P Im w σ K e i.size i.bytes m news (x.ev f):=by
  intro news hn
  revert h
  cases hXX:x.ev f<;>simp only [zwQ]<;>intro h<;>first|exact h.elim|skip
  ·rcases h with h|⟨im,q1,q2⟩
   ·exact .inl h
   ·exact .inr ⟨im,fun hi=>hn (q1 hi),q2⟩
  ·obtain ⟨els,im,q1,q2,q3⟩:=h
   exact ⟨els,im,q1,fun hi=>hn (q2 hi),q3⟩
  ·exact h
  ·exact absurd ⟨_,hXX⟩ hT
 rcases zh4 hs hy hm hlen hpos with ⟨rfl,rfl⟩|⟨ad,c',news,rfl,g1,g2,g3,g4,g5⟩
 ·refine zr3 hpos hlen hs hx (news:= []) ⟨rfl,fun j h=>by simp at h⟩ (by simp) (fun b0 n xs hown h63 hb hle=> ?_) (hask [] fun _=>⟨rfl,fun j h=>by simp at h⟩)
  obtain ⟨q1,q2⟩:∃bb cap,u=.slice bb n cap:=by
   rcases hown.2 with ⟨h1,h2⟩|⟨g,cap,_,h1,_⟩
   ·exact ⟨none,0,by rw [h1,h2]⟩
   ·exact ⟨_,_,h1⟩
  obtain ⟨cap,rfl⟩:=q2
  exact ⟨_,w,hrun _ _ (run_append_owned_none (P:=P) (w:=w) b0 s o.type e i i.size ht hi _ _ xs hown),by simpa using hown,⟨rfl,rfl,rfl,yaq _,fun _ _ _=>rfl⟩,fun g hg=> .inl hg,fun _=>⟨rfl,rfl⟩,fun _ _ _ _=>rfl⟩
 ·have hones:∀u∈news,u.oneCell'=true:=zeT g3 (fun c hc=>by obtain ⟨l,hl,hcl⟩:=ybk.1 hc;exact g4 l hl c hcl)
  refine zr3 hpos hlen hs hx g3 g4 (fun b0 n xs hown h63 hb hle=> ?_) (hask news g5)
  obtain ⟨v',w',hr,p1,p2,p3,p4,p5⟩:=zyQ (ty:=o.type) ht hi hz hzs hpos b0 hown ad m.length c' news g1 g2 hones h63 hb hle
  exact ⟨v',w',hrun _ _ hr,p1,p2,p3,p4,p5⟩
theorem zqb {t u ty e:TypeId} {i:TypeInfo} (ht:P.underlying t=some (.slice e)) (hu:P.underlying u=some .string) (hi:P.info? e=some i) (hz:i.zero=some (.int .u8 0)) (hsz:i.size=1) (hby:i.bytes=1)
  {v:Value} {n:Nat} {xs:List Value} (b0:Nat) (hown:w.ownsRow b0 e 1 v n xs) (s:ByteArray) (h63:n+s.size≤maxLen) (hbytes:n+s.size≤140737488355328) (hbase:b0≤w.heap.size):
  ∃v' w',(Builtin.append_ #[t,u] ty #[v,.string s]).run P w=.ok v' w'∧w'.ownsRow b0 e 1 v' (n+s.size) (xs++Lib.strCells s)∧w.grownBy w' v.ownBlock∧(∀g,v'.ownBlock=some g→v.ownBlock=some g∨w.heap.size≤g)∧(s.size=0→v'=v∧w'=w)∧
   (∀g j,v.ownBlock=some g→j<n*1→w'.cell? ⟨g,j,none⟩=w.cell? ⟨g,j,none⟩):=by
 obtain ⟨v',w',hr,ho,hg,hiff⟩:=Lib.run_append_own_string (P:=P) w b0 t u ty e i ht hu hi hz hsz hby v n xs hown s h63 hbytes hbase
 have hsmall:n+s.size≤9223372036854775807:=by simp only [maxLen] at h63;omega
 have hxl:xs.length=n:=by simpa using hown.1
 have hzero:s.size=0→v'=v∧w'=w:=by
  intro hm
  have hle:∃b cap,v=.slice b n cap∧n≤cap:=by
   rcases hown.2 with ⟨h1,h2⟩|⟨g',cap',cur,h1,_,_,hnc,_⟩
   ·exact ⟨none,0,by rw [h1,h2],by omega⟩
   ·exact ⟨_,_,h1,hnc⟩
  obtain ⟨b,cap,rfl,hle⟩:=hle
  have hf:=Lib.run_firstCells_string (P:=P) w 1 s
  rw [hm] at hf
  have hs0:Lib.strCells s= []:=yap (by rw [Lib.strCells_length];exact hm)
  have:(Builtin.append_ #[t,u] ty #[.slice b n cap,.string s]).run P w=.ok (.slice b n cap) w:=by
   cases b<;>simp [Builtin.append_,run_underlying ht,run_underlying hu,sizeOf,typeInfo,hi,hsz,Builtin.lenOf,hle,hm,hf,hs0,storeCells]
  rw [this] at hr
  cases hr
  exact ⟨rfl,rfl⟩
 refine ⟨v',w',hr,ho,hg,fun g hgb=> ?_,hzero,fun g j hgb hj=> ?_⟩
 ·by_cases hm:s.size=0
  ·obtain ⟨rfl,rfl⟩:=hzero hm
   exact .inl hgb
  rcases hown.2 with ⟨rfl,rfl⟩|⟨g',cap,cur,rfl,hbg,hgg,hnc,hcm,hcs,htake⟩
  ·have hr2:=run_append_nil_string (P:=P) w t u ty e i (.int .u8 0) ht hu hi hz s (by omega) (by omega) (by rw [hby];omega)
   rw [hr2] at hr
   cases hr
   simp [Value.ownBlock] at hgb;right;omega
  ·by_cases hroom:n+s.size≤cap
   ·have hr2:=Lib.run_append_room_string (P:=P) w t u ty e i ht hu hi hsz g' n cap cur hgg s hroom (by omega)
    rw [hr2] at hr
    cases hr
    exact .inl hgb
   ·have holds:∀j u,xs[j]? =some u→w.cell? ((⟨g',0,none⟩:Addr).add j)=some u:=hown.cells (g:=g') rfl
    have hr2:=Lib.run_append_grow_string (P:=P) w t u ty e i (.int .u8 0) ht hu hi hz ⟨g',0,none⟩ n cap xs (by rw [hsz];exact hown.1) holds s (by omega) (by omega) (by rw [hby];exact growslice_fits (by omega) (by omega))
    rw [hr2] at hr
    cases hr
    simp [Value.ownBlock] at hgb;right;omega
 ·rcases hown.2 with ⟨rfl,rfl⟩|⟨g',cap,cur,rfl,hbg,hgg,hnc,hcm,hcs,htake⟩
  ·simp [Value.ownBlock] at hgb
  ·simp only [Value.ownBlock,yab] at hgb;subst hgb
   by_cases hroom:n+s.size≤cap
   ·have hr2:=Lib.run_append_room_string (P:=P) w t u ty e i ht hu hi hsz g' n cap cur hgg s hroom (by omega)
    rw [hr2] at hr
    cases hr
    rw [cell_setRow_same w g' j cur _ e _ hgg,cell_of_row w g' j cur e (0,0) hgg]
    have hjl:j<(cur.toList.take n).length:=by rw [yan];simp;omega
    rw [List.getElem?_toArray,ya3,yar hjl,ybo,if_pos (by omega)]
    simp
   ·have holds:∀j u,xs[j]? =some u→w.cell? ((⟨g',0,none⟩:Addr).add j)=some u:=hown.cells (g:=g') rfl
    have hr2:=Lib.run_append_grow_string (P:=P) w t u ty e i (.int .u8 0) ht hu hi hz ⟨g',0,none⟩ n cap xs (by rw [hsz];exact hown.1) holds s (by omega) (by omega) (by rw [hby];exact growslice_fits (by omega) (by omega))
    rw [hr2] at hr
    cases hr
    exact ya8 (Below.heap_alloc _ _ _ (by simpa using (ya7.1 hgg).1))
theorem zu4 (l:List UInt8):(byteEls l).flatten=l.map fun b=> .int .u8 b.toNat:=by
 unfold byteEls
 induction l with
 |nil=>rfl
 |cons b l ih=>simp [ih]
theorem zma (l:List UInt8):IRL Im w (byteEls l).flatten (Lib.strCells ⟨l.toArray⟩):=by
 rw [zu4]
 refine ⟨by simp [Lib.strCells],fun j h h'=> ?_⟩
 simp only [Lib.strCells,yc2]
 exact .int _ _
theorem z4s {o:Oper} {c:Call} {s u e:Nat} {x y:Opd} {i:TypeInfo} {f:Frame} {a:Act} {K:AV→zac→Prop} (ho:o.op=.call c) (hb:c.callee=.builtin .append) (hts:c.argTypes.toList= [s,u]) (hargs:c.args.toList.mapM opd=some [x,y])
  (ht:P.underlying s=some (.slice e)) (hu:P.underlying u=some .string) (hi:P.info? e=some i) (hz:i.zero=some (.int .u8 0)) (hsz:i.size=1) (hby:i.bytes=1)
  (hs:SRel base κ Im σ w) (hf:FRel κ Im w f a) (h:za0 P K f σ (.apps e x y)):zeB P base κ Im w o a K:=by
 have hv:=zir (κ:=κ) (Im:=Im) (w:=w) hf hargs
 obtain ⟨p,q,hpq⟩:∃p q,c.args.toList.map a.eval= [p,q]:=by
  match hq:c.args.toList.map a.eval,hv.1 with
  | [p,q],_=>exact ⟨p,q,rfl⟩
 rw [hpq] at hv
 have hx:VR κ Im w (x.ev f) p:=hv.2 0 (by simp) (by simp)
 have hy:VR κ Im w (y.ev f) q:=hv.2 1 (by simp) (by simp)
 have hargs':c.args.map a.eval= #[p,q]:=by apply zeG;simpa using hpq
 have hts':c.argTypes= #[s,u]:=zeG hts
 simp only [za0] at h
 obtain ⟨l,hl,h⟩:=h
 rw [hl] at hy
 have hq:=hy.str_inv
 subst hq
 have hrun:∀r w',(Builtin.append_ #[s,u] o.type #[p,.string ⟨l.toArray⟩]).run P w=.ok r w'→(execOp a.eval o).run P w=.ok (.value r) w':=by
  intro r w' hr
  simp only [execOp,ho,resolve,hb,yay,ya5,yal,invoke,builtin,hargs',hts',hr]
 have hbl:(byteEls l).length=l.length:=by simp [byteEls]
 have hsl:(⟨l.toArray⟩:ByteArray).size=l.length:=by simp [ByteArray.size]
 refine zr3 (e:=e) (size:=1) (bytes:=1) (m:=byteEls l) (news:=Lib.strCells ⟨l.toArray⟩) (by omega) (fun c hc=> ?_) hs hx (VRL.ofIR (zma l)) (fun c hc v hv=> ?_) (fun b0 n xs hown h63 hb hle=> ?_) ?_
 ·simp only [byteEls,yav] at hc
  obtain ⟨b,_,rfl⟩:=hc;rfl
 ·simp only [byteEls,yav] at hc
  obtain ⟨b,_,rfl⟩:=hc
  rw [ybh.1 hv];rfl
 ·rw [hbl] at h63 hb⊢
  obtain ⟨v',w',hr,p1,p2,p3,p4,p5⟩:=zqb (ty:=o.type) ht hu hi hz hsz hby b0 hown ⟨l.toArray⟩ (by rw [hsl];exact h63) (by rw [hsl];omega) hle
  rw [hsl] at p1 p4
  exact ⟨v',w',hrun _ _ hr,p1,p2,p3,p4,p5⟩
 ·revert h
  cases x.ev f<;>simp only [zwQ]<;>intro h<;>first|exact h.elim|skip
  ·rcases h with ⟨rfl,h⟩|⟨im,q1,q2⟩
   ·exact .inl ⟨rfl,h⟩
   ·exact .inr ⟨im,fun _=>zma l,by rw [hbl];omega,by rw [hbl];omega,by rw [hbl];exact q2⟩
  ·obtain ⟨els,im,q1,q2,q3,q4⟩:=h
   exact ⟨els,im,q1,fun _=>zma l,q2,by rw [hbl];omega,by rw [hbl];omega,by rw [hbl];exact q4⟩
end
end Go.Abs
end
