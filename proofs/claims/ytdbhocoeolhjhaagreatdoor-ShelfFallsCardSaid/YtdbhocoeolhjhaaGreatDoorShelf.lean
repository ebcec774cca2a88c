import Derived.Shelf.Small.Bits
import Derived.Shelf.Small.Strs
import Derived.Shelf.Small.Wraps
import Derived.Shelf.Utf8.RuneCount
import Derived.Shelf.Strconv.Itoa0
import Derived.Shelf.Strconv.Itoa1
import Derived.Shelf.LaysM
import Derived.Shelf.Strconv.Itoa2
import Derived.Shelf.Strconv.Itoa3
import Derived.Shelf.Strconv.Itoa4
import Derived.Shelf.Strings.Search1
import Derived.Shelf.Strings.Search2
import Derived.Shelf.Strings.Search3
import Derived.Shelf.Strings.Count
import Derived.Shelf.Strings.Shaped
import Derived.Shelf.Strings.Prefix
import Derived.Shelf.Strings.Split
import Derived.Shelf.Strings.SplitShaped
import Derived.Shelf.Strings.RuneCount
import Derived.Shelf.Bits.Mul64
import Derived.Shelf.Unicode.DecodeSlow
import Derived.Test.YtdbhocoeolhjhaaGreatDoorProg
namespace Go.Proofs.Tryz
open Go.Shelf
def lays134_ren:Go.Shelf.Ren:=⟨fun|134=>351|129=>241|n=>n,fun|53=>199|3=>3|4=>4|46=>228|5=>5|9=>9|n=>n,fun|n=>n⟩
theorem lays134:Go.Proofs.Lays.n134 Tryz.prog lays134_ren:={
 mixed:=by kernel_rfl
 f129:=func241.trans (congrArg some (by kernel_rfl))
 f134:=func351.trans (congrArg some (by kernel_rfl))
 t3:=underlying3
 a3:=isAgg3
 z3:=sizeOf3
 v3:=zeroValue3
 t4:=underlying4
 a4:=isAgg4
 z4:=sizeOf4
 v4:=zeroValue4
 t5:=underlying5
 a5:=isAgg5
 z5:=sizeOf5
 v5:=zeroValue5
 t9:=underlying9
 a9:=isAgg9
 z9:=sizeOf9
 v9:=zeroValue9
 t46:=underlying228
 a46:=isAgg228
 z46:=sizeOf228
 v46:=zeroValue228
 t53:=underlying199
 a53:=isAgg199
 z53:=sizeOf199
 v53:=zeroValue199 }
theorem bits_LeadingZeros64 (x:Int) (w:World) (h0:0<=x) (h1:x<=18446744073709551615) :
    Calls Tryz.prog 351 #[.int .u64 x] w fun e w'=>e=.returned (.int .i64 (64 - (Lib.bitLen x.toNat:Int)))/\w'=w:=Any.bits_LeadingZeros64 lays134 x w h0 h1
def lays106_ren:Go.Shelf.Ren:=⟨fun|106=>79|213=>143|265=>207|n=>n,fun|9=>9|3=>3|n=>n,fun|n=>n⟩
theorem lays106:Go.Proofs.Lays.n106 Tryz.prog lays106_ren:={
 mixed:=by kernel_rfl
 f106:=func79.trans (congrArg some (by kernel_rfl))
 f213:=func143.trans (congrArg some (by kernel_rfl))
 f265:=func207.trans (congrArg some (by kernel_rfl))
 t3:=underlying3
 a3:=isAgg3
 z3:=sizeOf3
 v3:=zeroValue3
 t9:=underlying9
 a9:=isAgg9
 z9:=sizeOf9
 v9:=zeroValue9 }
open Go.RowKit in
theorem strings_Compare (a b:ByteArray) (w:World) :
    Calls Tryz.prog 79 #[.string a,.string b] w fun e w'=>e=.returned (.int .i64 (Lib.compareBytes a.data.toList b.data.toList))/\w'=w:=Any.strings_Compare lays106 a b w
def lays137_ren:Go.Shelf.Ren:=⟨fun|137=>319|217=>336|266=>347|n=>n,fun|9=>9|5=>5|3=>3|n=>n,fun|n=>n⟩
theorem lays137:Go.Proofs.Lays.n137 Tryz.prog lays137_ren:={
 mixed:=by kernel_rfl
 f137:=func319.trans (congrArg some (by kernel_rfl))
 f217:=func336.trans (congrArg some (by kernel_rfl))
 f266:=func347.trans (congrArg some (by kernel_rfl))
 t3:=underlying3
 a3:=isAgg3
 z3:=sizeOf3
 v3:=zeroValue3
 t5:=underlying5
 a5:=isAgg5
 z5:=sizeOf5
 v5:=zeroValue5
 t9:=underlying9
 a9:=isAgg9
 z9:=sizeOf9
 v9:=zeroValue9 }
open Go.RowKit in
theorem strings_IndexByte (s:ByteArray) (c:Int) (w:World) :
    Calls Tryz.prog 319 #[.string s,.int .u8 c] w fun e w'=>e=.returned (.int .i64 (Lib.indexByte s.data.toList c.toNat.toUInt8))/\w'=w:=Any.strings_IndexByte lays137 s c w
def lays122_ren:Go.Shelf.Ren:=⟨fun|122=>111|215=>173|n=>n,fun|3=>3|4=>4|n=>n,fun|n=>n⟩
theorem lays122:Go.Proofs.Lays.n122 Tryz.prog lays122_ren:={
 mixed:=by kernel_rfl
 f122:=func111.trans (congrArg some (by kernel_rfl))
 f215:=func173.trans (congrArg some (by kernel_rfl))
 t3:=underlying3
 a3:=isAgg3
 z3:=sizeOf3
 v3:=zeroValue3
 t4:=underlying4
 a4:=isAgg4
 z4:=sizeOf4
 v4:=zeroValue4 }
open Go.RowKit in
theorem cmp_Compare_int (x y:Int) (w:World) :
    Calls Tryz.prog 111 #[.int .i64 x,.int .i64 y] w fun e w'=>e=.returned (.int .i64 (Lib.compareInt x y))/\w'=w:=Any.cmp_Compare_int lays122 x y w
def lays171_ren:Go.Shelf.Ren:=⟨fun|171=>96|243=>168|246=>221|283=>266|284=>267|285=>268|286=>269|129=>241|317=>298|318=>299|319=>300|320=>301|337=>321|338=>322|n=>n,fun|3=>3|9=>9|2=>2|4=>4|171=>315|0=>0|53=>199|37=>70|5=>5|173=>317|212=>344|51=>286|20=>20|213=>345|46=>228|232=>376|233=>377|n=>n,fun|17=>1|18=>3|19=>4|n=>n⟩
theorem lays171:Go.Proofs.Lays.n171 Tryz.prog lays171_ren:={
 mixed:=by kernel_rfl
 f129:=func241.trans (congrArg some (by kernel_rfl))
 f171:=func96.trans (congrArg some (by kernel_rfl))
 f243:=func168.trans (congrArg some (by kernel_rfl))
 f246:=func221.trans (congrArg some (by kernel_rfl))
 f283:=func266.trans (congrArg some (by kernel_rfl))
 f284:=func267.trans (congrArg some (by kernel_rfl))
 f285:=func268.trans (congrArg some (by kernel_rfl))
 f286:=func269.trans (congrArg some (by kernel_rfl))
 f317:=func298.trans (congrArg some (by kernel_rfl))
 f318:=func299.trans (congrArg some (by kernel_rfl))
 f319:=func300.trans (congrArg some (by kernel_rfl))
 f320:=func301.trans (congrArg some (by kernel_rfl))
 f337:=func321.trans (congrArg some (by kernel_rfl))
 f338:=func322.trans (congrArg some (by kernel_rfl))
 t0:=underlying0
 a0:=isAgg0
 z0:=sizeOf0
 v0:=zeroValue0
 t2:=underlying2
 a2:=isAgg2
 z2:=sizeOf2
 v2:=zeroValue2
 t3:=underlying3
 a3:=isAgg3
 z3:=sizeOf3
 v3:=zeroValue3
 t4:=underlying4
 a4:=isAgg4
 z4:=sizeOf4
 v4:=zeroValue4
 t5:=underlying5
 a5:=isAgg5
 z5:=sizeOf5
 v5:=zeroValue5
 t9:=underlying9
 a9:=isAgg9
 z9:=sizeOf9
 v9:=zeroValue9
 t20:=underlying20
 a20:=isAgg20
 z20:=sizeOf20
 v20:=zeroValue20
 t37:=underlying70
 a37:=isAgg70
 z37:=sizeOf70
 v37:=zeroValue70
 t46:=underlying228
 a46:=isAgg228
 z46:=sizeOf228
 v46:=zeroValue228
 t51:=underlying286
 a51:=isAgg286
 z51:=sizeOf286
 v51:=zeroValue286
 t53:=underlying199
 a53:=isAgg199
 z53:=sizeOf199
 v53:=zeroValue199
 t171:=underlying315
 a171:=isAgg315
 z171:=sizeOf315
 v171:=zeroValue315
 t173:=underlying317
 a173:=isAgg317
 z173:=sizeOf317
 v173:=zeroValue317
 t212:=underlying344
 a212:=isAgg344
 z212:=sizeOf344
 v212:=zeroValue344
 t213:=underlying345
 a213:=isAgg345
 z213:=sizeOf345
 t232:=underlying376
 a232:=isAgg376
 z232:=sizeOf376
 v232:=zeroValue376
 t233:=underlying377
 a233:=isAgg377
 z233:=sizeOf377
 v233:=zeroValue377
 g17:=by kernel_rfl
 g18:=by kernel_rfl
 g19:=by kernel_rfl }
open Go.RowKit Go.Sort Go.Lib in
theorem strconv_Itoa_small (i:Nat) (hi:i < 100) (w:World) :
    Calls Tryz.prog 96 #[.int .i64 i] w fun e w'=>e=.returned (.string ⟨(Lib.decDigits i).toArray⟩)/\w'=w:=Any.strconv_Itoa_small lays171 i hi w
def lays173_ren:Go.Shelf.Ren:=⟨fun|173=>272|246=>221|283=>266|284=>267|285=>268|286=>269|129=>241|317=>298|318=>299|319=>300|320=>301|337=>321|338=>322|n=>n,fun|2=>2|3=>3|9=>9|4=>4|171=>315|0=>0|53=>199|37=>70|5=>5|173=>317|212=>344|51=>286|20=>20|213=>345|46=>228|232=>376|233=>377|n=>n,fun|17=>1|18=>3|19=>4|n=>n⟩
theorem lays173:Go.Proofs.Lays.n173 Tryz.prog lays173_ren:={
 mixed:=by kernel_rfl
 f129:=func241.trans (congrArg some (by kernel_rfl))
 f173:=func272.trans (congrArg some (by kernel_rfl))
 f246:=func221.trans (congrArg some (by kernel_rfl))
 f283:=func266.trans (congrArg some (by kernel_rfl))
 f284:=func267.trans (congrArg some (by kernel_rfl))
 f285:=func268.trans (congrArg some (by kernel_rfl))
 f286:=func269.trans (congrArg some (by kernel_rfl))
 f317:=func298.trans (congrArg some (by kernel_rfl))
 f318:=func299.trans (congrArg some (by kernel_rfl))
 f319:=func300.trans (congrArg some (by kernel_rfl))
 f320:=func301.trans (congrArg some (by kernel_rfl))
 f337:=func321.trans (congrArg some (by kernel_rfl))
 f338:=func322.trans (congrArg some (by kernel_rfl))
 t0:=underlying0
 a0:=isAgg0
 z0:=sizeOf0
 v0:=zeroValue0
 t2:=underlying2
 a2:=isAgg2
 z2:=sizeOf2
 v2:=zeroValue2
 t3:=underlying3
 a3:=isAgg3
 z3:=sizeOf3
 v3:=zeroValue3
 t4:=underlying4
 a4:=isAgg4
 z4:=sizeOf4
 v4:=zeroValue4
 t5:=underlying5
 a5:=isAgg5
 z5:=sizeOf5
 v5:=zeroValue5
 t9:=underlying9
 a9:=isAgg9
 z9:=sizeOf9
 v9:=zeroValue9
 t20:=underlying20
 a20:=isAgg20
 z20:=sizeOf20
 v20:=zeroValue20
 t37:=underlying70
 a37:=isAgg70
 z37:=sizeOf70
 v37:=zeroValue70
 t46:=underlying228
 a46:=isAgg228
 z46:=sizeOf228
 v46:=zeroValue228
 t51:=underlying286
 a51:=isAgg286
 z51:=sizeOf286
 v51:=zeroValue286
 t53:=underlying199
 a53:=isAgg199
 z53:=sizeOf199
 v53:=zeroValue199
 t171:=underlying315
 a171:=isAgg315
 z171:=sizeOf315
 v171:=zeroValue315
 t173:=underlying317
 a173:=isAgg317
 z173:=sizeOf317
 v173:=zeroValue317
 t212:=underlying344
 a212:=isAgg344
 z212:=sizeOf344
 v212:=zeroValue344
 t213:=underlying345
 a213:=isAgg345
 z213:=sizeOf345
 t232:=underlying376
 a232:=isAgg376
 z232:=sizeOf376
 v232:=zeroValue376
 t233:=underlying377
 a233:=isAgg377
 z233:=sizeOf377
 v233:=zeroValue377
 g17:=by kernel_rfl
 g18:=by kernel_rfl
 g19:=by kernel_rfl }
open Go.RowKit Go.Sort Go.Lib in
theorem strconv_FormatInt_10_small (i:Nat) (hi:i < 100) (w:World) :
    Calls Tryz.prog 272 #[.int .i64 i,.int .i64 10] w fun e w'=>e=.returned (.string ⟨(Lib.decDigits i).toArray⟩)/\w'=w:=Any.strconv_FormatInt_10_small lays173 i hi w
def lays143_ren:Go.Shelf.Ren:=⟨fun|143=>304|219=>326|217=>336|225=>338|224=>339|267=>340|266=>347|314=>348|n=>n,fun|9=>9|3=>3|4=>4|5=>5|46=>228|146=>356|51=>286|n=>n,fun|1=>0|n=>n⟩
theorem lays143:Go.Proofs.Lays.n143 Tryz.prog lays143_ren:={
 mixed:=by kernel_rfl
 f143:=func304.trans (congrArg some (by kernel_rfl))
 f217:=func336.trans (congrArg some (by kernel_rfl))
 f219:=func326.trans (congrArg some (by kernel_rfl))
 f224:=func339.trans (congrArg some (by kernel_rfl))
 f225:=func338.trans (congrArg some (by kernel_rfl))
 f266:=func347.trans (congrArg some (by kernel_rfl))
 f267:=func340.trans (congrArg some (by kernel_rfl))
 f314:=func348.trans (congrArg some (by kernel_rfl))
 t3:=underlying3
 a3:=isAgg3
 z3:=sizeOf3
 v3:=zeroValue3
 t4:=underlying4
 a4:=isAgg4
 z4:=sizeOf4
 v4:=zeroValue4
 t5:=underlying5
 a5:=isAgg5
 z5:=sizeOf5
 v5:=zeroValue5
 t9:=underlying9
 a9:=isAgg9
 z9:=sizeOf9
 v9:=zeroValue9
 t46:=underlying228
 a46:=isAgg228
 z46:=sizeOf228
 v46:=zeroValue228
 t51:=underlying286
 a51:=isAgg286
 z51:=sizeOf286
 v51:=zeroValue286
 t146:=underlying356
 a146:=isAgg356
 z146:=sizeOf356
 v146:=zeroValue356
 g1:=by kernel_rfl }
open Go.RowKit Go.Lib in
theorem strings_Index_one (s:ByteArray) (c:UInt8) (w:World) :
    Calls Tryz.prog 304 #[.string s,.string ⟨#[c]⟩] w fun e w'=>e=.returned (.int .i64 (Lib.indexByte s.data.toList c))/\w'=w:=Any.strings_Index_one lays143 s c w
def lays99_ren:Go.Shelf.Ren:=⟨fun|99=>106|206=>172|n=>n,fun|9=>9|4=>4|3=>3|n=>n,fun|n=>n⟩
theorem lays99:Go.Proofs.Lays.n99 Tryz.prog lays99_ren:={
 mixed:=by kernel_rfl
 f99:=func106.trans (congrArg some (by kernel_rfl))
 f206:=func172.trans (congrArg some (by kernel_rfl))
 t3:=underlying3
 a3:=isAgg3
 z3:=sizeOf3
 v3:=zeroValue3
 t4:=underlying4
 a4:=isAgg4
 z4:=sizeOf4
 v4:=zeroValue4
 t9:=underlying9
 a9:=isAgg9
 z9:=sizeOf9
 v9:=zeroValue9 }
open Go.RowKit Go.Lib in
theorem strings_HasPrefix (s p:ByteArray) (w:World) :
    Calls Tryz.prog 106 #[.string s,.string p] w fun e w'=>e=.returned (.bool (Lib.hasPrefix s.data.toList p.data.toList))/\w'=w:=Any.strings_HasPrefix lays99 s p w
def lays146_ren:Go.Shelf.Ren:=⟨fun|146=>228|221=>270|268=>302|138=>303|143=>304|195=>323|197=>324|218=>325|219=>326|260=>337|217=>336|225=>338|224=>339|267=>340|266=>347|314=>348|n=>n,fun|9=>9|31=>67|3=>3|4=>4|0=>0|105=>367|21=>21|5=>5|46=>228|119=>383|139=>386|138=>385|146=>356|51=>286|n=>n,fun|1=>0|3=>7|4=>8|n=>n⟩
theorem lays146:Go.Proofs.Lays.n146 Tryz.prog lays146_ren:={
 mixed:=by kernel_rfl
 f138:=func303.trans (congrArg some (by kernel_rfl))
 f143:=func304.trans (congrArg some (by kernel_rfl))
 f146:=func228.trans (congrArg some (by kernel_rfl))
 f195:=func323.trans (congrArg some (by kernel_rfl))
 f197:=func324.trans (congrArg some (by kernel_rfl))
 f217:=func336.trans (congrArg some (by kernel_rfl))
 f218:=func325.trans (congrArg some (by kernel_rfl))
 f219:=func326.trans (congrArg some (by kernel_rfl))
 f221:=func270.trans (congrArg some (by kernel_rfl))
 f224:=func339.trans (congrArg some (by kernel_rfl))
 f225:=func338.trans (congrArg some (by kernel_rfl))
 f260:=func337.trans (congrArg some (by kernel_rfl))
 f266:=func347.trans (congrArg some (by kernel_rfl))
 f267:=func340.trans (congrArg some (by kernel_rfl))
 f268:=func302.trans (congrArg some (by kernel_rfl))
 f314:=func348.trans (congrArg some (by kernel_rfl))
 t0:=underlying0
 a0:=isAgg0
 z0:=sizeOf0
 v0:=zeroValue0
 t3:=underlying3
 a3:=isAgg3
 z3:=sizeOf3
 v3:=zeroValue3
 t4:=underlying4
 a4:=isAgg4
 z4:=sizeOf4
 v4:=zeroValue4
 t5:=underlying5
 a5:=isAgg5
 z5:=sizeOf5
 v5:=zeroValue5
 t9:=underlying9
 a9:=isAgg9
 z9:=sizeOf9
 v9:=zeroValue9
 t21:=underlying21
 a21:=isAgg21
 z21:=sizeOf21
 v21:=zeroValue21
 t31:=underlying67
 a31:=isAgg67
 z31:=sizeOf67
 v31:=zeroValue67
 t46:=underlying228
 a46:=isAgg228
 z46:=sizeOf228
 v46:=zeroValue228
 t51:=underlying286
 a51:=isAgg286
 z51:=sizeOf286
 v51:=zeroValue286
 t105:=underlying367
 a105:=isAgg367
 z105:=sizeOf367
 v105:=zeroValue367
 t119:=underlying383
 a119:=isAgg383
 z119:=sizeOf383
 t138:=underlying385
 a138:=isAgg385
 z138:=sizeOf385
 v138:=zeroValue385
 t139:=underlying386
 a139:=isAgg386
 z139:=sizeOf386
 v139:=zeroValue386
 t146:=underlying356
 a146:=isAgg356
 z146:=sizeOf356
 v146:=zeroValue356
 g1:=by kernel_rfl
 g3:=by kernel_rfl
 g4:=by kernel_rfl }
open Go.RowKit Go.Lib in
theorem strings_Split (s sep:ByteArray) (m:Int) (w:World) (hs:s.size < 4294967281) (hm:w.cell? ⟨0,0,none⟩=some (.int .i64 m)) (h1:1<=sep.size) :
    Calls Tryz.prog 228 #[.string s,.string sep] w fun e w' =>
      e=.returned (.slice (some ⟨w.heap.size,0,none⟩) (Lib.countB s sep + 1) (Lib.countB s sep + 1))/\w'=w.alloc (.cells ((Lib.splitB sep 0 (Lib.countB s sep) s).map Value.string).toArray 9):=Any.strings_Split lays146 (by kernel_rfl) s sep m w hs hm h1
def lays264_ren:Go.Shelf.Ren:=⟨fun|264=>312|n=>n,fun|53=>199|46=>228|n=>n,fun|n=>n⟩
theorem lays264:Go.Proofs.Lays.n264 Tryz.prog lays264_ren:={
 mixed:=by kernel_rfl
 f264:=func312.trans (congrArg some (by kernel_rfl))
 t46:=underlying228
 a46:=isAgg228
 z46:=sizeOf228
 v46:=zeroValue228
 t53:=underlying199
 a53:=isAgg199
 z53:=sizeOf199
 v53:=zeroValue199 }
open Go.RowKit Go.Lib in
theorem bits_Mul64 (x y:Nat) (hx:x < 18446744073709551616) (hy:y < 18446744073709551616) (w:World) :
    Calls Tryz.prog 312 #[.int .u64 x,.int .u64 y] w fun e w'=>e=.returned (.tuple #[.int .u64 ((x * y / 18446744073709551616:Nat):Int),.int .u64 ((x * y % 18446744073709551616:Nat):Int)])/\w'=w:=Any.bits_Mul64 lays264 x y hx hy w
end Go.Proofs.Tryz
