/- Texts merged by a program: ROpn, W32, Rot, Mix, TabR, ShaM, SumM, Sum, PadR, QT, StU, SumR, Short, Lock, Dig, Pub, Opn, Abv, ShR, UpR, GetR, RSoa, RChk, UPln, RefLow, InsM, RSame, RCmp. -/
import Derived.OwnWalk
import Derived.Laws.BitsAllLaws
import Derived.WalkKit
import Derived.IntWalk
import Derived.BigQuiet
import Derived.Deep.QuietTactic
import Derived.StillTailTactics
import Derived.Laws.CopyRow
import Derived.Deep.MidRow
import Derived.Laws.Cover3
import Derived.Laws.ResultCell
import Derived.Test.YtmbdoacafhljkaaGreatUh1
import Derived.Test.YtmbdoacafhljkaaGreatUh2
import Derived.Test.YtmbdoacafhljkaaGreatUh3
import Derived.Test.YtmbdoacafhljkaaGreatUh4
import Derived.Test.YtmbdoacafhljkaaGreatUh8
import Derived.Test.YtmbdoacafhljkaaGreatUh11
import Derived.Test.YtmbdoacafhljkaaGreatUh14
set_option linter.unusedSimpArgs false
set_option linter.unusedVariables false
set_option maxRecDepth 1000000
set_option maxHeartbeats 20000000
open Go.Proofs.Tryz
namespace Go.Proofs.YtmbdoacafhljkaaGreat
open Go.RowKit
namespace Nm
theorem opn_none{b:Lab}(h:parse b=none):openE b=30∧openN b=[]∧openK b=0:=by
 unfold openE openN openK;rw[h];exact⟨rfl,rfl,rfl⟩
theorem opn_long{b:Lab}{n:List Lab}{k:Nat}(h:parse b=some (n,k))(hk:255 < k):openE b=31∧openN b=[]∧openK b=0:=by
 unfold openE openN openK;rw[h];simp only[if_pos hk];exact⟨trivial,trivial,trivial⟩
theorem opn_some{b:Lab}{n:List Lab}{k:Nat}(h:parse b=some (n,k))(hk:¬255 < k):openE b=0∧openN b=n∧openK b=k:=by
 unfold openE openN openK;rw[h];simp only[if_neg hk];exact⟨trivial,trivial,trivial⟩
def ROpnR(b:Lab)(w:World)(v at_:Value)(wr:World):Prop:=
 ∃(k:Nat) (n:List Lab),k≤b.length∧at_=.int .i64 k∧n.length≤k∧wr.ownsRow w.heap.size 9 1 v n.length (n.map strV)∧parse b=pre n k (parse (b.drop k))∧Below w.heap.size w wr
theorem RNOpen(A:Option Addr)(b:Lab)(cap:Nat)(w:World)(hc:Cs w A (b.map byteV))(hb:b.length≤100000)(hcap:b.length≤cap)(hcap2:cap≤maxLen):
 Calls prog 100 #[.slice A b.length cap] w fun e w'=>∃v,e=.returned (.tuple #[v,.int .i64 (openK b:Int),.int .i64 (openE b)])∧w'.ownsRow w.heap.size 9 1 v (openN b).length ((openN b).map strV)∧Below w.heap.size w w':=by
 obtain⟨i0,hi,hz0,hz1,hz2⟩:=info_parts info_str;unfold maxLen at hcap2;go_enter func100,ntmps100;go_wp2_with fail
 go_loopw [5,6,7] (fun v i _ wr=>ROpnR b w v i wr) (fun _ i _ _=>b.length - (intOf i).toNat)
 case atStart=>exact⟨0,[],Nat.zero_le _,rfl,Nat.zero_le _,World.ownsRow_nil _ _ _ _,by rw[pre_nil];rfl,Below.refl _ _⟩
 case round=>
  obtain⟨k,n,hk,rfl,hnk,hown,hpre,hbel⟩:=hrel;have HP:=hid hpre;clear hpre;by_cases hlt:k < b.length
  ·obtain⟨bk,off,rfl,hbl,hc0⟩:=Cs.byte hc hlt;have hc1:=(hbel.cell (p:=⟨bk,off+k,none⟩) hbl).trans hc0;have HL:=hid (pre_long (n:=n) hlt);have HE:=hid (pre_end (n:=n) hlt);have HO:=hid (pre_short (n:=n) hlt);have HS:=hid (pre_step (n:=n) hlt);have hcc:b[k].toNat < 256:=UInt8.toNat_lt _;generalize b[k].toNat=c at *;by_cases h0:c=0
   ·have h0b:((c:Int)==0)=true:=by simp[h0]
    have hpe:=HP.out.trans (HE.out h0);have HPE:=hid hpe;clear h0 hpe;by_cases h255:255 < k+1
    ·go_wp2_with fail;refine bodyPost_ret (results_tmp3 rfl _ _ _) rfl ?_;obtain⟨e1,e2,e3⟩:=opn_long HPE.out h255;exact⟨_,by rw[e1,e3];rfl,by rw[e2];exact World.ownsRow_nil _ _ _ _,hbel⟩
    ·go_wp2_with fail;refine bodyPost_ret (results_tmp3 rfl _ _ _) rfl ?_;obtain⟨e1,e2,e3⟩:=opn_some HPE.out h255;exact⟨_,by rw[e1,e3];rfl,by rw[e2];exact hown,hbel⟩
   ·have h0b:((c:Int)==0)=false:=by simp[h0]
    by_cases h63:63 < c
    ·have hpe:=HP.out.trans (HL.out h63);have HPE:=hid hpe;clear hpe;go_wp2_with fail;refine bodyPost_ret (results_tmp3 rfl _ _ _) rfl ?_;obtain⟨e1,e2,e3⟩:=opn_none HPE.out;exact⟨_,by rw[e1,e3];rfl,by rw[e2];exact World.ownsRow_nil _ _ _ _,hbel⟩
    ·by_cases h2:k+1+c≤b.length
     ·have hlab:((b.drop (k+1)).take c).length=c:=by rw[List.length_take,List.length_drop];omega
      have hcs:=((hc.below (hbel.trans (Below.refl _ _))).drop' (k+1) cap (by simpa using hcap)).take' c;rw[if_neg (by omega),←List.map_drop,←List.map_take]at hcs;have hcv:(convert 37 9 (.slice (some ⟨bk,off+(k+1),none⟩) c (cap - (k+1)))).run prog wr=.ok (.string (strB ((b.drop (k+1)).take c))) wr:=by
       have:=run_str (P:=prog) wr underlying37 underlying5 underlying9 (cap - (k+1)) hcs;rw[hlab]at this;exact this
      have HS2:=hid (HS.out h0 h63 h2);have HLab:=hid hlab;clear hlab hcs HS HO HL HE;generalize(b.drop (k+1)).take c=lab at *
      go_wp2_with (first|(at_builtin;refine wpList_push2 hown hbel.size [strV lab] rfl (by simp[strV,Value.oneCell']) hi hz0 hz1 hz2 rfl (by decide) rfl _ _ 28 underlying28 rfl rfl rfl (by unfold maxLen;omega) (by omega) ?_;intro v4 w4 hown4 hbw4;have hbw5:=hbel.trans hbw4))
      exact⟨⟨k+1+c,n++[lab],h2,by go_num,by simp;omega,by rw[List.map_append,List.length_append];exact hown4,by rw[HP.out,HS2.out],hbw5⟩,by simp[intOf];omega⟩
     ·have hpe:=HP.out.trans (HO.out h0 h2);have HPE:=hid hpe;clear hpe;go_wp2_with fail;refine bodyPost_ret (results_tmp3 rfl _ _ _) rfl ?_;obtain⟨e1,e2,e3⟩:=opn_none HPE.out;exact⟨_,by rw[e1,e3];rfl,by rw[e2];exact World.ownsRow_nil _ _ _ _,hbel⟩
  ·have hpe:=HP.out.trans (pre_out hlt);have HPE:=hid hpe;clear hpe;go_wp2_with fail;refine bodyPost_ret (results_tmp3 rfl _ _ _) rfl ?_;obtain⟨e1,e2,e3⟩:=opn_none HPE.out;exact⟨_,by rw[e1,e3];rfl,by rw[e2];exact World.ownsRow_nil _ _ _ _,hbel⟩
theorem whole_eq(b:Lab):wholeB b=(decide (openE b=0)&&decide (openK b=b.length)):=by
 unfold wholeB;cases h:openO b with
 |none=>
  have:=(openO_none h).1;simp[this]
 |some p=>
  obtain⟨n,k⟩:=p;obtain⟨_,_,h3,_,h5⟩:=openO_some h;simp[h3,h5];rfl
theorem RWhole(A:Option Addr)(b:Lab)(cap:Nat)(w:World)(hc:Cs w A (b.map byteV))(hb:b.length≤100000)(hcap:b.length≤cap)(hcap2:cap≤maxLen):
 Calls prog 134 #[.slice A b.length cap] w fun e w'=>e=.returned (.bool (wholeB b))∧Below w.heap.size w w':=by
 have HO:=hid (RNOpen A b cap w hc hb hcap hcap2);have HW:=hid (whole_eq b);go_enter func134,ntmps134;go_wp2_with fail;refine HO.out.mono ?_;rintro e w' ⟨v,rfl,_,hbel⟩;generalize openE b=E at *;generalize openK b=K at *;by_cases h1:E=0
 ·subst h1;by_cases h2:K=b.length
  ·subst h2;go_wp2_with fail;go_ret;exact⟨by rw[HW.out];simp,hbel⟩
  ·go_wp2_with fail;go_ret;exact⟨by rw[HW.out];simp[h2];omega,hbel⟩
 ·go_wp2_with fail;go_ret;exact⟨by rw[HW.out];simp[h1],hbel⟩
end Nm
open Go
namespace W
def uv(x:UInt32):Value:=.int .u32 (x.toNat:Int)
theorem wrap_nat(n:Nat):IntKind.u32.wrap (n:Int)=((n %4294967296:Nat):Int):=by rw[IntKind.wrap_u32'];omega
theorem w_id(a:UInt32):IntKind.u32.wrap (a.toNat:Int)=(a.toNat:Int):=by rw[wrap_nat,Nat.mod_eq_of_lt a.toNat_lt]
theorem ofInt_u(a:UInt32):(BitVec.ofInt 32 (a.toNat:Int))=a.toBitVec:=by
 apply BitVec.eq_of_toNat_eq;rw[BitVec.ofInt_natCast,BitVec.toNat_ofNat];exact Nat.mod_eq_of_lt a.toNat_lt
theorem w_or(a b:UInt32):bits .or .u32 (a.toNat:Int) (b.toNat:Int)=((a ||| b).toNat:Int):=by
 show IntKind.u32.wrap ((BitVec.ofInt 32 (a.toNat:Int) ||| BitVec.ofInt 32 (b.toNat:Int)).toNat:Int)=_;rw[ofInt_u,ofInt_u,wrap_nat];have:(a.toBitVec ||| b.toBitVec).toNat=(a ||| b).toNat:=rfl;rw[this,Nat.mod_eq_of_lt (UInt32.toNat_lt _)]
theorem w_shl(a:UInt32)(k:Nat)(hk:k < 32):IntKind.u32.wrap ((a.toNat:Int) *2 ^ k)=((a <<< UInt32.ofNat k).toNat:Int):=by
 have:((a.toNat:Int) *2 ^ k)=((a.toNat *2 ^ k:Nat):Int):=by push_cast;rfl
 rw[this,wrap_nat,UInt32.toNat_shiftLeft,UInt32.toNat_ofNat',Nat.shiftLeft_eq];rw[show k %2 ^ 32 %32=k from by omega]
theorem w_shr(a:UInt32)(k:Nat)(hk:k < 32):((a.toNat:Int) / 2 ^ k)=((a >>> UInt32.ofNat k).toNat:Int):=by
 have:((a.toNat:Int) / 2 ^ k)=((a.toNat / 2 ^ k:Nat):Int):=by push_cast;rfl
 rw[this,UInt32.toNat_shiftRight,UInt32.toNat_ofNat',Nat.shiftRight_eq_div_pow];rw[show k %2 ^ 32 %32=k from by omega]
def rotr(x:UInt32)(n:Nat):UInt32:=(x <<< UInt32.ofNat (32 - n)) ||| (x >>> UInt32.ofNat n)
def sig0(x:UInt32):UInt32:=rotr x 7 ^^^ rotr x 18 ^^^ (x >>> 3)
def sig1(x:UInt32):UInt32:=rotr x 17 ^^^ rotr x 19 ^^^ (x >>> 10)
def big0(x:UInt32):UInt32:=rotr x 2 ^^^ rotr x 13 ^^^ rotr x 22
def big1(x:UInt32):UInt32:=rotr x 6 ^^^ rotr x 11 ^^^ rotr x 25
def ch(e f g:UInt32):UInt32:=(e &&& f) ^^^ (~~~e &&& g)
def maj(a b c:UInt32):UInt32:=(a &&& b) ^^^ (a &&& c) ^^^ (b &&& c)
def at_(ws:List UInt32)(i:Nat):UInt32:=ws.getD i 0
def next(ws:List UInt32)(i:Nat):UInt32:=at_ ws (i - 16)+at_ ws (i - 7)+sig0 (at_ ws (i - 15))+sig1 (at_ ws (i - 2))
def sched:Nat→List UInt32→List UInt32
 |0,ws=>ws
 |k+1,ws=>(sched k ws).set (16+k) (next (sched k ws) (16+k))
structure S8 where
 a:UInt32
 b:UInt32
 c:UInt32
 d:UInt32
 e:UInt32
 f:UInt32
 g:UInt32
 h:UInt32
def S8.list(s:S8):List UInt32:=[s.a,s.b,s.c,s.d,s.e,s.f,s.g,s.h]
def S8.add(s t:S8):S8:=⟨s.a+t.a,s.b+t.b,s.c+t.c,s.d+t.d,s.e+t.e,s.f+t.f,s.g+t.g,s.h+t.h⟩
def one(s:S8)(k w:UInt32):UInt32:=s.h+big1 s.e+ch s.e s.f s.g+k+w
def two(s:S8):UInt32:=big0 s.a+maj s.a s.b s.c
def rnd(s:S8)(k w:UInt32):S8:=⟨one s k w+two s,s.a,s.b,s.c,s.d+one s k w,s.e,s.f,s.g⟩
def rnds(ks ws:List UInt32)(s:S8):Nat→S8
 |0=>s
 |n+1=>rnd (rnds ks ws s n) (at_ ks n) (at_ ws n)
def word(b:List UInt8)(i:Nat):UInt32:=((b.getD (4 *i) 0).toUInt32 <<< 24) ||| ((b.getD (4 *i+1) 0).toUInt32 <<< 16) ||| ((b.getD (4 *i+2) 0).toUInt32 <<< 8) ||| (b.getD (4 *i+3) 0).toUInt32
def words(b:List UInt8):List UInt32:=(List.range 16).map (word b)++List.replicate 48 0
def mix(ks:List UInt32)(s:S8)(b:List UInt8):S8:=s.add (rnds ks (sched 48 (words b)) s 64)
def ArrU(w:World)(g:Nat)(T:TypeId)(ws:List UInt32):Prop:=w.heap[g]? =some (.cells (ws.map uv).toArray T (0,0))
theorem ArrU.lt{w:World}{g:Nat}{T:TypeId}{ws:List UInt32}(h:ArrU w g T ws):g < w.heap.size:=lt_block h
theorem ArrU.cell{w:World}{g:Nat}{T:TypeId}{ws:List UInt32}(h:ArrU w g T ws)(i:Nat)(hi:i < ws.length):w.cell? ⟨g,i,none⟩=some (.int .u32 ((at_ ws i).toNat:Int)):=by
 rw[cell_of_row _ _ _ _ _ _ h];simp[at_,hi,uv,List.getD]
theorem ArrU.frozen{w:World}{g:Nat}{T:TypeId}{ws:List UInt32}(h:ArrU w g T ws)(i:Nat):w.frozen? ⟨g,i,none⟩=false:=by
 unfold ArrU at h;simp[World.frozen?,h]
theorem ArrU.set{w:World}{g:Nat}{T:TypeId}{ws:List UInt32}(h:ArrU w g T ws)(i:Nat)(x:UInt32):ArrU (w.setCell ⟨g,i,none⟩ (uv x)) g T (ws.set i x):=by
 unfold ArrU at h ⊢;simp[World.setCell,Array.getElem?_modify,h,List.map_set]
theorem ArrU.keep{w w':World}{g:Nat}{T:TypeId}{ws:List UInt32}(h:ArrU w g T ws)(hb:w'.heap[g]? =w.heap[g]?):ArrU w' g T ws:=hb.trans h
theorem u8_u32(c:UInt8):IntKind.u32.wrap (c.toNat:Int)=(c.toUInt32.toNat:Int):=by
 have h:c.toUInt32.toNat=c.toNat:=by simp
 rw[←h,w_id]
def s256:S8:=⟨0x6a09e667,0xbb67ae85,0x3c6ef372,0xa54ff53a,0x510e527f,0x9b05688c,0x1f83d9ab,0x5be0cd19⟩
def be8(n:Nat):List UInt8:=(List.range 8).map fun i=>UInt8.ofNat (n / 256 ^ (7 - i))
def be4(x:UInt32):List UInt8:=[(x >>> 24).toUInt8,(x >>> 16).toUInt8,(x >>> 8).toUInt8,x.toUInt8]
def noughts(n:Nat):Nat:=(119 - n %64) %64
def pad(b:List UInt8):List UInt8:=b++[0x80]++List.replicate (noughts b.length) 0++be8 (b.length *8 %2 ^ 64)
def shaF(ks:List UInt32):Nat→List UInt8→S8→S8
 |0,_,s=>s
 |n+1,l,s=>shaF ks n (l.drop 64) (mix ks s (l.take 64))
def sha8(ks:List UInt32)(b:List UInt8):S8:=shaF ks ((pad b).length / 64) (pad b) s256
def out(s:S8):List UInt8:=s.list.flatMap be4
def sha(ks:List UInt32)(b:List UInt8):List UInt8:=out (sha8 ks b)
def tail(b:List UInt8):List UInt8:=(pad b).drop (64 *(b.length / 64))
def ArrB(w:World)(g:Nat)(T:TypeId)(l:List UInt8):Prop:=w.heap[g]? =some (.cells (l.map byteV).toArray T (0,0))
theorem ArrB.lt{w:World}{g:Nat}{T:TypeId}{l:List UInt8}(h:ArrB w g T l):g < w.heap.size:=lt_block h
theorem ArrB.cell{w:World}{g:Nat}{T:TypeId}{l:List UInt8}(h:ArrB w g T l)(i:Nat)(hi:i < l.length):w.cell? ⟨g,i,none⟩=some (.int .u8 ((l.getD i 0).toNat:Int)):=by
 rw[cell_of_row _ _ _ _ _ _ h];simp[hi,byteV,List.getD]
theorem ArrB.frozen{w:World}{g:Nat}{T:TypeId}{l:List UInt8}(h:ArrB w g T l)(i:Nat):w.frozen? ⟨g,i,none⟩=false:=by
 unfold ArrB at h;simp[World.frozen?,h]
theorem ArrB.set{w:World}{g:Nat}{T:TypeId}{l:List UInt8}(h:ArrB w g T l)(i:Nat)(x:UInt8):ArrB (w.setCell ⟨g,i,none⟩ (byteV x)) g T (l.set i x):=by
 unfold ArrB at h ⊢;simp[World.setCell,Array.getElem?_modify,h,List.map_set]
theorem ArrB.keep{w w':World}{g:Nat}{T:TypeId}{l:List UInt8}(h:ArrB w g T l)(hb:w'.heap[g]? =w.heap[g]?):ArrB w' g T l:=hb.trans h
theorem ArrB.cs{w:World}{g:Nat}{T:TypeId}{l:List UInt8}(h:ArrB w g T l)(o:Nat):Cs w (some ⟨g,o,none⟩) ((l.drop o).map byteV):=by
 intro i u hu;refine⟨g,o,rfl,h.lt, ?_⟩;rw[cell_of_row _ _ _ _ _ _ h];rw[List.getElem?_map,List.getElem?_drop]at hu;simpa using hu
def outB(l:List UInt8)(i:Nat):List UInt8:=l.take i++List.replicate (32 - i) 0
theorem byte8(x:UInt32):Value.int .u8 ((x.toNat:Int) / 256 %256)=byteV (x >>> 8).toUInt8:=by
 have h:=w_shr x 8 (by omega);rw[show((2:Int) ^ 8)=256 from rfl]at h;rw[h];unfold byteV;rw[UInt32.toNat_toUInt8];rfl
end W
section
variable {P:Program} {ops:Array Oper}
end
end Go.Proofs.YtmbdoacafhljkaaGreat
namespace Go.Proofs.YtmbdoacafhljkaaGreat
open Go.RowKit
namespace W
def OutL(l:List UInt8)(go:Nat)(V9:World)(v:Value)(wr:World):Prop:=∃j:Nat,j≤32∧v=.int .i64 (j:Int)∧ArrB wr go 303 (outB l j)∧Kept (fun k=>k=go) V9 wr
theorem OutL.step{l:List UInt8}{go:Nat}{V9 wr:World}{j:Nat}{x:UInt8}(hout:ArrB wr go 303 (outB l j))(hkp:Kept (fun k=>k=go) V9 wr)(hset:(outB l j).set j (l.getD j 0)=outB l (j+1))(hT:l.getD j 0=x)(hj:j < 32):
 OutL l go V9 (.int .i64 ((j:Int)+1)) (wr.setCell ⟨go,j,none⟩ (byteV x)):=by
 refine⟨j+1,by omega,by go_num, ?_,hkp.setCell (p:=⟨go,j,none⟩) (fun _=>rfl) _⟩;rw[←hset,hT];exact hout.set j x
def lp(l:List UInt8):List UInt8:=Nm.be4 l.length++l
def parts(ps:List (List UInt8)):List UInt8:=ps.flatMap lp
def short(ks:List UInt32)(tag:UInt8)(ps:List (List UInt8)):List UInt8:=(sha ks (tag::parts ps)).take 8
def z8:Array Value:=(List.replicate 8 (Value.int .u8 0)).toArray
theorem own_caps{w:World}{B:Nat}{e:TypeId}{A:Option Addr}{n c:Nat}{xs:List Value}(h:w.ownsRow B e 1 (.slice A n c) n xs)(hn:0 < n):n≤c∧c≤maxLen∧A≠none:=by
 rcases h.2 with⟨_,h0⟩|⟨g,cap,cur,e1,_,_,h1,h2,_⟩
 ·omega
 ·cases e1;exact⟨h1,h2,by simp⟩
theorem eight(l:List UInt8)(h:l.length=8):∃x0 x1 x2 x3 x4 x5 x6 x7,l=[x0,x1,x2,x3,x4,x5,x6,x7]:=by
 rcases l with _|⟨x0,_|⟨x1,_|⟨x2,_|⟨x3,_|⟨x4,_|⟨x5,_|⟨x6,_|⟨x7,_|⟨x8,l⟩⟩⟩⟩⟩⟩⟩⟩⟩
 all_goals first
  |exact⟨_,_,_,_,_,_,_,_,rfl⟩
  |(simp at h;done)
  |(simp at h;omega)
structure Row8(c:Array Value)(l:List UInt8):Prop where
 eq:c=(l.map byteV).toArray
 len:l.length=8
theorem Row8.size{c:Array Value}{l:List UInt8}(h:Row8 c l):c.size=8:=by rw[h.eq];simp[h.len]
theorem Row8.all{c:Array Value}{l:List UInt8}(h:Row8 c l):c.all (·.oneCell')=true:=by rw[h.eq];simp[byteV,Value.oneCell']
theorem Row8.old{c:Array Value}{l:List UInt8}(h:Row8 c l):z8.size=c.size:=by rw[h.size];rfl
def z1(A:Option Addr)(n c:Nat):Array Value:= #[.slice A n c]
theorem ArrB.there{w:World}{g:Nat}{T:TypeId}{l:List UInt8}(h:ArrB w g T l)(o n:Nat)(hn:o+n≤l.length):w.there g o n:=fun j hj=>by
 rw[h.cell (o+j) (by omega),h.frozen (o+j)];exact⟨rfl,rfl⟩
theorem Cs.range{w:World}{b off:Nat}{xs:List Value}(h:Cs w (some ⟨b,off,none⟩) xs):w.rangeAt b off xs:=fun j v hj=>by
 obtain⟨_,_,e,_,hc⟩:=h j v hj;cases e;exact hc
def getU(l:List UInt8):UInt32:=l.foldl (fun n b=>(n <<< 8) ||| b.toUInt32) 0
theorem getU_snoc(l:List UInt8)(b:UInt8):getU (l++[b])=(getU l <<< 8) ||| b.toUInt32:=by unfold getU;rw[List.foldl_append];rfl
theorem getU_take{l:List UInt8}{k:Nat}(h:k < l.length):getU (l.take (k+1))=(getU (l.take k) <<< 8) ||| (l[k]).toUInt32:=by
 rw[List.take_succ_eq_append_getElem h,getU_snoc]
def GetL(l:List UInt8)(w:World)(v i:Value)(wr:World):Prop:=∃k:Nat,k≤l.length∧i=.int .i64 (k:Int)∧v=.int .u32 ((getU (l.take k)).toNat:Int)∧wr=w
theorem getStep(n:UInt32)(b:UInt8):bits .or .u32 ((n.toNat:Int) *256 %4294967296) ((b.toNat:Int) %4294967296)=(((n <<< 8) ||| b.toUInt32).toNat:Int):=by
 have h1:=w_shl n 8 (by omega);rw[IntKind.wrap_u32',show((2:Int) ^ 8)=256 from rfl]at h1;have h2:=u8_u32 b;rw[IntKind.wrap_u32']at h2;rw[h1,h2,w_or];rfl
theorem GetR(A:Option Addr)(cap:Nat)(l:List UInt8)(w:World)(hc:Cs w A (l.map byteV))(hl:l.length≤1000):
 Calls prog 101 #[.slice A l.length cap] w fun e w'=>e=.returned (.int .u32 ((getU l).toNat:Int))∧w'=w:=by
 go_enter func101,ntmps101;go_wp2_with fail
 go_loopw [3,4] (fun v i wr=>GetL l w v i wr) (fun _ i _=>l.length - (intOf i).toNat)
 case atStart=>exact⟨0,Nat.zero_le _,rfl,rfl,rfl⟩
 case round=>
  obtain⟨k,hk,rfl,rfl,hwr⟩:=hrel;rw[hwr];clear hwr;by_cases hlt:k < l.length
  ·obtain⟨b,off,rfl,hb,c0⟩:=hc.byte (l:=l) (i:=k) hlt;have ht:=getU_take hlt;have hst:=getStep (getU (l.take k)) l[k];rw[←ht]at hst;have HS:=hid hst;clear ht hst;generalize l[k]=x at *;generalize getU (l.take k)=n at *;go_wp2_with fail;rw[HS.out];exact⟨⟨k+1,by omega,by go_num,rfl,rfl⟩,by simp[intOf];omega⟩
  ·have hkl:k=l.length:=by omega
   subst hkl;rw[List.take_length];go_wp2_with fail;go_ret;exact⟨rfl,rfl⟩
end W
namespace Nm
theorem sliceDropN(A:Option Addr)(n c k:Nat)(I:Int)(hI:I=(k:Int))(h1:k≤n)(h2:n≤c)(W:World):(Instr.sliceAt 37 (.slice A n c) (some (.int .i64 I)) none none).run prog W=.ok (.slice (piece A c k) (n - k) (c - k)) W:=by
 subst hI;unfold piece;by_cases hc:c=k
 ·have hn:n=k:=by omega
  subst hc;subst hn;simp[go_sem]
 ·have h3:(k:Int)≤(n:Int):=by omega
  have h4:(n:Int)≤(c:Int):=by omega
  simp[go_sem,hc,h1,h2,h3,h4]
theorem wpList_dropN{ops:Array Oper}{rest:List Oper}{o:Oper}{a:Act}{w:World}{Q:Exit→Act→World→Prop}(hgd:o.guard=none)(x lo:Operand)(ho:o.op=.slice 37 x (some lo) none none)
 {A:Option Addr} {n c k:Nat} {I:Int} (hx:a.eval x=.slice A n c) (hlo:a.eval lo=.int .i64 I) (hI:I=(k:Int)) (h1:k≤n) (h2:n≤c) (h:wpList prog ops Q rest (a.put o.dst (.slice (piece A c k) (n - k) (c - k))) w):wpList prog ops Q (o::rest) a w:=by
 refine wpList_plain hgd fun K hK=> ?_;have hs:=sliceDropN A n c k I hI h1 h2 w;unfold Oper.wp execOp;simp only[ho,hx,hlo,Sem.run_bind,Sem.run_pure,Result.andThen_ok,Option.map_some,Option.map_none,hs];exact hK _ _ h
theorem snoc_ind{P:Lab→Prop}(h0:P [])(h1:∀l b,P l→P (l++[b]))(l:Lab):P l:=by
 have:∀n,∀l:Lab,l.length=n→P l:=by
  intro n
  induction n with
  |zero=>intro l h;rw[List.eq_nil_of_length_eq_zero h];exact h0
  |succ n ih=>
   intro l h;have hne:l≠[]:=by intro e;subst e;cases h
   have e:=List.dropLast_concat_getLast hne;rw[←e];exact h1 _ _ (ih _ (by rw[List.length_dropLast];omega))
 exact this _ l rfl
theorem openK_le(b:Lab):openK b≤b.length:=by
 cases h:openO b with
 |none=>rw[(openO_none h).2.2];omega
 |some p=>
  obtain⟨n,k⟩:=p;rw[(openO_some h).2.2.2.2];exact(openO_le h).1
theorem getU_num(l:Lab):(W.getU l).toNat=numOf l 0:=by
 refine snoc_ind (P:=fun l=>(W.getU l).toNat=numOf l 0) rfl (fun l b ih=> ?_) l;rw[W.getU_snoc,numOf_snoc,←ih];have h1:=W.getStep (W.getU l) b;have h2:=or8 (W.getU l).toNat b.toNat (UInt8.toNat_lt b);have hb:((b.toNat:Int) %4294967296)=(b.toNat:Int):=by have:=UInt8.toNat_lt b;omega
 rw[hb]at h1;have h3:=h1.symm.trans h2
 exact_mod_cast h3
theorem RSoa(A:Option Addr)(l:Lab)(cap:Nat)(w:World)(hc:Cs w A (l.map byteV))(hl:l.length≤100000)(hcap:l.length≤cap)(hcap2:cap≤maxLen):
 Calls prog 49 #[.slice A l.length cap] w fun e w'=>Below w.heap.size w w'∧∃v,e=.returned (.tuple #[v,.int .i64 (code50 (soaB l))])∧SoaPost w w' l v:=by
 go_enter func49,ntmps49;go_wp2_with fail;generalize hw2:w.alloc (.cells #[.slice none 0 0,.slice none 0 0,.int .u32 0,.int .u32 0,.int .u32 0,.int .u32 0,.int .u32 0] 91)=w2;have hb2:Below w.heap.size w w2:=by rw[←hw2];exact bAl
 have hz2:w2.heap.size=w.heap.size+1:=by rw[←hw2];simp
 have q2:w2.heap[w.heap.size]? =some (.cells #[.slice none 0 0,.slice none 0 0,.int .u32 0,.int .u32 0,.int .u32 0,.int .u32 0,.int .u32 0] 91 (0,0)):=by rw[←hw2];exact heap_alloc_new w _
 clear hw2;have bad:∀W,Below w2.heap.size w2 W→W.heap[w.heap.size]? =some (.cells #[.slice none 0 0,.slice none 0 0,.int .u32 0,.int .u32 0,.int .u32 0,.int .u32 0,.int .u32 0] 91 (0,0))∧Below w.heap.size w W:=fun W h=>⟨(h.block _ (by omega)).trans q2,hb2.trans (h.mono (by omega))⟩
 have HB:=hid bad;refine(RNOpen A l cap w2 (hc.below hb2) hl hcap hcap2).mono ?_;rintro e w3 ⟨v1,rfl,hown1,hb3⟩;clear bad;have hcases:(∃m i,openO l=some (m,i)∧openE l=0∧openN l=m∧openK l=i∧i≤l.length)∨(soaB l=false∧¬openE l=0):=by
  cases h1:openO l with
  |none=>exact .inr ⟨by unfold soaB soaO;rw[h1];rfl,(openO_none h1).1⟩
  |some p=>
   obtain⟨m,i⟩:=p;obtain⟨_,_,g1,g2,g3⟩:=openO_some h1;exact .inl ⟨m,i,rfl,g1,g2,g3,(openO_le h1).1⟩
 rcases hcases with⟨m,i,hO1,hE1,hN1,hK1,hi⟩|⟨hso,hE1⟩
 ·rw[hN1]at hown1;rw[hE1,hK1];have hcs:Cs w3 (piece A cap i) ((l.drop i).map byteV):=by
   have:=((hc.below hb2).below hb3).drop' i cap (by simpa using hcap);rw[←List.map_drop]at this;exact this
  have hlk:(l.drop i).length=l.length - i:=List.length_drop;have hi2:i≤cap:=by omega
  have HO2:Hid (∀W,Below w3.heap.size w3 W→Calls prog 100 #[.slice (piece A cap i) (l.length - i) (cap - i)] W fun e w'=>∃v,e=.returned (.tuple #[v,.int .i64 (openK (l.drop i):Int),.int .i64 (openE (l.drop i))])∧w'.ownsRow W.heap.size 9 1 v (openN (l.drop i)).length ((openN (l.drop i)).map strV)∧Below W.heap.size W w'):=hid fun W hW=>by
   have:=RNOpen (piece A cap i) (l.drop i) (cap - i) W (hcs.below hW) (by omega) (by omega) (by omega);rw[hlk]at this;exact this
  have hcases2:(∃x k,openO (l.drop i)=some (x,k)∧openE (l.drop i)=0∧openN (l.drop i)=x∧openK (l.drop i)=k∧l.length=i+k+20∧soaB l=true)∨(soaB l=false∧(¬openE (l.drop i)=0∨(openE (l.drop i)=0∧¬l.length=i+openK (l.drop i)+20))):=by
   cases h1:openO (l.drop i)with
   |none=>exact .inr ⟨by unfold soaB soaO;rw[hO1];simp only[];rw[h1];rfl,.inl (openO_none h1).1⟩
   |some p=>
    obtain⟨x,k⟩:=p;obtain⟨_,_,g1,g2,g3⟩:=openO_some h1;have hs:=(soa_some hO1 h1).2.2.2.2;by_cases hk:l.length=i+k+20
    ·exact .inl ⟨x,k,rfl,g1,g2,g3,hk,by unfold soaB;rw[hs];simp[hk]⟩
    ·exact .inr ⟨by unfold soaB;rw[hs];simp[hk],.inr ⟨g1,by rw[g3];exact hk⟩⟩
  have hH1:=hown1;have H1:=hid (And.intro hown1 (And.intro hcs hb3));clear hown1 hcs hH1
  go_wp2_with (first
   |(refine wpList_dropN rfl (.tmp 21) (.tmp 22) rfl (A:=A) (n:=l.length) (c:=cap) (k:=i) rfl rfl rfl hi hcap ?_))
  refine(HO2.out w3 (Below.refl _ _)).mono ?_;rintro e w4 ⟨v2,rfl,hown2,hb4⟩;have hb24:=H1.out.2.2.trans (hb4.mono H1.out.2.2.size);obtain⟨q4,hbw4⟩:=HB.out w4 hb24;rcases hcases2 with⟨x,k,hO2,hE2,hN2,hK2,hlen,hso⟩|⟨hso,hbad⟩
  ·rw[hN2]at hown2;rw[hE2,hK2];have hik:i+k < l.length:=by omega
   obtain⟨bk,off,rfl,hbl,_⟩:=Cs.byte hc hik;have hc10:Cs w4 (some ⟨bk,off+(i+k),none⟩) ((l.drop (i+k)).map byteV):=by
    have:=(hc.below hbw4).drop' (i+k) cap (by simpa using hcap);rw[if_neg (by omega),Option.map_some,add_plain,←List.map_drop]at this;exact this
   have hrl:(l.drop (i+k)).length=20:=by rw[List.length_drop];omega
   have hsm:=(soa_some hO1 hO2)
   have HSM:Hid (soaM l=⟨m,x,numOf ((l.drop (i+k)).take 4) 0,numOf (((l.drop (i+k)).drop 4).take 4) 0,numOf (((l.drop (i+k)).drop 8).take 4) 0,numOf (((l.drop (i+k)).drop 12).take 4) 0,numOf ((l.drop (i+k)).drop 16) 0⟩):=hid (by
    unfold soaM;rw[hsm.2.2.2.1,hsm.1,hsm.2.1,hsm.2.2.1,List.drop_drop,List.drop_drop,List.drop_drop,List.drop_drop];rw[List.take_of_length_le (show(l.drop (i+k+16)).length≤4 by rw[List.length_drop];omega)])
   have hg:∀W:World,(∀p,W.cell? p=w4.cell? p)→W.heap.size=w4.heap.size→Calls prog 101 #[.slice (some ⟨bk,off+(i+k),none⟩) 4 (cap - (i+k))] W (fun e w'=>e=.returned (.int .u32 ((numOf ((l.drop (i+k)).take 4) 0:Nat):Int))∧w'=W)∧
    Calls prog 101 #[.slice (some ⟨bk,off+(i+k)+4,none⟩) 4 (cap - (i+k) - 4)] W (fun e w'=>e=.returned (.int .u32 ((numOf (((l.drop (i+k)).drop 4).take 4) 0:Nat):Int))∧w'=W)∧
    Calls prog 101 #[.slice (some ⟨bk,off+(i+k)+8,none⟩) 4 (cap - (i+k) - 8)] W (fun e w'=>e=.returned (.int .u32 ((numOf (((l.drop (i+k)).drop 8).take 4) 0:Nat):Int))∧w'=W)∧
    Calls prog 101 #[.slice (some ⟨bk,off+(i+k)+12,none⟩) 4 (cap - (i+k) - 12)] W (fun e w'=>e=.returned (.int .u32 ((numOf (((l.drop (i+k)).drop 12).take 4) 0:Nat):Int))∧w'=W)∧
    Calls prog 101 #[.slice (some ⟨bk,off+(i+k)+16,none⟩) 4 (cap - (i+k) - 16)] W (fun e w'=>e=.returned (.int .u32 ((numOf ((l.drop (i+k)).drop 16) 0:Nat):Int))∧w'=W):=by
    intro W hcell hsz;generalize l.drop (i+k)=r at *;have hcW:Cs W (some ⟨bk,off+(i+k),none⟩) (r.map byteV):=fun j u hu=>by
     obtain⟨b,o,e,h1,h2⟩:=hc10 j u hu;exact⟨b,o,e,by rw[hsz];exact h1,by rw[hcell];exact h2⟩
    have hd:∀j,j < 20→Cs W (some ⟨bk,off+(i+k)+j,none⟩) ((r.drop j).map byteV):=fun j hj=>by
     have:=hcW.drop' j (cap - (i+k)) (by rw[List.length_map];omega);rw[if_neg (by omega),Option.map_some,add_plain,←List.map_drop]at this;exact this
    have ht:∀j,j+4≤20→∀c,Calls prog 101 #[.slice (some ⟨bk,off+(i+k)+j,none⟩) 4 c] W (fun e w'=>e=.returned (.int .u32 ((numOf ((r.drop j).take 4) 0:Nat):Int))∧w'=W):=fun j hj c=>by
     have h1:=(hd j (by omega)).take' 4;rw[←List.map_take]at h1;have h2:=_root_.Go.Proofs.YtmbdoacafhljkaaGreat.W.GetR (some ⟨bk,off+(i+k)+j,none⟩) c ((r.drop j).take 4) W h1 (by rw[List.length_take];omega);rw[getU_num]at h2;rw[show((r.drop j).take 4).length=4 from by rw[List.length_take,List.length_drop];omega]at h2;exact h2
    have h16:=ht 16 (by omega) (cap - (i+k) - 16);rw[List.take_of_length_le (show(r.drop 16).length≤4 by rw[List.length_drop];omega)]at h16;exact⟨ht 0 (by omega) _,ht 4 (by omega) _,ht 8 (by omega) _,ht 12 (by omega) _,h16⟩
   have HG:=hid (hg w4.drew (fun _=>rfl) rfl);obtain⟨u0,u1,u2,u3,u4,u5,u6,uf⟩:=cells7 q4;have uf0:=uf 0;have uf1:=uf 1;have uf2:=uf 2;have uf3:=uf 3;have uf4:=uf 4;have uf5:=uf 5;have uf6:=uf 6;have hown1':w4.ownsRow w2.heap.size 9 1 v1 m.length (m.map strV):=own_below H1.out.1 (hb4.mono (Nat.le_refl _));obtain⟨A1,c1,rfl,_,_⟩:=Cs.of_own hown1';obtain⟨A2,c2,rfl,_,_⟩:=Cs.of_own hown2
   have HR:=hid (And.intro hown1' (And.intro hown2 (And.intro q4 (And.intro hbw4 (And.intro hso hb4)))));clear hg hc10 hsm hO1 hO2 hE1 hE2 hN1 hN2 hK1 hK2 H1 HO2 hown1' hown2 q4 hc hbl uf hso hbw4 hb24 hb4;generalize numOf ((l.drop (i+k)).take 4) 0=n1 at *;generalize numOf (((l.drop (i+k)).drop 4).take 4) 0=n2 at *;generalize numOf (((l.drop (i+k)).drop 8).take 4) 0=n3 at *
   generalize numOf (((l.drop (i+k)).drop 12).take 4) 0=n4 at *;generalize numOf ((l.drop (i+k)).drop 16) 0=n5 at *;generalize hik2:i+k=ik at *;have hpc:piece (some ⟨bk,off,none⟩) cap ik=some ⟨bk,off+ik,none⟩:=by unfold piece;rw[if_neg (by omega),Option.map_some,add_plain]
   go_wp2_with (first
    |(refine wpList_dropN rfl (.tmp 40) (.tmp 43) rfl (A:=some ⟨bk,off,none⟩) (n:=l.length) (c:=cap) (k:=ik) rfl rfl (by omega) (by omega) hcap ?_;rw[hpc]))
   generalize hcc:cap - ik=cc at *;have l20:20≤cc:=by omega
   have l4:(4:Int)≤(cc:Int):=by omega
   have l8:(8:Int)≤(cc:Int):=by omega
   have l12:(12:Int)≤(cc:Int):=by omega
   have l16:(16:Int)≤(cc:Int):=by omega
   have p4:¬cc=4:=by omega
   have p8:¬cc=8:=by omega
   have p12:¬cc=12:=by omega
   have p16:¬cc=16:=by omega
   have q20:(20:Int)≤(cc:Int):=by omega
   refine wp_region_still_tail 18 mixed (by kernel_rfl) ?_;simp only[List.take_succ_cons,List.take_zero,List.drop_succ_cons,List.drop_zero]
   repeat still_step
   still_call HG.out.1
   repeat still_step
   still_call HG.out.2.1
   repeat still_step
   still_call HG.out.2.2.1
   repeat still_step
   still_call HG.out.2.2.2.1
   repeat still_step
   still_call HG.out.2.2.2.2
   repeat still_step
   refine wpStill_nil ?_;change wpList _ _ _ _ _ w4.drew
   have hR2:w4.drew.ownsRow w2.heap.size 9 1 (.slice A1 m.length c1) m.length (m.map strV)∧w4.drew.ownsRow w3.heap.size 9 1 (.slice A2 x.length c2) x.length (x.map strV)∧w4.drew.heap[w.heap.size]? =some (.cells #[.slice none 0 0,.slice none 0 0,.int .u32 0,.int .u32 0,.int .u32 0,.int .u32 0,.int .u32 0] 91 (0,0))∧Below w.heap.size w w4.drew:=
    ⟨HR.out.1,HR.out.2.1,HR.out.2.2.1,below_drew HR.out.2.2.2.1⟩
   have hsz3:w.heap.size < w3.heap.size:=by have:=hb3.size;omega
   have hso:=HR.out.2.2.2.2.1;clear u0 u1 u2 u3 u4 u5 u6 uf0 uf1 uf2 uf3 uf4 uf5 uf6 HG HR;generalize w4.drew=w5 at *;obtain⟨ho1,ho2,q5,hb5⟩:=hR2;obtain⟨u0,u1,u2,u3,u4,u5,u6,uf⟩:=cells7 q5;have uf0:=uf 0;have uf1:=uf 1;have uf2:=uf 2;have uf3:=uf 3;have uf4:=uf 4;have uf5:=uf 5;have uf6:=uf 6;have HQ:=hid (And.intro ho1 (And.intro ho2 (And.intro q5 (And.intro hb5 hso))))
   clear ho1 ho2 q5 hb5 hso;go_wp2_with fail;obtain⟨qA,hkA⟩:=set7 HQ.out.2.2.1 (.slice A1 m.length c1) (.slice A2 x.length c2) (.int .u32 n1) (.int .u32 n2) (.int .u32 n3) (.int .u32 n4) (.int .u32 n5) rfl;have hbF:=HQ.out.2.2.2.1.trans (hkA.below (B:=w.heap.size) (Nat.le_trans (by omega) (lt_block HQ.out.2.2.1)) (fun k hk=>by omega))
   have hownM2:=Kept.row HQ.out.1 hkA (fun k hk=>by have:=(HQ.out.1.lt k hk).1;omega);have hownX2:=Kept.row HQ.out.2.1 hkA (fun k hk=>by have:=(HQ.out.2.1.lt k hk).1;omega)
   generalize(((((((w5.setCell ⟨w.heap.size,0,none⟩ (.slice A1 m.length c1)).setCell ⟨w.heap.size,1,none⟩ (.slice A2 x.length c2)).setCell ⟨w.heap.size,2,none⟩ (.int .u32 n1)).setCell ⟨w.heap.size,3,none⟩ (.int .u32 n2)).setCell ⟨w.heap.size,4,none⟩ (.int .u32 n3)).setCell ⟨w.heap.size,5,none⟩ (.int .u32 n4)).setCell ⟨w.heap.size,6,none⟩ (.int .u32 n5))=w6 at *
   obtain⟨z0,z1,z2,z3,z4,z5,z6,_⟩:=cells7 qA;have hso:=HQ.out.2.2.2.2;refine bodyPost_ret (v:=.tuple #[.agg #[.slice A1 m.length c1,.slice A2 x.length c2,.int .u32 n1,.int .u32 n2,.int .u32 n3,.int .u32 n4,.int .u32 n5],.int .i64 (code50 (soaB l))]) ?_ rfl ⟨hbF,_,rfl,(fun h=>by rw[hso]at h;cases h),fun _=>⟨A1,c1,A2,c2, ?_, ?_, ?_⟩⟩
   ·simp[results,results49,go_sem,z0,z1,z2,z3,z4,z5,z6,hso,code50]
   ·rw[HSM.out];rfl
   ·rw[HSM.out];exact own_base hownM2 (by omega)
   ·rw[HSM.out];exact own_base hownX2 (by omega)
  ·obtain⟨u0,u1,u2,u3,u4,u5,u6,uf⟩:=cells7 q4;have uf0:=uf 0;have uf1:=uf 1;have uf2:=uf 2;have uf3:=uf 3;have uf4:=uf 4;have uf5:=uf 5;have uf6:=uf 6;have HQ:=hid (And.intro q4 hbw4);clear q4 hbw4 H1 HO2 hown2 hO1;have hKl:=openK_le (l.drop i);rw[hlk]at hKl;generalize openE (l.drop i)=E at *;generalize openK (l.drop i)=K at *;rcases hbad with hbad|⟨hbad,hlen⟩
   ·go_wp2_with fail;obtain⟨qA,hkA⟩:=set7 HQ.out.1 (.slice none 0 0) (.slice none 0 0) (.int .u32 0) (.int .u32 0) (.int .u32 0) (.int .u32 0) (.int .u32 0) rfl;have hbF:=HQ.out.2.trans (hkA.below (B:=w.heap.size) (Nat.le_trans (by omega) (lt_block HQ.out.1)) (fun k hk=>by omega))
    generalize(((((((w4.setCell ⟨w.heap.size,0,none⟩ (.slice none 0 0)).setCell ⟨w.heap.size,1,none⟩ (.slice none 0 0)).setCell ⟨w.heap.size,2,none⟩ (.int .u32 0)).setCell ⟨w.heap.size,3,none⟩ (.int .u32 0)).setCell ⟨w.heap.size,4,none⟩ (.int .u32 0)).setCell ⟨w.heap.size,5,none⟩ (.int .u32 0)).setCell ⟨w.heap.size,6,none⟩ (.int .u32 0))=w6 at *
    obtain⟨z0,z1,z2,z3,z4,z5,z6,_⟩:=cells7 qA;refine bodyPost_ret (v:=.tuple #[.agg #[.slice none 0 0,.slice none 0 0,.int .u32 0,.int .u32 0,.int .u32 0,.int .u32 0,.int .u32 0],.int .i64 (code50 (soaB l))]) ?_ rfl ⟨hbF,_,rfl,fun _=>rfl,(fun h=>by rw[hso]at h;cases h)⟩;simp[results,results49,go_sem,z0,z1,z2,z3,z4,z5,z6,hso,code50]
   ·subst hbad;have hne:((l.length:Int) !=(i:Int)+(K:Int)+20)=true:=by simp;omega
    go_wp2_with fail;obtain⟨qA,hkA⟩:=set7 HQ.out.1 (.slice none 0 0) (.slice none 0 0) (.int .u32 0) (.int .u32 0) (.int .u32 0) (.int .u32 0) (.int .u32 0) rfl;have hbF:=HQ.out.2.trans (hkA.below (B:=w.heap.size) (Nat.le_trans (by omega) (lt_block HQ.out.1)) (fun k hk=>by omega))
    generalize(((((((w4.setCell ⟨w.heap.size,0,none⟩ (.slice none 0 0)).setCell ⟨w.heap.size,1,none⟩ (.slice none 0 0)).setCell ⟨w.heap.size,2,none⟩ (.int .u32 0)).setCell ⟨w.heap.size,3,none⟩ (.int .u32 0)).setCell ⟨w.heap.size,4,none⟩ (.int .u32 0)).setCell ⟨w.heap.size,5,none⟩ (.int .u32 0)).setCell ⟨w.heap.size,6,none⟩ (.int .u32 0))=w6 at *
    obtain⟨z0,z1,z2,z3,z4,z5,z6,_⟩:=cells7 qA;refine bodyPost_ret (v:=.tuple #[.agg #[.slice none 0 0,.slice none 0 0,.int .u32 0,.int .u32 0,.int .u32 0,.int .u32 0,.int .u32 0],.int .i64 (code50 (soaB l))]) ?_ rfl ⟨hbF,_,rfl,fun _=>rfl,(fun h=>by rw[hso]at h;cases h)⟩;simp[results,results49,go_sem,z0,z1,z2,z3,z4,z5,z6,hso,code50]
 ·obtain⟨q4,hbw4⟩:=HB.out w3 hb3;generalize hw43:w3=w4 at *;clear hw43;obtain⟨u0,u1,u2,u3,u4,u5,u6,uf⟩:=cells7 q4;have uf0:=uf 0;have uf1:=uf 1;have uf2:=uf 2;have uf3:=uf 3;have uf4:=uf 4;have uf5:=uf 5;have uf6:=uf 6;have HQ:=hid (And.intro q4 hbw4);clear q4 hbw4 hown1;generalize openE l=E at *;go_wp2_with fail
  obtain⟨qA,hkA⟩:=set7 HQ.out.1 (.slice none 0 0) (.slice none 0 0) (.int .u32 0) (.int .u32 0) (.int .u32 0) (.int .u32 0) (.int .u32 0) rfl;have hbF:=HQ.out.2.trans (hkA.below (B:=w.heap.size) (Nat.le_trans (by omega) (lt_block HQ.out.1)) (fun k hk=>by omega))
  generalize(((((((w4.setCell ⟨w.heap.size,0,none⟩ (.slice none 0 0)).setCell ⟨w.heap.size,1,none⟩ (.slice none 0 0)).setCell ⟨w.heap.size,2,none⟩ (.int .u32 0)).setCell ⟨w.heap.size,3,none⟩ (.int .u32 0)).setCell ⟨w.heap.size,4,none⟩ (.int .u32 0)).setCell ⟨w.heap.size,5,none⟩ (.int .u32 0)).setCell ⟨w.heap.size,6,none⟩ (.int .u32 0))=w6 at *
  obtain⟨z0,z1,z2,z3,z4,z5,z6,_⟩:=cells7 qA;refine bodyPost_ret (v:=.tuple #[.agg #[.slice none 0 0,.slice none 0 0,.int .u32 0,.int .u32 0,.int .u32 0,.int .u32 0,.int .u32 0],.int .i64 (code50 (soaB l))]) ?_ rfl ⟨hbF,_,rfl,fun _=>rfl,(fun h=>by rw[hso]at h;cases h)⟩;simp[results,results49,go_sem,z0,z1,z2,z3,z4,z5,z6,hso,code50]
def goodT(t:Nat):Prop:=t=1∨t=28∨t=15∨t=16∨t=2∨t=5∨t=43∨t=6∨t=99
theorem rk1(b:Lab):chk ((1:Nat):Int) b=(decide (b.length≤8192)&&(b.length==4)):=rfl
theorem rk28(b:Lab):chk ((28:Nat):Int) b=(decide (b.length≤8192)&&(b.length==16)):=rfl
theorem rk2(b:Lab):chk ((2:Nat):Int) b=(decide (b.length≤8192)&&wholeB b):=rfl
theorem rk5(b:Lab):chk ((5:Nat):Int) b=(decide (b.length≤8192)&&wholeB b):=rfl
theorem rk15(b:Lab):chk ((15:Nat):Int) b=(decide (b.length≤8192)&&(decide (2≤b.length)&&wholeB (b.drop 2))):=rfl
theorem rk6(b:Lab):chk ((6:Nat):Int) b=(decide (b.length≤8192)&&soaB b):=rfl
theorem rk16(b:Lab):chk ((16:Nat):Int) b=(decide (b.length≤8192)&&(!b.isEmpty &&txt b 0)):=rfl
theorem rk43(b:Lab):chk ((43:Nat):Int) b=(decide (b.length≤8192)&&decide (5≤b.length)):=rfl
theorem rk99(b:Lab):chk ((99:Nat):Int) b=(decide (b.length≤8192)&&true):=rfl
theorem whole_nil:wholeB ([]:Lab)=false:=by unfold wholeB openO;rw[parse_nil]
def TxtR(b:Lab)(w:World)(v:Value)(wr:World):Prop:=∃k:Nat,v=.int .i64 (k:Int)∧k≤b.length+256∧((k≤b.length∧txt b 0=txt b k)∨(b.length < k∧txt b 0=false))∧wr=w
theorem RCheck(t:Nat)(ht:goodT t)(A:Option Addr)(b:Lab)(cap:Nat)(w:World)(hc:Cs w A (b.map byteV))(hb:b.length≤100000)(hcap:b.length≤cap)(hcap2:cap≤maxLen):
 Calls prog 86 #[.int .u16 (t:Int),.slice A b.length cap] w fun e w'=>Below w.heap.size w w'∧e=.returned (.int .i64 (code50 (chk t b))):=by
 go_enter func86,ntmps86;rcases ht with rfl|rfl|rfl|rfl|rfl|rfl|rfl|rfl|rfl
 ·have HK:=hid (rk1 b);cases hX:((b.length:Int)==4)
  ·have hx2:(b.length==4)=false:=by simp at hX ⊢;omega
   rw[hx2]at HK;go_wp2_with fail;go_ret;exact⟨Below.refl _ _,by rw[HK.out];simp[code50]⟩
  ·have hx2:(b.length==4)=true:=by simp at hX ⊢;omega
   have h8:b.length≤8192:=by simp at hx2;omega
   rw[hx2]at HK;clear hx2;go_wp2_with fail;go_ret;exact⟨Below.refl _ _,by rw[HK.out];simp[code50,h8]⟩
 ·have HK:=hid (rk28 b);cases hX:((b.length:Int)==16)
  ·have hx2:(b.length==16)=false:=by simp at hX ⊢;omega
   rw[hx2]at HK;go_wp2_with fail;go_ret;exact⟨Below.refl _ _,by rw[HK.out];simp[code50]⟩
  ·have hx2:(b.length==16)=true:=by simp at hX ⊢;omega
   have h8:b.length≤8192:=by simp at hx2;omega
   rw[hx2]at HK;clear hx2;go_wp2_with fail;go_ret;exact⟨Below.refl _ _,by rw[HK.out];simp[code50,h8]⟩
 ·have HK:=hid (rk15 b);by_cases h2:2 < b.length
  ·obtain⟨bk,off,rfl,hbl,_⟩:=Cs.byte hc h2;have hW:Hid (Calls prog 134 #[.slice (some ⟨bk,off+2,none⟩) (b.length - 2) (cap - 2)] w fun e w'=>e=.returned (.bool (wholeB (b.drop 2)))∧Below w.heap.size w w'):=hid (by
    have h:=hc.drop' 2 cap (by simpa using hcap);rw[←List.map_drop,if_neg (by omega),Option.map_some,add_plain]at h;have h2:=RWhole (some ⟨bk,off+2,none⟩) (b.drop 2) (cap - 2) w h (by rw[List.length_drop];omega) (by rw[List.length_drop];omega) (by omega);rw[List.length_drop]at h2;exact h2)
   have h2i:(2:Int) < (b.length:Int):=by omega
   have h2c:¬cap=2:=by omega
   go_wp2_with fail;refine hW.out.mono ?_;rintro e w' ⟨rfl,hbw⟩;generalize wholeB (b.drop 2)=X at *;have h22:2≤b.length:=by omega
   cases X
   ·go_wp2_with fail;go_ret;exact⟨hbw,by rw[HK.out];simp[code50]⟩
   ·by_cases h8:b.length≤8192
    ·go_wp2_with fail;go_ret;exact⟨hbw,by rw[HK.out];simp[code50,h8,h22]⟩
    ·go_wp2_with fail;go_ret;exact⟨hbw,by rw[HK.out];simp[code50,h8]⟩
  ·have hX:(decide (2≤b.length)&&wholeB (b.drop 2))=false:=by
    by_cases h22:b.length=2
    ·rw[List.drop_eq_nil_of_le (by omega),whole_nil,Bool.and_false]
    ·have h3:decide (2≤b.length)=false:=by simp;omega
     rw[h3,Bool.false_and]
   rw[hX]at HK;clear hX;have h2i:((b.length:Int) > 2)=False:=by simp;omega
   go_wp2_with fail;go_ret;exact⟨Below.refl _ _,by rw[HK.out];simp[code50]⟩
 ·have HK:=hid (rk16 b);go_wp2_with fail
  go_loopw [8] (fun v wr=>TxtR b w v wr) (fun v _=>b.length+256 - (intOf v).toNat)
  case atStart=>exact⟨0,rfl,by omega,.inl ⟨Nat.zero_le _,rfl⟩,rfl⟩
  case round=>
   obtain⟨k,rfl,hk,hcase,hwr⟩:=hrel;rw[hwr];clear hwr;by_cases hlt:k < b.length
   ·obtain⟨bk,off,rfl,hbl,c0⟩:=hc.byte (l:=b) (i:=k) hlt;have hst:=txt_step hlt;have hx:=UInt8.toNat_lt b[k];have hT:txt b 0=txt b k:=by
     rcases hcase with⟨_,h⟩|⟨h,_⟩
     ·exact h
     ·omega
    have HT:=hid (hT.trans hst);clear hcase hst hT;generalize b[k].toNat=x at *;go_wp2_with fail;refine⟨⟨k+1+x,by go_num,by omega, ?_,rfl⟩,by simp[intOf];omega⟩;by_cases hle:k+1+x≤b.length
    ·exact .inl ⟨hle,by rw[HT.out];simp[hle]⟩
    ·exact .inr ⟨by omega,by rw[HT.out];simp[hle]⟩
   ·have HC:=hid hcase;clear hcase;cases he:b.isEmpty
    ·have h0:¬b=[]:=by simpa using he
     have hpos:0 < b.length:=List.length_pos_iff.2 h0;have hposi:(0:Int) < (b.length:Int):=by omega
     rw[he]at HK;clear he h0;by_cases hkl:k=b.length
     ·subst hkl;have hT:txt b 0=true:=by
       rcases HC.out with⟨_,h⟩|⟨h,_⟩
       ·rw[h];exact txt_end (Nat.lt_irrefl _)
       ·omega
      rw[hT]at HK;clear hT;by_cases h8:b.length≤8192
      ·go_wp2_with fail;go_ret;exact⟨Below.refl _ _,by rw[HK.out];simp[code50,h8]⟩
      ·go_wp2_with fail;go_ret;exact⟨Below.refl _ _,by rw[HK.out];simp[code50,h8]⟩
     ·have hT:txt b 0=false:=by
       rcases HC.out with⟨h,_⟩|⟨_,h⟩
       ·omega
       ·exact h
      rw[hT]at HK;clear hT;have hne:((k:Int)==(b.length:Int))=false:=by simp;omega
      go_wp2_with fail;go_ret;exact⟨Below.refl _ _,by rw[HK.out];simp[code50]⟩
    ·have h0:b=[]:=by simpa using he
     subst h0;go_wp2_with fail;go_ret;exact⟨Below.refl _ _,by rw[HK.out];simp[code50]⟩
 ·have HK:=hid (rk2 b);have hW:=hid (RWhole A b cap w hc hb hcap hcap2);go_wp2_with fail;refine hW.out.mono ?_;rintro e w' ⟨rfl,hbw⟩;generalize wholeB b=X at *;cases X
  ·go_wp2_with fail;go_ret;exact⟨hbw,by rw[HK.out];simp[code50]⟩
  ·by_cases h8:b.length≤8192
   ·go_wp2_with fail;go_ret;exact⟨hbw,by rw[HK.out];simp[code50,h8]⟩
   ·go_wp2_with fail;go_ret;exact⟨hbw,by rw[HK.out];simp[code50,h8]⟩
 ·have HK:=hid (rk5 b);have hW:=hid (RWhole A b cap w hc hb hcap hcap2);go_wp2_with fail;refine hW.out.mono ?_;rintro e w' ⟨rfl,hbw⟩;generalize wholeB b=X at *;cases X
  ·go_wp2_with fail;go_ret;exact⟨hbw,by rw[HK.out];simp[code50]⟩
  ·by_cases h8:b.length≤8192
   ·go_wp2_with fail;go_ret;exact⟨hbw,by rw[HK.out];simp[code50,h8]⟩
   ·go_wp2_with fail;go_ret;exact⟨hbw,by rw[HK.out];simp[code50,h8]⟩
 ·have HK:=hid (rk43 b);by_cases h5:5≤b.length
  ·have h5i:(5:Int)≤(b.length:Int):=by omega
   by_cases h8:b.length≤8192
   ·go_wp2_with fail;go_ret;exact⟨Below.refl _ _,by rw[HK.out];simp[code50,h8,h5]⟩
   ·go_wp2_with fail;go_ret;exact⟨Below.refl _ _,by rw[HK.out];simp[code50,h8]⟩
  ·have h5i:¬(5:Int)≤(b.length:Int):=by omega
   go_wp2_with fail;go_ret;exact⟨Below.refl _ _,by rw[show chk 43 b=_ from HK.out];simp[code50,h5]⟩
 ·have HK:=hid (rk6 b);have hS:=hid (RSoa A b cap w hc hb hcap hcap2);go_wp2_with fail;refine hS.out.mono ?_;rintro e w4 ⟨hb4,v,rfl,hp⟩;clear hS;cases hso:soaB b with
  |false=>
   obtain rfl:=hp.1 hso;rw[hso]at HK;clear hp;go_wp2_with fail;go_ret;exact⟨hb4.trans (bAl.mono hb4.size),by rw[HK.out];simp[code50]⟩
  |true=>
   obtain⟨Am,ca,Bx,cb,hv,_,_⟩:=hp.2 hso;obtain⟨M,X,n1,n2,n3,n4,n5,hsm⟩:∃M X n1 n2 n3 n4 n5,soaM b=⟨M,X,n1,n2,n3,n4,n5⟩:=⟨_,_,_,_,_,_,_,rfl⟩
   rw[hsm]at hv;unfold SoaM.v at hv;simp only at hv;subst hv;rw[hso]at HK;clear hp hsm;by_cases h8:b.length≤8192
   ·go_wp2_with fail;go_ret;exact⟨hb4.trans (bAl.mono hb4.size),by rw[HK.out];simp[code50,h8]⟩
   ·go_wp2_with fail;go_ret;exact⟨hb4.trans (bAl.mono hb4.size),by rw[HK.out];simp[code50,h8]⟩
 ·have HK:=hid (rk99 b);by_cases h8:b.length≤8192
  ·go_wp2_with fail;go_ret;exact⟨Below.refl _ _,by rw[HK.out];simp[code50,h8]⟩
  ·go_wp2_with fail;go_ret;exact⟨Below.refl _ _,by rw[HK.out];simp[code50,h8]⟩
def upR(how k:Nat)(pre:Bool):UR:=
 if how %8 < 4 then⟨recN k,recT k,1,if pre then 0 else ttlK k,recD k⟩
 else if how %8=4 then⟨recN k,recT k,255,0,[]⟩
 else if how %8=5 then⟨recN k,255,255,0,[]⟩
 else if how %8=6 then⟨recN k,recT k,254,0,if pre then[]else recD k⟩
 else⟨recN k,if pre then 255 else recT k,254,0,if pre then[]else recD k⟩
theorem recN_ok(k:Nat):Small (recN k)∧nameE (recN k)=0∧within (recN k) [exL]=true:=by
 have h:∀m,m < 13→Small (ownL m++[exL])∧nameE (ownL m++[exL])=0∧within (ownL m++[exL]) [exL]=true:=by
  unfold Small;decide
 exact h (k %256 %13) (Nat.mod_lt _ (by omega))
theorem typeK_tyU:∀m,m < 10→((typeK m:Nat):Int)∈tyU:=by decide
theorem recT_tyU(k:Nat):((recT k:Nat):Int)∈tyU:=typeK_tyU _ (Nat.mod_lt _ (by omega))
theorem tyU_easy{t:Int}(h:t∈tyU):easyT t∧(Lit.int .u16 t).wf=true∧t≠255∧t≠41∧keptT t=false:=by
 have h2:∀t∈tyU,easyT t∧(Lit.int .u16 t).wf=true∧t≠255∧t≠41∧keptT t=false:=by
  unfold easyT;decide
 exact h2 t h
theorem tyU_nat{t:Int}(h:t∈tyU):∃m:Nat,t=(m:Int)∧goodT m:=by
 have h2:∀t∈tyU,t=((t.toNat:Nat):Int)∧goodT t.toNat:=by
  unfold goodT;decide
 exact⟨_,h2 t h⟩
theorem recD_ok(k:Nat):chk (recT k) (recD k)=true∧(recD k).length≤100:=
 ⟨chk_all _ (Nat.mod_lt _ (by omega)) _ (Nat.mod_lt _ (by omega)),len_all _ (Nat.mod_lt _ (by omega)) _ (Nat.mod_lt _ (by omega))⟩
theorem ttlK_le(k:Nat):ttlK k≤60:=by
 have h:∀m,m < 4→ttlN m≤60:=by decide
 exact h _ (Nat.mod_lt _ (by omega))
theorem recD_soa{k:Nat}(h:recT k=6):∃s m,s < 4294967296∧m < 4294967296∧recD k=soaD s m:=by
 unfold recD;rw[h,dataN6];have h1:k / 65536 %256 < 256:=Nat.mod_lt _ (by omega);exact⟨_,_,by omega,by omega,rfl⟩
theorem wf_u32{n:Nat}(h:n < 4294967296):(Lit.int .u32 (n:Int)).wf=true:=by
 simp[Lit.wf,IntKind.min,IntKind.max,IntKind.signed,IntKind.bits];omega
theorem upR_ok(how k:Nat)(pre:Bool):UOk (upR how k pre):=by
 obtain⟨n1,n2,n3⟩:=recN_ok k;obtain⟨t1,t2,_⟩:=tyU_easy (recT_tyU k);have hl:=(recD_ok k).2;have ht:=ttlK_le k;have hw:=wf_u32 (n:=ttlK k) (by omega);have e255:easyT 255:=by unfold easyT;decide
 unfold upR;split
 ·refine⟨n1,n2,t1,t2,by rfl, ?_,by show(recD k).length≤_;omega⟩;cases pre
  ·exact hw
  ·rfl
 split
 ·exact⟨n1,n2,t1,t2,by rfl,by rfl,by show([]:Lab).length≤_;simp⟩
 split
 ·exact⟨n1,n2,e255,by rfl,by rfl,by rfl,by show([]:Lab).length≤_;simp⟩
 split
 ·refine⟨n1,n2,t1,t2,by rfl,by rfl, ?_⟩;cases pre
  ·show(recD k).length≤_;omega
  ·show([]:Lab).length≤_;simp
 ·cases pre
  ·exact⟨n1,n2,t1,t2,by rfl,by rfl,by show(recD k).length≤_;omega⟩
  ·exact⟨n1,n2,e255,by rfl,by rfl,by rfl,by show([]:Lab).length≤_;simp⟩
theorem upR_rok(how k:Nat):URok (upR how k false):=by
 have hok:=upR_ok how k false;obtain⟨_,_,n3⟩:=recN_ok k;have ht:=ttlK_le k;have h1:=recT_tyU k;have h2:=(recD_ok k).1;have h6:∀x:Nat,x=recT k→((x:Nat):Int)=6→∃s m,s < 4294967296∧m < 4294967296∧recD k=soaD s m:=fun x e h=>recD_soa (by omega);revert hok;unfold upR;split
 ·intro hok;exact⟨hok,n3,fun _=>⟨h1,h2⟩,.inl rfl,fun _ h=>h6 _ rfl h,by show(0:Int)≤((ttlK k:Nat):Int)∧((ttlK k:Nat):Int) < _;omega⟩
 split
 ·intro hok;exact⟨hok,n3,fun h=>absurd rfl h,.inr (.inr rfl),fun(h:(255:Int)=1)=>absurd h (by decide),by show(0:Int)≤0∧(0:Int) < _;omega⟩
 split
 ·intro hok;exact⟨hok,n3,fun h=>absurd rfl h,.inr (.inr rfl),fun(h:(255:Int)=1)=>absurd h (by decide),by show(0:Int)≤0∧(0:Int) < _;omega⟩
 split
 ·intro hok;exact⟨hok,n3,fun _=>⟨h1,h2⟩,.inr (.inl rfl),fun(h:(254:Int)=1)=>absurd h (by decide),by show(0:Int)≤0∧(0:Int) < _;omega⟩
 ·intro hok;exact⟨hok,n3,fun _=>⟨h1,h2⟩,.inr (.inl rfl),fun(h:(254:Int)=1)=>absurd h (by decide),by show(0:Int)≤0∧(0:Int) < _;omega⟩
def recS(k:Nat):Says:=(recN k,recT k,ttlK k,recD k)
def okB(out:List Says)(k:Nat):Bool:=recT k !=6&& !(recT k==43&&(recN k).length==1)&& !(recT k==2&&wild (recN k))&&out.all fun x=> !(same x.1 (recN k)&&(x.2.1==5||recT k==5))
def stepB(out:List Says)(k:Nat):List Says:=if okB out k then out++[recS k]else out
def begin0:List Says:=[([exL],6,50,dataN 6 1),([exL],2,60,dataN 2 1)]
def beginL(l:List Nat):List Says:=l.foldl stepB begin0
structure GoodS(x:Says):Prop where
 small:Small x.1
 name:nameE x.1=0
 inn:within x.1 [exL]=true
 ty:x.2.1∈tyU
 chk:chk x.2.1 x.2.2.2=true
 t0:0≤x.2.2.1
 t1:x.2.2.1 < 4294967296
 len:x.2.2.2.length≤100
theorem recS_good(k:Nat):GoodS (recS k):=by
 obtain⟨n1,n2,n3⟩:=recN_ok k;have ht:=ttlK_le k;exact⟨n1,n2,n3,recT_tyU k,(recD_ok k).1,by show(0:Int)≤((ttlK k:Nat):Int);omega,by show((ttlK k:Nat):Int) < _;omega,(recD_ok k).2⟩
theorem begin0_good:∀x∈begin0,GoodS x:=by
 have hs:Small [exL]∧nameE [exL]=0∧within [exL] [exL]=true:=by unfold Small;decide
 intro x hx;unfold begin0 at hx;simp only[List.mem_cons,List.not_mem_nil,or_false]at hx;rcases hx with rfl|rfl
 ·exact⟨hs.1,hs.2.1,hs.2.2,by show(6:Int)∈tyU;decide,chk_all 8 (by decide) 1 (by decide),by show(0:Int)≤50;decide,by show(50:Int) < _;decide,len_all 8 (by decide) 1 (by decide)⟩
 ·exact⟨hs.1,hs.2.1,hs.2.2,by show(2:Int)∈tyU;decide,chk_all 5 (by decide) 1 (by decide),by show(0:Int)≤60;decide,by show(60:Int) < _;decide,len_all 5 (by decide) 1 (by decide)⟩
theorem stepB_ind{P:Says→Prop}(h:∀k,recT k≠6→P (recS k)):∀(l:List Nat) (out:List Says),(∀x∈out,P x)→∀x∈l.foldl stepB out,P x
 |[],out,ho=>ho
 |k::l,out,ho=>by
  rw[List.foldl_cons];refine stepB_ind h l _ fun x hx=> ?_;unfold stepB at hx;split at hx
  ·rename_i hk;rcases List.mem_append.1 hx with hx|hx
   ·exact ho x hx
   ·have:x=recS k:=by simpa using hx
    rw[this];refine h k fun e=> ?_;unfold okB at hk;rw[e]at hk;simp at hk
  ·exact ho x hx
theorem beginL_good(l:List Nat):∀x∈beginL l,GoodS x:=stepB_ind (fun k _=>recS_good k) l _ begin0_good
theorem stepB_pre(l:List Nat):∀out:List Says,∃r,l.foldl stepB out=out++r∧r.length≤l.length:=by
 induction l with
 |nil=>intro out;exact⟨[],by simp,by simp⟩
 |cons k l ih=>
  intro out;rw[List.foldl_cons];obtain⟨r,h1,h2⟩:=ih (stepB out k);unfold stepB at h1;split at h1
  ·exact⟨recS k::r,by unfold stepB;rw[if_pos (by assumption),h1];simp,by simp;omega⟩
  ·exact⟨r,by unfold stepB;rw[if_neg (by assumption),h1],by simp;omega⟩
theorem beginL_form(l:List Nat):∃r:List Says,beginL l=begin0++r∧r.length≤l.length∧∀x∈r,GoodS x∧x.2.1≠6:=by
 obtain⟨r,h1,h2⟩:=stepB_pre l begin0;have h3:∀x∈l.foldl stepB [],GoodS x∧x.2.1≠6:=stepB_ind (fun k hk=>⟨recS_good k,fun e=>hk (by have e:((recT k:Nat):Int)=6:=e;omega)⟩) l [] (fun x hx=>by cases hx);refine⟨r,h1,h2,fun x hx=> ?_⟩;have h4:∀(l:List Nat) (out:List Says),∀x∈(l.foldl stepB out).drop out.length,GoodS x∧x.2.1≠6:=by
  intro l
  induction l with
  |nil=>intro out x hx;simp at hx
  |cons k l ih=>
   intro out x hx;rw[List.foldl_cons]at hx;have hst:stepB out k=if okB out k then out++[recS k]else out:=rfl
   rw[hst]at hx;split at hx
   ·rename_i hk;obtain⟨r2,e2,_⟩:=stepB_pre l (out++[recS k]);have h5:=ih (out++[recS k]);rw[e2,List.append_assoc,List.drop_left]at hx;rw[e2,List.drop_left]at h5;rcases List.mem_append.1 hx with hx|hx
    ·have:x=recS k:=by simpa using hx
     rw[this];refine⟨recS_good k,fun e=> ?_⟩;have e:((recT k:Nat):Int)=6:=e;have e':recT k=6:=by omega
     unfold okB at hk;rw[e']at hk;simp at hk
    ·exact h5 x hx
   ·exact ih out x hx
 refine h4 l begin0 x ?_;rw[h1,List.drop_left];exact hx
def putS(F:Cont)(x:Says):Cont:=(putC F (lower x.1) x.2.1 x.2.2.1 x.2.2.2 (canonD x.2.1 x.2.2.2)).1
def cont0:Cont:=fun _ _=>none
def madeF(l:List Nat):Cont:=(beginL l).foldl putS cont0
theorem putC_some{F:Cont}{n m:List Lab}{t s ttl:Int}{d c:Lab}(h:F m s≠none):(putC F n t ttl d c).1 m s≠none:=by
 by_cases e:m=n∧s=t
 ·obtain⟨rfl,rfl⟩:=e;unfold putC;cases hF:F m s with
  |none=>exact absurd hF h
  |some x=>
   obtain⟨t0,ds⟩:=x;simp only;split <;> (simp only;rw[updC_at];simp)
 ·rw[putC_other e];exact h
theorem UF.putS{F:Cont}(h:UF F){x:Says}(hx:GoodS x)(h6:x.2.1≠6):UF (putS F x):=by
 obtain⟨ttl,s,m,g1,g2,g3⟩:=h.soa;have hl:=hx.len;refine UF.of0 (h.zero.put hx.ty hx.t0 hx.t1 (by omega)) g1 g2 (ttl:=ttl) ?_;unfold Nm.putS;rw[putC_other (fun e=>h6 e.2.symm)];exact g3
theorem UF.putSs{F:Cont}:∀{r:List Says},UF F→F [exL] 2≠none→(∀x∈r,GoodS x∧x.2.1≠6)→UF (r.foldl Nm.putS F)∧r.foldl Nm.putS F [exL] 2≠none
 |[],h,h2,_=>⟨h,h2⟩
 |x::r,h,h2,hx=>by
  rw[List.foldl_cons];have h1:=hx x (by simp);exact UF.putSs (h.putS h1.1 h1.2) (putC_some h2) fun y hy=>hx y (by simp[hy])
def soa0:Cont:=updC cont0 [exL] 6 (some (50,[(soaD 16777216 30,soaD 16777216 30)]))
theorem putS_soa:putS cont0 ([exL],6,50,dataN 6 1)=soa0:=by
 unfold putS putC;have e:lower ([exL]:List Lab)=[exL]:=by decide
 simp only;rw[e];have e2:cont0 [exL] 6=none:=rfl;rw[e2];simp only;rw[dataN6];have e3:=soaD_can (s:=1 *16777216) (m:=10+1 %4 *20) (by decide) (by decide);rw[e3];rfl
theorem soa0_uf:UF0 soa0:=by
 have h0:UF0 cont0:=⟨fun n t x h=>(by cases h),fun n t ttl ds h=>(by cases h)⟩
 refine h0.upd fun ttl ds e=> ?_;injection e with e;injection e with e1 e2;subst e1 e2;exact⟨by decide,by decide,by decide,fun e he=>by simp at he;rw[he];show(soaD _ _).length≤_;rw[soaD_len];omega⟩
theorem madeF_ok(l:List Nat):UF (madeF l)∧madeF l [exL] 2≠none:=by
 obtain⟨r,h1,_,h3⟩:=beginL_form l;unfold madeF;rw[h1,List.foldl_append];have hg:=begin0_good ([exL],2,60,dataN 2 1) (by unfold begin0;simp);have hu:UF soa0:=UF.of0 soa0_uf (ttl:=50) (s:=16777216) (m:=30) (by decide) (by decide) (updC_at _ _ _ _);have hu2:=hu.putS hg (by decide);refine UF.putSs ?_ ?_ h3
 ·unfold begin0;rw[List.foldl_cons,List.foldl_cons,List.foldl_nil,putS_soa];exact hu2
 ·unfold begin0;rw[List.foldl_cons,List.foldl_cons,List.foldl_nil,putS_soa];unfold putS putC;have e:lower ([exL]:List Lab)=[exL]:=by decide
  simp only;rw[e];have e2:soa0 [exL] 2=none:=updC_ne _ _ (by decide);rw[e2];simp only;rw[updC_at];simp
theorem refLow(c:UInt8)(w:World):Calls prog 167 #[.int .u8 (c.toNat:Nat)] w fun e w'=>e=.returned (.int .u8 ((lowB c).toNat:Nat))∧w=w':=by
 have hc256:c.toNat < 256:=UInt8.toNat_lt c;by_cases hu:65≤c.toNat∧c.toNat≤90
 ·obtain⟨hu1,hu2⟩:=hu;have hb:(((lowB c).toNat:Nat):Int)=(c.toNat:Int)+32:=by
   unfold lowB;rw[if_pos ⟨hu1,hu2⟩,UInt8.toNat_add];have:(32:UInt8).toNat=32:=rfl;omega
  rw[hb];have hu1':(65:Int)≤(c.toNat:Int):=by omega
  have hu2':(c.toNat:Int)≤90:=by omega
  go_enter func167,ntmps167;go_wp2_with fail;go_ret;exact⟨rfl,rfl⟩
 ·have hb:lowB c=c:=by unfold lowB;rw[if_neg hu]
  rw[hb];by_cases h1:65≤c.toNat
  ·have hu1':(65:Int)≤(c.toNat:Int):=by omega
   have hu2':(90:Int) < (c.toNat:Int):=by omega
   clear hu hb;go_enter func167,ntmps167;go_wp2_with fail;go_ret;exact⟨rfl,rfl⟩
  ·have hu1':(c.toNat:Int) < 65:=by omega
   clear hu h1 hb;go_enter func167,ntmps167;go_wp2_with fail;go_ret;exact⟨rfl,rfl⟩
theorem LowText(l:Lab)(w:World)(hl:l.length≤1000000):Calls prog 117 #[.string (strB l)] w fun e w'=>e=.returned (.string (strB (low l)))∧Below w.heap.size w w':=by
 obtain⟨w1,cap,cs,fr,hrun,hcap,hb1,hs1,hblk,htake,hfr⟩:=bytes_of w l;go_enter func117,ntmps117;go_wp2_with fail;have HB:=hid hblk;have HT:=hid htake;clear hblk htake hrun
 go_loopw [4] (SmallR l w fr) (fun i _=>l.length - (intOf i).toNat)
 case atStart=>exact⟨0,cs,Nat.zero_le _,rfl,HB.out,by rw[half_zero];exact HT.out,hb1⟩
 case round=>
  obtain⟨k,cs,hk,rfl,hblk,htake,hbw⟩:=hrel;have HB:=hid hblk;have HT:=hid htake;have ht2:cs.toList.take (half l k).length=(half l k).map byteV:=by rw[half_len];exact htake
  by_cases hlt:k < l.length
  ·have hk2:k < (half l k).length:=by rw[half_len];exact hlt
   have hc:=blk_cell hblk ht2 hk2;rw[half_at hlt]at hc;have hz:=blk_frozen (i:=k) hblk (by omega);clear hblk htake;generalize hce:l[k]=c at *;have hset:=blk_set (i:=k) HB.out ht2 (lowB c);rw[half_set hlt (lowB c) (by rw[hce])]at hset;have HS:=hid hset;have hc':wr.cell? ⟨w.heap.size,k,none⟩=some (.int .u8 (c.toNat:Nat)):=hc;clear hce ht2 hset hc;go_wp2_with fail;refine(refLow c _).mono ?_
   rintro e w2 ⟨rfl,rfl⟩;go_wp2_with fail;refine⟨⟨k+1,cs.setIfInBounds k (byteV (lowB c)),by omega,by go_num,HS.out.1, ?_,hbw.setCell (Nat.le_refl _) _⟩,by simp[intOf];omega⟩;have:=HS.out.2;rw[half_len]at this;exact this
  ·have hkl:k=l.length:=by omega
   subst hkl;have hcs:=blk_cs hblk ht2;rw[half_all]at hcs;have hcv:=run_str (P:=prog) wr underlying37 underlying5 underlying9 cap hcs;rw[low_len]at hcv;clear hblk htake ht2 hcs;go_wp2_with fail;go_ret;exact⟨rfl,hbw⟩
theorem RLower(A:Option Addr)(n:List Lab)(cap:Nat)(w:World)(hc:Cs w A (n.map strV))(hf:Few n):
 Calls prog 64 #[.slice A n.length cap] w fun e w'=>∃v,e=.returned v∧w'.ownsRow w.heap.size 9 1 v n.length ((lower n).map strV)∧Below w.heap.size w w':=by
 obtain⟨i0,hi,hz0,hz1,hz2⟩:=info_parts info_str;have hlen:=hf.1;have HF:=hid hf;clear hf;go_enter func64,ntmps64;go_wp2_with fail
 go_loopw [3,4] (LowerR n w) (fun _ i _=>n.length - (intOf i).toNat)
 case atStart=>exact⟨0,Nat.zero_le _,rfl,World.ownsRow_nil _ _ _ _,Below.refl _ _⟩
 case round=>
  obtain⟨k,hk,rfl,hown,hbel⟩:=hrel;by_cases hlt:k < n.length
  ·obtain⟨bk,off,rfl,hbl,hc0⟩:=Cs.str hc hlt;have hc1:=(hbel.cell (p:=⟨bk,off+k,none⟩) hbl).trans hc0;have hl6:n[k].length≤1000000:=by have:=HF.out.2 n[k] (List.getElem_mem hlt);omega
   have HN:Hid ((lower (n.take (k+1))).map strV=(lower (n.take k)).map strV++[strV (low n[k])]):=by
    show _=_;unfold lower;rw[List.take_succ_eq_append_getElem hlt,List.map_append,List.map_append];rfl
   generalize n[k]=l at *;go_wp2_with fail;refine(LowText l _ hl6).mono ?_;rintro e w2 ⟨rfl,hb2⟩;have hown2:=own_below hown hb2;have hbel2:=hbel.trans (hb2.mono hbel.size)
   go_wp2_with (first|(at_builtin;refine wpList_push2 hown2 hbel2.size [strV (low l)] rfl (by simp[strV,Value.oneCell']) hi hz0 hz1 hz2 rfl (by decide) rfl _ _ 28 underlying28 rfl rfl rfl (by unfold maxLen;omega) (by omega) ?_;intro v4 w4 hown4 hbw4;have hbw5:=hbel2.trans hbw4))
   exact⟨⟨k+1,by omega,by go_num,by rw[HN.out];exact hown4,hbw5⟩,by simp[intOf];omega⟩
  ·have hkl:k=n.length:=by omega
   rw[hkl,List.take_length]at hown;clear hkl;go_wp2_with fail;go_ret;exact⟨_,rfl,hown,hbel⟩
instance ltB_dec(a b:Lab):Decidable (ltB a b):=by unfold ltB;exact inferInstance
theorem lower_eq_iff(a b:List Lab):lower a=lower b↔a.length=b.length∧∀i (h1:i < a.length) (h2:i < b.length),low a[i]=low b[i]:=by
 unfold lower;constructor
 ·intro h;have hl:a.length=b.length:=by have:=congrArg List.length h;simpa using this
  refine⟨hl,fun i h1 h2=> ?_⟩;have h3:(a.map low)[i]? =(b.map low)[i]?:=by rw[h]
  rw[List.getElem?_map,List.getElem?_map,List.getElem?_eq_getElem h1,List.getElem?_eq_getElem h2]at h3;simpa using h3
 ·rintro⟨hl,h⟩;refine List.ext_getElem (by simpa using hl) (fun i h1 h2=> ?_);rw[List.getElem_map,List.getElem_map];exact h i (by simpa using h1) (by simpa using h2)
def SmR(a b:List Lab)(w:World)(vi:Value)(wr:World):Prop:=∃k:Nat,k≤a.length∧vi=.int .i64 (k:Int)∧(∀i (h1:i < a.length) (h2:i < b.length),i < k→low a[i]=low b[i])∧Below w.heap.size w wr
theorem RSame(A B:Option Addr)(a b:List Lab)(ca cb:Nat)(w:World)(hca:Cs w A (a.map strV))(hcb:Cs w B (b.map strV))(ha:Few a)(hb:Few b):
 Calls prog 61 #[.slice A a.length ca,.slice B b.length cb] w fun e w'=>Below w.heap.size w w'∧e=.returned (.bool (same a b)):=by
 have HF:=hid (And.intro ha hb);have hal:=ha.1;have hbl:=hb.1;clear ha hb;by_cases hl:a.length=b.length
 ·go_enter func61,ntmps61;have hlb:((a.length:Int) !=(b.length:Int))=false:=by simp;omega
  have HLe:=hid hl;have HCS:=hid (And.intro hca hcb);clear hl hca hcb;go_wp2_with fail
  go_loopw [5] (fun v wr=>SmR a b w v wr) (fun v _=>a.length - (intOf v).toNat)
  case atStart=>exact⟨0,Nat.zero_le _,rfl,fun i _ _ h=>by omega,Below.refl _ _⟩
  case round=>
   obtain⟨k,hk,rfl,hsm,hbel⟩:=hrel;have HSM:=hid (And.intro hsm hbel);clear hsm hbel;by_cases hlt:k < a.length
   ·have hlt2:k < b.length:=by have:=HLe.out;omega
    obtain⟨ba,oa,rfl,hba,hc0⟩:=Cs.str HCS.out.1 hlt;obtain⟨bb,ob,rfl,hbb,hd0⟩:=Cs.str HCS.out.2 hlt2;have hc1:=(HSM.out.2.cell (p:=⟨ba,oa+k,none⟩) hba).trans hc0;have hd1:=(HSM.out.2.cell (p:=⟨bb,ob+k,none⟩) hbb).trans hd0;have hxl:a[k].length≤1000000:=by have:=HF.out.1.2 a[k] (List.getElem_mem hlt);omega
    have hyl:b[k].length≤1000000:=by have:=HF.out.2.2 b[k] (List.getElem_mem hlt2);omega
    have HEQ:Hid (low a[k]=low b[k]→∀i (h1:i < a.length) (h2:i < b.length),i < k+1→low a[i]=low b[i]):=hid (fun h i h1 h2 h3=>by
     by_cases hik:i=k
     ·subst hik;exact h
     ·exact HSM.out.1 i h1 h2 (by omega))
    have HNE:Hid (¬low a[k]=low b[k]→same a b=false):=hid (fun h=>by
     cases hs:same a b
     ·rfl
     ·exact absurd (((lower_eq_iff a b).1 ((same_iff a b).1 hs)).2 k hlt hlt2) h)
    have HSZ:Hid (w.heap.size≤wr.heap.size):=hid HSM.out.2.size;generalize a[k]=x at *;generalize b[k]=y at *;have hxb:=LowText x;have hyb:=LowText y;have HT:=hid (And.intro hxb hyb);clear hxb hyb hc0 hd0;go_wp2_with fail;have hbaw:ba < wr.heap.size:=Nat.lt_of_lt_of_le hba HSZ.out;have hbbw:bb < wr.heap.size:=Nat.lt_of_lt_of_le hbb HSZ.out
    refine wp_region_x (by kernel_rfl) (by kernel_rfl) wr.heap.size (Nat.le_refl _) [.c (.is (.slice (some ⟨ba,oa,none⟩) a.length ca)),.c (.is (.int .i64 (k:Int))),.c (.is (.pointer (some ⟨ba,oa+k,none⟩))),.c (.is (.string (strB x))),.c (.is (.string (strB (low x)))),
     .c (.is (.slice (some ⟨bb,ob,none⟩) b.length cb)),.c (.is (.int .i64 (k:Int))),.c (.is (.pointer (some ⟨bb,ob+k,none⟩))),.c (.is (.string (strB y))),.c (.is (.string (strB (low y)))),.c (.is (.bool (!(low x==low y))))] (by kernel_rfl) (fun i=>0) (fun j=>0) (by kernel_rfl) ?_ (fun _=>True) trivial (fun _ _ _ _=>trivial) (fun _ _ _ _=>trivial) ?_ ?_
    ·intro j vals;rcases j with _|_|_|_|_|_|_|_|_|_|_|j
     all_goals first
      |exact plain_is _
      |exact plain_any
    ·intro i o hio vals W hE haf _;have e1:=(bcl (o:=oa+k) hE hbaw).trans hc1;have e2:=(bcl (o:=ob+k) hE hbbw).trans hd1;rcases i with _|_|_|_|_|_|_|_|_|_|_|i
     all_goals first
      |(exfalso;simp at hio;done)
      |skip
     all_goals
      simp at hio;subst hio;simp[bindD,rdB,Region.binds,dfAt,DF.d_at]at haf
     all_goals first
      |(simp[opU,go_sem,haf,e1,e2,hlt,hlt2,Ext.refl,dfAt,DF.d_at,kindX,strB_toList];done)
      |skip
     ·simp[opU,go_sem,haf,dfAt,DF.d_at,kindX];refine(HT.out.1 W hxl).mono fun e W' h5=> ?_;exact⟨h5.1,h5.2⟩
     ·simp[opU,go_sem,haf,dfAt,DF.d_at,kindX];refine(HT.out.2 W hyl).mono fun e W' h5=> ?_;exact⟨h5.1,h5.2⟩
    ·intro vals W hE hF;have h10:=hF 10 (by show 10 < 11;omega) (by kernel_rfl);simp only[dfAt,DF.d_at]at h10;have h10:vals 10=.bool (!(low x==low y)):=by simpa[DF.d_at]using h10
     simp[relAct,dstAt,Act.put];rw[h10];have hbW:=HSM.out.2.trans (hE.mono HSZ.out);clear hF h10;by_cases he:low x=low y
     ·have hbb2:(low x==low y)=true:=by simp[he]
      rw[hbb2];have hall:=HEQ.out he;have HALL:=hid hall;clear hall;go_wp2_with fail;exact⟨⟨k+1,hlt,by go_num,HALL.out,hbW⟩,by simp[intOf];omega⟩
     ·have hbb2:(low x==low y)=false:=by simp[he]
      rw[hbb2];go_wp2_with fail;go_ret;exact⟨hbW,by rw[HNE.out he];rfl⟩
   ·have hkl:k=a.length:=by omega
    have hsame:same a b=true:=(same_iff a b).2 ((lower_eq_iff a b).2 ⟨HLe.out,fun i h1 h2=>HSM.out.1 i h1 h2 (by omega)⟩);have HSa:=hid hsame;clear hsame;go_wp2_with fail;go_ret;exact⟨HSM.out.2,by rw[HSa.out];rfl⟩
 ·have hsf:same a b=false:=by
   cases hs:same a b
   ·rfl
   ·exact absurd ((lower_eq_iff a b).1 ((same_iff a b).1 hs)).1 hl
  have hlb:((a.length:Int) !=(b.length:Int))=true:=by simp;omega
  go_enter func61,ntmps61;have HSa:=hid hsf;clear hsf;go_wp2_with fail;go_ret;exact⟨Below.refl _ _,by rw[HSa.out];rfl⟩
theorem RWithin(A B:Option Addr)(a b:List Lab)(ca cb:Nat)(w:World)(hca:Cs w A (a.map strV))(hcb:Cs w B (b.map strV))(ha:Few a)(hb:Few b)(hcap:a.length≤ca)(hcap2:ca≤maxLen):
 Calls prog 67 #[.slice A a.length ca,.slice B b.length cb] w fun e w'=>Below w.heap.size w w'∧e=.returned (.bool (within a b)):=by
 unfold maxLen at hcap2;have hla:=ha.1;have hlb:=hb.1;by_cases h:b.length≤a.length
 ·have hd:=hca.drop' (a.length - b.length) ca (by simpa using hcap);rw[←List.map_drop]at hd;have hdl:(a.drop (a.length - b.length)).length=a.length - (a.length - b.length):=List.length_drop;have HW:Hid (within a b=same (a.drop (a.length - b.length)) b):=hid (by unfold within;simp[h])
  have hS:=fun A' c' (hA':Cs w A' ((a.drop (a.length - b.length)).map strV))=>RSame A' B (a.drop (a.length - b.length)) b c' cb w hA' hcb (ha.drop _) hb;rw[hdl]at hS;have hge:decide (b.length≤a.length)=true:=by simpa using h
  clear hdl;have HS:=hid hS;have HD:=hid hd;clear hS hd ha hb hca hcb;generalize same (a.drop (a.length - b.length)) b=s at *;go_enter func67,ntmps67;go_wp2_with fail
  all_goals
   have HD2:=HD.out;simp only[h,if_true,if_false]at HD2;refine(HS.out _ _ HD2).mono ?_;rintro e w' ⟨hb5,rfl⟩;go_wp2_with fail;go_ret;exact⟨hb5,by rw[HW.out];rfl⟩
 ·have HW:Hid (within a b=false):=hid (by unfold within;simp[h]);have hge:decide (b.length≤a.length)=false:=by simpa using h
  go_enter func67,ntmps67;go_wp2_with fail;go_ret;exact⟨Below.refl _ _,by rw[HW.out];rfl⟩
theorem less_cb2:∀a b:Lab,Op.bytesLess a b=decide (Lib.compareBytes a b < 0)
 |[],[]=>by simp[Op.bytesLess,Lib.compareBytes]
 |[],_::_=>by simp[Op.bytesLess,Lib.compareBytes]
 |_::_,[]=>by simp[Op.bytesLess,Lib.compareBytes]
 |x::a,y::b=>by
  have ih:=less_cb2 a b;unfold Op.bytesLess Lib.compareBytes;rw[ih];by_cases h1:x < y
  ·simp[h1]
  ·by_cases h2:y < x
   ·have h3:¬x=y:=fun e=>by subst e;exact h1 h2
    simp[h1,h2,h3]
   ·have h3:x=y:=by
     rw[UInt8.lt_iff_toNat_lt]at h1 h2;exact UInt8.toNat_inj.1 (by omega)
    simp[h1,h2,h3]
theorem cb_range:∀a b:Lab,Lib.compareBytes a b= -1∨Lib.compareBytes a b=0∨Lib.compareBytes a b=1
 |[],[]=>by simp[Lib.compareBytes]
 |[],_::_=>by simp[Lib.compareBytes]
 |_::_,[]=>by simp[Lib.compareBytes]
 |x::a,y::b=>by
  unfold Lib.compareBytes;split
  ·exact .inl rfl
  ·split
   ·exact .inr (.inr rfl)
   ·exact cb_range a b
theorem str3(x y:Lab):(Lib.compareBytes x y= -1∧Op.bytesLess (strB x).toList (strB y).toList=true∧((strB x).toList==(strB y).toList)=false)∨(Lib.compareBytes x y=1∧Op.bytesLess (strB x).toList (strB y).toList=false∧((strB x).toList==(strB y).toList)=false)∨(Lib.compareBytes x y=0∧Op.bytesLess (strB x).toList (strB y).toList=false∧((strB x).toList==(strB y).toList)=true):=by
 rw[strB_toList,strB_toList,less_cb2];rcases cb_range x y with h|h|h
 ·left;rw[h];exact⟨rfl,rfl,by rw[beq_eq_false_iff_ne];intro e;have:=(cb_zero x y).2 e;omega⟩
 ·right;right;rw[h];exact⟨rfl,rfl,by rw[beq_iff_eq];exact(cb_zero x y).1 h⟩
 ·right;left;rw[h];exact⟨rfl,rfl,by rw[beq_eq_false_iff_ne];intro e;have:=(cb_zero x y).2 e;omega⟩
def RcmpR(a b:List Lab)(w:World)(i:Value)(wr:World):Prop:=
 ∃j:Nat,j≤a.length∧j≤b.length∧i=.int .i64 ((j+1:Nat):Int)∧cmpN a b=cmpR (a.reverse.drop j) (b.reverse.drop j)∧Below w.heap.size w wr
theorem RCompare(A B:Option Addr)(a b:List Lab)(ca cb:Nat)(w:World)(hca:Cs w A (a.map strV))(hcb:Cs w B (b.map strV))(ha:Few a)(hb:Few b):
 Calls prog 154 #[.slice A a.length ca,.slice B b.length cb] w fun e w'=>Below w.heap.size w w'∧e=.returned (.int .i64 (cmpN a b)):=by
 have hla:=ha.1;have hlb:=hb.1;have HA:=hid hca;have HB:=hid hcb;have HF:=hid ha;have HG:=hid hb;clear hca hcb ha hb;go_enter func154,ntmps154;go_wp2_with fail
 go_loopw [5] (RcmpR a b w) (fun i _=>a.length+1 - (intOf i).toNat)
 case atStart=>exact⟨0,Nat.zero_le _,Nat.zero_le _,rfl,rfl,Below.refl _ _⟩
 case round=>
  obtain⟨j,hja,hjb,rfl,hcmp,hbel⟩:=hrel;have HC:=hid hcmp;clear hcmp;by_cases hlt:j < a.length∧j < b.length
  ·obtain⟨h1,h2⟩:=hlt;have hm1:a.length - 1 - j < a.length:=by omega
   have hm2:b.length - 1 - j < b.length:=by omega
   obtain⟨ba,oa,rfl,hba,hxa⟩:=Cs.str HA.out hm1;obtain⟨bb,ob,rfl,hbb,hxb⟩:=Cs.str HB.out hm2;have HS:=hid (cmpR_step h1 h2);have c1:((j+1:Nat):Int)≤(a.length:Int):=by omega
   have c2:((j+1:Nat):Int)≤(b.length:Int):=by omega
   have wa2:IntKind.i64.wrap ((a.length:Int) - ((j+1:Nat):Int))=((a.length - 1 - j:Nat):Int):=by rw[IntWalk.i64_in _ (by omega)];omega
   have wb2:IntKind.i64.wrap ((b.length:Int) - ((j+1:Nat):Int))=((b.length - 1 - j:Nat):Int):=by rw[IntWalk.i64_in _ (by omega)];omega
   have s1:=HF.out.2 _ (List.getElem_mem hm1);have s2:=HG.out.2 _ (List.getElem_mem hm2);generalize hjj:((j+1:Nat):Int)=J at *;generalize a[a.length - 1 - j]=x at *;generalize b[b.length - 1 - j]=y at *;go_wp2_with fail;have hxa1:=(hbel.cell (p:=⟨ba,oa+(a.length - 1 - j),none⟩) hba).trans hxa;have hxb1:=(hbel.cell (p:=⟨bb,ob+(b.length - 1 - j),none⟩) hbb).trans hxb;have hbs:=hbel.size
   have HXY:=hid (str3 (low x) (low y))
   refine wp_region_mono mixed0 (by kernel_rfl) [.is (.slice (some ⟨ba,oa,none⟩) a.length ca),.is (.slice (some ⟨ba,oa,none⟩) a.length ca),.is (.int .i64 a.length),.is (.int .i64 J),.is (.int .i64 (a.length - 1 - j:Nat)),.is (.pointer (some ⟨ba,oa+(a.length - 1 - j),none⟩)),.is (.string (strB x)),.is (.string (strB (low x))),.is (.slice (some ⟨bb,ob,none⟩) b.length cb),.is (.slice (some ⟨bb,ob,none⟩) b.length cb),.is (.int .i64 b.length),.is (.int .i64 J),.is (.int .i64 (b.length - 1 - j:Nat)),.is (.pointer (some ⟨bb,ob+(b.length - 1 - j),none⟩)),.is (.string (strB y)),.is (.string (strB (low y))),.is (.string (strB (low x))),.is (.string (strB (low y)))] rfl ?_ ?_
   ·intro i o hio vals W hE haf;have e0:=(bcl (o:=oa+(a.length - 1 - j)) hE (by omega)).trans hxa1;have e1:=(bcl (o:=ob+(b.length - 1 - j)) hE (by omega)).trans hxb1;rcases i with _|_|_|_|_|_|_|_|_|_|_|_|_|_|_|_|_|_|i
    all_goals first
     |(exfalso;simp at hio;done)
     |(simp at hio;subst hio;simp[bindD,rdB,Region.binds,factAt]at haf;simp[opU,go_sem,haf,e0,e1,Ext.refl,factAt,wa2,wb2,hm1,hm2];done)
     |skip
    all_goals
     simp at hio;subst hio;simp[bindD,rdB,Region.binds,factAt]at haf
    ·simp[opU,go_sem,haf,e0,e1,Ext.refl,factAt,wa2,wb2,hm1,hm2];exact(LowText x W (by omega)).mono fun e W' h=>⟨h.1,h.2⟩
    ·simp[opU,go_sem,haf,e0,e1,Ext.refl,factAt,wa2,wb2,hm1,hm2];exact(LowText y W (by omega)).mono fun e W' h=>⟨h.1,h.2⟩
   ·intro vals W hE hF;simp[facts]at hF;simp[relAct,dstAt,Act.put,hF];clear hF;have hb5:=hbel.trans (Below.mono hE hbs);rcases HXY.out with⟨hc,hl,hne⟩|⟨hc,hl,hne⟩|⟨hc,hl,hne⟩
    ·have HV:Hid (cmpN a b= -1):=hid (by rw[HC.out,HS.out,hc,if_neg (by decide)]);clear HC HS hc;go_wp2_with fail;go_ret;exact⟨hb5,ret_int HV.out.symm⟩
    ·have HV:Hid (cmpN a b=1):=hid (by rw[HC.out,HS.out,hc,if_neg (by decide)]);clear HC HS hc;go_wp2_with fail;go_ret;exact⟨hb5,ret_int HV.out.symm⟩
    ·have HV:Hid (cmpN a b=cmpR (a.reverse.drop (j+1)) (b.reverse.drop (j+1))):=hid (by rw[HC.out,HS.out,hc,if_pos rfl]);clear HC HS hc;go_wp2_with fail;subst hjj;exact⟨⟨j+1,h1,h2,by go_num,HV.out,hb5⟩,by simp[intOf];omega⟩
  ·have HE:=hid (cmpR_end hlt hja hjb);have hlen:(a.length:Int) < (b.length:Int)∨(b.length:Int) < (a.length:Int)∨(a.length:Int)=(b.length:Int):=by omega
   have HV:Hid (((a.length:Int) < (b.length:Int)→cmpN a b= -1)∧((b.length:Int) < (a.length:Int)→cmpN a b=1)∧((a.length:Int)=(b.length:Int)→cmpN a b=0)):=hid (by
    rw[HC.out,HE.out];refine⟨fun h=>if_pos (by omega),fun h=> ?_,fun h=> ?_⟩
    ·rw[if_neg (by omega),if_pos (by omega)]
    ·rw[if_neg (by omega),if_neg (by omega)])
   clear HC HE;have hend:(a.length:Int) < ((j+1:Nat):Int)∨((j+1:Nat):Int)≤(a.length:Int)∧(b.length:Int) < ((j+1:Nat):Int):=by omega
   generalize((j+1:Nat):Int)=J at *;rcases hend with c1|⟨c1,c2⟩ <;> rcases hlen with l1|l1|l1
   ·have HR:=hid (HV.out.1 l1)
    (go_wp2_with fail) <;> (go_ret;exact⟨hbel,ret_int HR.out.symm⟩)
   ·have HR:=hid (HV.out.2.1 l1)
    (go_wp2_with fail) <;> (go_ret;exact⟨hbel,ret_int HR.out.symm⟩)
   ·have HR:=hid (HV.out.2.2 l1)
    (go_wp2_with fail) <;> (go_ret;exact⟨hbel,ret_int HR.out.symm⟩)
   ·have HR:=hid (HV.out.1 l1)
    (go_wp2_with fail) <;> (go_ret;exact⟨hbel,ret_int HR.out.symm⟩)
   ·have HR:=hid (HV.out.2.1 l1)
    (go_wp2_with fail) <;> (go_ret;exact⟨hbel,ret_int HR.out.symm⟩)
   ·have HR:=hid (HV.out.2.2 l1)
    (go_wp2_with fail) <;> (go_ret;exact⟨hbel,ret_int HR.out.symm⟩)
theorem RWild(A:Option Addr)(n:List Lab)(cap:Nat)(w:World)(hc:Cs w A (n.map strV)):
 Calls prog 46 #[.slice A n.length cap] w fun e w'=>e=.returned (.bool (wild n))∧w=w':=by
 cases n with
 |nil=>
  go_enter func46,ntmps46;go_wp2_with fail;go_ret;exact⟨rfl,rfl⟩
 |cons l n=>
  obtain⟨bk,off,rfl,hbl,hc0⟩:=Cs.str hc (i:=0) (by simp);rw[Nat.add_zero]at hc0;simp only[List.getElem_cons_zero]at hc0;have hpos:(0:Int) < (((l::n).length:Nat):Int):=by simp only[List.length_cons];omega
  have hw:wild (l::n)=((strB l).toList==[42]):=by
   rw[strB_toList];unfold wild;split
   ·rename_i h;cases h;rfl
   ·rename_i h;rw[eq_comm,beq_eq_false_iff_ne];intro e;subst e;exact h n rfl
  rw[hw];clear hw;generalize(l::n).length=m at *;go_enter func46,ntmps46;go_wp2_with fail;go_ret;exact⟨rfl,rfl⟩
def Rc1R(n:List Lab)(w:World)(i:Value)(wr:World):Prop:=∃k:Nat,k≤n.length∧i=.int .i64 k∧w=wr
def Rc2R(n:List Lab)(w:World)(al i:Value)(wr:World):Prop:=∃k t:Nat,k≤n.length∧i=.int .i64 k∧al=.int .i64 t∧t=(wire (n.take k)).length∧w=wr
theorem RCheckN(A:Option Addr)(n:List Lab)(cap:Nat)(w:World)(hc:Cs w A (n.map strV))(hn:nameE n=0)(hs:Few n):
 Calls prog 108 #[.slice A n.length cap] w fun e w'=>e=.returned (.int .i64 0)∧w=w':=by
 obtain⟨h1,h2⟩:=nameE_zero.1 hn;have hlen:=hs.1;have HF:=hid h1;have HT:Hid (∀k,(wire (n.take k)).length≤(wire n).length):=hid fun k=>by
  by_cases hk:k < n.length
  ·have e:∀j,(wire (n.take (n.length - j))).length≤(wire n).length:=fun j=>by
    induction j with
    |zero=>rw[Nat.sub_zero,List.take_length];exact Nat.le_refl _
    |succ j ih=>
     by_cases hj:j < n.length
     ·have e1:n.length - (j+1) < n.length:=by omega
      have e2:=wire_len_take e1;rw[show n.length - (j+1)+1=n.length - j from by omega]at e2;omega
     ·rw[show n.length - (j+1)=n.length - j from by omega];exact ih
   have:=e (n.length - k);rwa[show n.length - (n.length - k)=k from by omega]at this
  ·rw[List.take_of_length_le (by omega)];exact Nat.le_refl _
 have HW:Hid ((wire n).length≤255):=hid h2;clear hs h1 h2 hn;go_enter func108,ntmps108;go_wp2_with fail
 go_loopw [4] (Rc1R n w) (fun i _=>n.length - (intOf i).toNat)
 case atStart=>exact⟨0,Nat.zero_le _,rfl,rfl⟩
 case round=>
  obtain⟨k,hk,rfl,rfl⟩:=hrel;by_cases hlt:k < n.length
  ·obtain⟨bk,off,rfl,hbl,hc0⟩:=Cs.str hc hlt;have hl0:n[k]≠[]:=fun e=>by
    have:=(HF.out n[k] (List.getElem_mem hlt)).1;rw[e]at this;simp at this
   have htl:=strB_toList n[k];generalize n[k]=l at *;have hne2:((strB l).toList==[])=false:=by
    rw[htl,beq_eq_false_iff_ne];exact hl0
   have hne3:(strB l).toList.isEmpty=false:=by
    rw[htl];simpa using hl0
   clear hl0 htl;go_wp2_with fail;exact⟨⟨k+1,by omega,by go_num,rfl⟩,by simp[intOf];omega⟩
  ·go_wp2_with fail
   go_loopw [3,5] (Rc2R n w) (fun _ i _=>n.length - (intOf i).toNat)
   case atStart=>exact⟨0,1,Nat.zero_le _,rfl,rfl,by simp[wire,wires],rfl⟩
   case round=>
    obtain⟨j,t,hj,rfl,rfl,ht,rfl⟩:=hrel;by_cases hltj:j < n.length
    ·obtain⟨bk,off,rfl,hbl,hc0⟩:=Cs.str hc hltj;have hl6:=(HF.out n[j] (List.getElem_mem hltj)).2;have hw1:=wire_len_take hltj;have hw2:=HT.out (j+1);have hw3:=HW.out;have hsz:=strB_size n[j];generalize n[j]=l at *;have hs63:¬(63:Int) < (l.length:Int):=by omega
     have hw4:IntKind.i64.wrap ((l.length:Int)+1)=((l.length+1:Nat):Int):=by rw[IntWalk.i64_in _ (by omega)];omega
     have hw5:IntKind.i64.wrap ((t:Int)+((l.length+1:Nat):Int))=((t+(l.length+1):Nat):Int):=by rw[IntWalk.i64_in _ (by omega)];omega
     have hs255:¬(255:Int) < ((t+(l.length+1):Nat):Int):=by omega
     have HE:Hid (t+(l.length+1)=(wire (n.take (j+1))).length):=hid (by omega);clear hw1 hw2 hw3 ht;go_wp2_with fail;exact⟨⟨j+1,_,by omega,by go_num,rfl,HE.out,rfl⟩,by simp[intOf];omega⟩
    ·go_wp2_with fail;go_ret;exact⟨rfl,rfl⟩
end Nm
end Go.Proofs.YtmbdoacafhljkaaGreat
