/- Texts merged by a program: Cmp, Same, Blob, Bytes, BytesS, Ord, SortG, Rel3, Rel4, RelR2, CmpD, Put, Canon1, Fresh, SigB. -/
import Derived.Test.YtmbdoacafhljkaaGreatShelf
import Derived.IntWalk
import Derived.Shelf.Spec.SlicesGrow
import Derived.Lib.SliceRun
import Derived.Outline
import Derived.Lib.BytesEntry
import Derived.Shelf.SlSortCmp.NoneTotal
import Derived.Sort.Statements
import Derived.LoopN
import Derived.Deep.RegionWith
import Derived.Laws.Tables
import Derived.Test.YtmbdoacafhljkaaGreatUh1
set_option linter.unusedSimpArgs false
set_option linter.unusedVariables false
set_option maxRecDepth 1000000
set_option maxHeartbeats 20000000
open Go.Proofs.Tryz
namespace Go.Proofs.YtmbdoacafhljkaaGreat
open Go.RowKit
namespace Nm
theorem mixed0:prog.follows .mixedOrders=true:=by kernel_rfl
def cmpR:List Lab→List Lab→Int
 |[],[]=>0
 |[],_::_=> -1
 |_::_,[]=>1
 |x::a,y::b=>if Lib.compareBytes (low x) (low y)=0 then cmpR a b else Lib.compareBytes (low x) (low y)
def cmpN(a b:List Lab):Int:=cmpR a.reverse b.reverse
theorem strCompare(a b:Lab)(w:World):Calls prog 116 #[.string (strB a),.string (strB b)] w fun e w'=>e=.returned (.int .i64 (Lib.compareBytes a b))∧w=w':=by
 have h:=Any.strings_Compare Tryz.strCmp (strB a) (strB b) w;exact h.mono fun e w' ⟨h1,h2⟩=>⟨h1,h2.symm⟩
theorem cmpR_step{a b:List Lab}{j:Nat}(ha:j < a.length)(hb:j < b.length):cmpR (a.reverse.drop j) (b.reverse.drop j)=
 if Lib.compareBytes (low (a[a.length - 1 - j]'(by omega))) (low (b[b.length - 1 - j]'(by omega)))=0 then cmpR (a.reverse.drop (j+1)) (b.reverse.drop (j+1))else Lib.compareBytes (low (a[a.length - 1 - j]'(by omega))) (low (b[b.length - 1 - j]'(by omega))):=by
 rw[List.drop_eq_getElem_cons (l:=a.reverse) (by simpa using ha),List.drop_eq_getElem_cons (l:=b.reverse) (by simpa using hb)];simp only[cmpR,List.getElem_reverse]
theorem cmpR_end{a b:List Lab}{j:Nat}(h:¬(j < a.length∧j < b.length))(ha:j≤a.length)(hb:j≤b.length):cmpR (a.reverse.drop j) (b.reverse.drop j)=if a.length < b.length then -1 else if b.length < a.length then 1 else 0:=by
 by_cases h1:j < a.length
 ·have h2:j=b.length:=by omega
  rw[List.drop_eq_getElem_cons (l:=a.reverse) (by simpa using h1),List.drop_eq_nil_of_le (show b.reverse.length≤j by simp;omega),if_neg (by omega),if_pos (by omega)];rfl
 ·have h2:j=a.length:=by omega
  rw[List.drop_eq_nil_of_le (show a.reverse.length≤j by simp;omega)];by_cases h3:j < b.length
  ·rw[List.drop_eq_getElem_cons (l:=b.reverse) (by simpa using h3),if_pos (by omega)];rfl
  ·rw[List.drop_eq_nil_of_le (show b.reverse.length≤j by simp;omega),if_neg (by omega),if_neg (by omega)];rfl
def CmpR(a b:List Lab)(w:World)(i:Value)(wr:World):Prop:=
 ∃j:Nat,j≤a.length∧j≤b.length∧i=.int .i64 j∧cmpN a b=cmpR (a.reverse.drop j) (b.reverse.drop j)∧Below w.heap.size w wr
theorem Compare(A B:Option Addr)(a b:List Lab)(ca cb:Nat)(w:World)(hca:Cs w A (a.map strV))(hcb:Cs w B (b.map strV))(ha:Few a)(hb:Few b):
 Calls prog 60 #[.slice A a.length ca,.slice B b.length cb] w fun e w'=>Below w.heap.size w w'∧e=.returned (.int .i64 (cmpN a b)):=by
 have hla:=ha.1;have hlb:=hb.1;have HA:=hid hca;have HB:=hid hcb;have HF:=hid ha;have HG:=hid hb;clear hca hcb ha hb;go_enter func60,ntmps60;go_wp2_with fail
 go_loopw [12] (CmpR a b w) (fun i _=>a.length - (intOf i).toNat)
 case atStart=>exact⟨0,Nat.zero_le _,Nat.zero_le _,rfl,rfl,Below.refl _ _⟩
 case round=>
  obtain⟨j,hja,hjb,rfl,hcmp,hbel⟩:=hrel;have HC:=hid hcmp;clear hcmp;by_cases hlt:j < a.length∧j < b.length
  ·obtain⟨h1,h2⟩:=hlt;have hm1:a.length - 1 - j < a.length:=by omega
   have hm2:b.length - 1 - j < b.length:=by omega
   obtain⟨ba,oa,rfl,hba,hxa⟩:=Cs.str HA.out hm1;obtain⟨bb,ob,rfl,hbb,hxb⟩:=Cs.str HB.out hm2;have HS:=hid (cmpR_step h1 h2);have wa:IntKind.i64.wrap ((a.length:Int) - 1)=(a.length:Int) - 1:=IntWalk.i64_in _ (by omega);have wb:IntKind.i64.wrap ((b.length:Int) - 1)=(b.length:Int) - 1:=IntWalk.i64_in _ (by omega)
   have wa2:IntKind.i64.wrap ((a.length:Int) - 1 - j)=((a.length - 1 - j:Nat):Int):=by rw[IntWalk.i64_in _ (by omega)];omega
   have wb2:IntKind.i64.wrap ((b.length:Int) - 1 - j)=((b.length - 1 - j:Nat):Int):=by rw[IntWalk.i64_in _ (by omega)];omega
   have s1:=HF.out.2 _ (List.getElem_mem hm1);have s2:=HG.out.2 _ (List.getElem_mem hm2);generalize a[a.length - 1 - j]=x at *;generalize b[b.length - 1 - j]=y at *;go_wp2_with fail;have hxa1:=(hbel.cell (p:=⟨ba,oa+(a.length - 1 - j),none⟩) hba).trans hxa;have hxb1:=(hbel.cell (p:=⟨bb,ob+(b.length - 1 - j),none⟩) hbb).trans hxb;have hbs:=hbel.size
   have HL1:Hid (strB (low x)=strB (low x)):=hid rfl;refine wp_region_mono mixed0 (by kernel_rfl) [.is (.slice (some ⟨ba,oa,none⟩) a.length ca),.is (.slice (some ⟨ba,oa,none⟩) a.length ca),.is (.int .i64 a.length),.is (.int .i64 ((a.length:Int) - 1)),.is (.int .i64 j),.is (.int .i64 (a.length - 1 - j:Nat)),
    .is (.pointer (some ⟨ba,oa+(a.length - 1 - j),none⟩)),.is (.string (strB x)),.is (.string (strB (low x))),
    .is (.slice (some ⟨bb,ob,none⟩) b.length cb),.is (.slice (some ⟨bb,ob,none⟩) b.length cb),.is (.int .i64 b.length),.is (.int .i64 ((b.length:Int) - 1)),.is (.int .i64 j),.is (.int .i64 (b.length - 1 - j:Nat)),
    .is (.pointer (some ⟨bb,ob+(b.length - 1 - j),none⟩)),.is (.string (strB y)),.is (.string (strB (low y))),.is (.int .i64 (Lib.compareBytes (low x) (low y))),.is (.int .i64 (Lib.compareBytes (low x) (low y)))] rfl ?_ ?_
   ·intro i o hio vals W hE haf;have e0:=(bcl hE (by omega)).trans hxa1;have e1:=(bcl hE (by omega)).trans hxb1;clear hxa hxa1 hxb hxb1;rcases i with _|_|_|_|_|_|_|_|_|_|_|_|_|_|_|_|_|_|_|_|i
    all_goals first
     |(exfalso;simp at hio;done)
     |(simp at hio;subst hio;simp[bindD,rdB,Region.binds,factAt]at haf;simp[opU,go_sem,haf,e0,e1,Ext.refl,factAt,wa,wb,wa2,wb2,hm1,hm2];done)
     |skip
    all_goals
     simp at hio;subst hio;simp[bindD,rdB,Region.binds,factAt]at haf;simp[opU,go_sem,haf,factAt]
    ·exact(small x W (by omega)).mono fun e W' h=>h
    ·exact(small y W (by omega)).mono fun e W' h=>h
    ·exact(strCompare (low x) (low y) W).mono fun e W' h=>⟨h.1,h.2▸Ext.refl _⟩
   ·intro vals W hE hF;simp[facts]at hF;simp[relAct,dstAt,Act.put,hF];clear hF;have hb5:=hbel.trans (Below.mono hE hbs);generalize Lib.compareBytes (low x) (low y)=c at *;by_cases hc0:c=0
    ·have hcb:(c==0)=true:=by simp[hc0]
     have hcb2:(c !=0)=false:=by simp[hc0]
     have HS2:=hid hc0;clear hc0;go_wp2_with fail;exact⟨⟨j+1,h1,h2,by go_num,by rw[HC.out,HS.out,if_pos HS2.out],hb5⟩,by simp[intOf];omega⟩
    ·have hcb:(c==0)=false:=by simp[hc0]
     have hcb2:(c !=0)=true:=by simp[hc0]
     go_wp2_with fail;go_ret;exact⟨hb5,ret_int (by rw[HC.out,HS.out,if_neg hc0])⟩
  ·have HE:=hid (cmpR_end hlt hja hjb);have hmin:¬(j:Int) < min (a.length:Int) (b.length:Int):=by omega
   by_cases h1:a.length < b.length
   ·have HV:Hid (cmpN a b= -1):=hid (by rw[HC.out,HE.out,if_pos h1]);clear HC HE;go_wp2_with fail;go_ret;exact⟨hbel,ret_int HV.out.symm⟩
   ·by_cases h2:b.length < a.length
    ·have HV:Hid (cmpN a b=1):=hid (by rw[HC.out,HE.out,if_neg h1,if_pos h2]);clear HC HE;go_wp2_with fail;go_ret;exact⟨hbel,ret_int HV.out.symm⟩
    ·have HV:Hid (cmpN a b=0):=hid (by rw[HC.out,HE.out,if_neg h1,if_neg h2]);clear HC HE;go_wp2_with fail;go_ret;exact⟨hbel,ret_int HV.out.symm⟩
theorem cb_zero:∀(a b:Lab),Lib.compareBytes a b=0↔a=b
 |[],[]=>by simp[Lib.compareBytes]
 |[],_::_=>by simp[Lib.compareBytes]
 |_::_,[]=>by simp[Lib.compareBytes]
 |x::a,y::b=>by
  unfold Lib.compareBytes;have ih:=cb_zero a b;by_cases h1:x < y
  ·rw[if_pos h1];constructor
   ·intro h;cases h
   ·intro h;cases h;exact absurd h1 (UInt8.lt_irrefl x)
  ·rw[if_neg h1];by_cases h2:y < x
   ·rw[if_pos h2];constructor
    ·intro h;cases h
    ·intro h;cases h;exact absurd h2 (UInt8.lt_irrefl x)
   ·rw[if_neg h2,ih];have hxy:x=y:=by
     rw[UInt8.lt_iff_toNat_lt]at h1 h2;exact UInt8.toNat_inj.1 (by omega)
    constructor
    ·intro h;rw[h,hxy]
    ·intro h;injection h
theorem cmpR_zero:∀(a b:List Lab),cmpR a b=0↔lower a=lower b
 |[],[]=>by simp[cmpR]
 |[],_::_=>by simp[cmpR,lower]
 |_::_,[]=>by simp[cmpR,lower]
 |x::a,y::b=>by
  unfold cmpR;have ih:=cmpR_zero a b;have e:lower (x::a)=lower (y::b)↔low x=low y∧lower a=lower b:=by simp[lower]
  rw[e];split
  ·rename_i h;rw[ih,←cb_zero];simp[h]
  ·rename_i h;rw[cb_zero]at h;constructor
   ·intro h2;rw[cb_zero]at h2;exact absurd h2 h
   ·intro h2;exact absurd h2.1 h
theorem cmpN_zero(a b:List Lab):cmpN a b=0↔lower a=lower b:=by
 unfold cmpN;rw[cmpR_zero];unfold lower;rw[List.map_reverse,List.map_reverse,List.reverse_inj]
def same(a b:List Lab):Bool:=cmpN a b==0
theorem same_iff(a b:List Lab):same a b=true↔lower a=lower b:=by unfold same;rw[beq_iff_eq,cmpN_zero]
def within(n apex:List Lab):Bool:=decide (apex.length≤n.length)&&same (n.drop (n.length - apex.length)) apex
theorem within_iff(n apex:List Lab):within n apex=true↔apex.length≤n.length∧lower (n.drop (n.length - apex.length))=lower apex:=by
 unfold within;rw[Bool.and_eq_true,decide_eq_true_eq,same_iff]
theorem Same(A B:Option Addr)(a b:List Lab)(ca cb:Nat)(w:World)(hca:Cs w A (a.map strV))(hcb:Cs w B (b.map strV))(ha:Few a)(hb:Few b):
 Calls prog 84 #[.slice A a.length ca,.slice B b.length cb] w fun e w'=>Below w.heap.size w w'∧e=.returned (.bool (same a b)):=by
 have hc:=Compare A B a b ca cb w hca hcb ha hb;unfold same;generalize cmpN a b=c at *;go_enter func84,ntmps84;go_wp2_with fail;refine hc.mono ?_;rintro e w' ⟨hb,rfl⟩;go_wp2_with fail;go_ret;exact⟨hb,rfl⟩
theorem Within(A B:Option Addr)(a b:List Lab)(ca cb:Nat)(w:World)(hca:Cs w A (a.map strV))(hcb:Cs w B (b.map strV))(ha:Few a)(hb:Few b)(hcap:a.length≤ca)(hcap2:ca≤maxLen):
 Calls prog 66 #[.slice A a.length ca,.slice B b.length cb] w fun e w'=>Below w.heap.size w w'∧e=.returned (.bool (within a b)):=by
 unfold maxLen at hcap2;have hla:=ha.1;have hlb:=hb.1;by_cases h:b.length≤a.length
 ·have hd:=hca.drop' (a.length - b.length) ca (by simpa using hcap);rw[←List.map_drop]at hd;have hdl:(a.drop (a.length - b.length)).length=a.length - (a.length - b.length):=List.length_drop;have HW:Hid (within a b=same (a.drop (a.length - b.length)) b):=hid (by unfold within;simp[h])
  have hS:=fun A' c' (hA':Cs w A' ((a.drop (a.length - b.length)).map strV))=>Same A' B (a.drop (a.length - b.length)) b c' cb w hA' hcb (ha.drop _) hb;rw[hdl]at hS;have hge:decide (b.length≤a.length)=true:=by simpa using h
  clear hdl;have HS:=hid hS;have HD:=hid hd;clear hS hd ha hb hca hcb;generalize same (a.drop (a.length - b.length)) b=s at *;go_enter func66,ntmps66;go_wp2_with fail
  all_goals
   have HD2:=HD.out;simp only[h,if_true,if_false]at HD2;refine(HS.out _ _ HD2).mono ?_;rintro e w' ⟨hb5,rfl⟩;go_wp2_with fail;go_ret;exact⟨hb5,by rw[HW.out];rfl⟩
 ·have HW:Hid (within a b=false):=hid (by unfold within;simp[h]);have hge:decide (b.length≤a.length)=false:=by simpa using h
  go_enter func66,ntmps66;go_wp2_with fail;go_ret;exact⟨Below.refl _ _,by rw[HW.out];rfl⟩
end Nm
open Go.Shelf
structure Blob where
 A:Option Addr
 l:Lab
 cap:Nat
instance:Inhabited Blob:=⟨⟨none,[],0⟩⟩
def Blob.v(b:Blob):Value:=.slice b.A b.l.length b.cap
def Blob.ok(w:World)(b:Blob):Prop:=Cs w b.A (b.l.map byteV)
def Blobs(w:World)(bs:List Blob):Prop:=∀b∈bs,b.ok w
def join(bs:List Blob):Lab:=bs.flatMap (·.l)
theorem Blobs.below{w w':World}{bs:List Blob}(h:Blobs w bs)(hb:Below w.heap.size w w'):Blobs w' bs:=fun b hb2=>Cs.below (h b hb2) hb
theorem Blobs.drewN{w:World}{bs:List Blob}(h:Blobs w bs)(k:Nat):Blobs (w.drewN k) bs:=h
theorem join_take{bs:List Blob}{k:Nat}(h:k < bs.length):join (bs.take (k+1))=join (bs.take k)++bs[k].l:=by
 unfold join;rw[List.take_succ_eq_append_getElem h,List.flatMap_append];simp
theorem join_take_le(bs:List Blob)(k:Nat):(join (bs.take k)).length≤(join bs).length:=by
 unfold join
 conv=>rhs;rw[←List.take_append_drop k bs,List.flatMap_append,List.length_append]
 omega
theorem Cs.blob{w:World}{A:Option Addr}{bs:List Blob}(h:Cs w A (bs.map Blob.v)){i:Nat}(hi:i < bs.length):
 ∃b off,A=some ⟨b,off,none⟩∧b < w.heap.size∧w.cell? ⟨b,off+i,none⟩=some (.slice bs[i].A bs[i].l.length bs[i].cap):=by
 refine h i _ ?_;simp[Blob.v,hi]
theorem own_empty(w:World)(B g cap:Nat)(e:TypeId)(cs:Array Value)(h:w.heap[g]? =some (.cells cs e (0,0)))(hB:B≤g)(hc:cap≤maxLen)(hs:cs.size=cap):w.ownsRow B e 1 (.slice (some ⟨g,0,none⟩) 0 cap) 0 []:=
 ⟨by simp,.inr ⟨g,cap,cs,rfl,hB,h,Nat.zero_le _,hc,by omega,by simp⟩⟩
theorem GrowNil(n:Nat)(w:World)(hn:n≤1000000000):Calls prog 223 #[.slice none 0 0,.int .i64 n] w fun e w'=>∃v,e=.returned v∧w'.ownsRow w.heap.size 5 1 v 0 []∧Below w.heap.size w w':=by
 obtain⟨i0,hi,hz0,hz1,hz2⟩:=info_parts info_u8;by_cases h0:n=0
 ·subst h0;have h:=Any8.slices_Grow_room Tryz.growB none 0 0 0 w (Nat.le_refl _) (by omega) (by omega) (by omega);change Calls prog 223 _ _ _ at h;refine h.mono fun e w' ⟨he,hw⟩=> ?_;subst hw;exact⟨_,he,World.ownsRow_nil _ _ _ _,Below.refl _ _⟩
 ·have h:=Any8.slices_Grow_grow Tryz.growB i0 (.int .u8 0) hi hz0 (by omega) none 0 0 n [] w (Nat.le_refl _) (by omega) (by rw[hz2];omega) (by omega) (by simp) (fun _=>rfl) (fun a ha=>by cases ha);change Calls prog 223 _ _ _ at h;refine h.mono fun e w' ⟨he,hw⟩=> ?_;subst hw
  refine⟨_,he,own_empty _ _ _ _ _ _ (heap_alloc_new _ _) (Nat.le_refl _) (grownCap_le_maxLen _ _ _ _ (by unfold maxLen;omega)) ?_, ?_⟩
  ·have hge:=grownCap_ge w (0+n) 0 5;have hg:∀(a b:Nat),(Builtin.zeroCells (Value.int .u8 0).cells a).size=a:=fun a b=>by simp[Builtin.zeroCells,Value.cells]
   show(((#[]:Array Value)++Builtin.zeroCells (Value.int .u8 0).cells (0+n - 0))++Builtin.zeroCells (Value.int .u8 0).cells (grownCap w (0+n) 0 5 - (0+n))).size=grownCap w (0+n) 0 5;rw[Array.size_append,Array.size_append,hg _ 0,hg _ 0];generalize grownCap w (0+n) 0 5=q at *;show 0+(0+n - 0)+(q - (0+n))=q;omega
  ·exact((Below.refl w.heap.size w).drew).alloc (Nat.le_refl _) _
def ConcR1(bs:List Blob)(w:World)(s i:Value)(wr:World):Prop:=
 ∃k:Nat,k≤bs.length∧i=.int .i64 k∧s=.int .i64 (join (bs.take k)).length∧Below w.heap.size w wr
def ConcR2(bs:List Blob)(w:World)(v i:Value)(wr:World):Prop:=
 ∃k:Nat,k≤bs.length∧i=.int .i64 k∧wr.ownsRow w.heap.size 5 1 v (join (bs.take k)).length ((join (bs.take k)).map byteV)∧Below w.heap.size w wr
theorem Concat(A:Option Addr)(bs:List Blob)(cap:Nat)(w:World)(hc:Cs w A (bs.map Blob.v))(hb:Blobs w bs)(hn:bs.length≤1000000)(hj:(join bs).length≤100000000):
 Calls prog 193 #[.slice A bs.length cap] w fun e w'=>∃v,e=.returned v∧w'.ownsRow w.heap.size 5 1 v (join bs).length ((join bs).map byteV)∧Below w.heap.size w w':=by
 have HB:=hid hb;clear hb;go_enter func193,ntmps193;go_wp2_with fail
 go_loopw [3,11] (ConcR1 bs w) (fun _ i _=>bs.length - (intOf i).toNat)
 case atStart=>exact⟨0,Nat.zero_le _,rfl,rfl,Below.refl _ _⟩
 case round=>
  obtain⟨k,hk,rfl,rfl,hbel⟩:=hrel;have hjk:=join_take_le bs k;have hjk1:=join_take_le bs (k+1);by_cases hlt:k < bs.length
  ·obtain⟨bk,off,rfl,hbl,hc0⟩:=Cs.blob hc hlt;have hc1:=(hbel.cell (p:=⟨bk,off+k,none⟩) hbl).trans hc0;have hjt:=join_take hlt;rw[hjt,List.length_append]at hjk1;have HN:Hid ((join (bs.take (k+1))).length=(join (bs.take k)).length+bs[k].l.length):=hid (by rw[hjt,List.length_append]);clear hjt;generalize bs[k]=b at *;generalize(join (bs.take k)).length=s at *
   generalize(join bs).length=tot at *;generalize b.l.length=bl at *;go_wp2_with fail;exact⟨⟨k+1,by omega,by go_num,by rw[HN.out];go_num,hbel⟩,by simp[intOf];omega⟩
  ·have hkl:k=bs.length:=by omega
   subst hkl;rw[List.take_length];clear hjk hjk1;go_wp2_with fail;refine(GrowNil (join bs).length _ (by omega)).mono ?_;rintro e w2 ⟨v2,rfl,hown2,hb2⟩;have hown2':w2.ownsRow w.heap.size 5 1 v2 0 []:=⟨hown2.1,by
    rcases hown2.2 with h|⟨g,c,cur,h1,h2,h3⟩
    ·exact .inl h
    ·exact .inr ⟨g,c,cur,h1,Nat.le_trans hbel.size h2,h3⟩⟩
   have hbel2:=hbel.trans (hb2.mono hbel.size);clear hown2 hb2 hbel;go_wp2_with fail
   go_loopw [6,27] (ConcR2 bs w) (fun _ i _=>bs.length - (intOf i).toNat)
   case atStart=>exact⟨0,Nat.zero_le _,rfl,hown2',hbel2⟩
   case round=>
    obtain⟨k,hk,rfl,hown,hbel⟩:=hrel;have hjk:=join_take_le bs k;have hjk1:=join_take_le bs (k+1);by_cases hlt:k < bs.length
    ·obtain⟨bk,off,rfl,hbl,hc0⟩:=Cs.blob hc hlt;have hc1:=(hbel.cell (p:=⟨bk,off+k,none⟩) hbl).trans hc0;have hjt:=join_take hlt;rw[hjt,List.length_append]at hjk1;have HN:=hid hjt;have hok:Cs wr bs[k].A (bs[k].l.map byteV):=Cs.below (HB.out bs[k] (List.getElem_mem hlt)) hbel;clear hjt;generalize bs[k]=b at *;generalize join (bs.take k)=xs at *;generalize(join bs).length=tot at *
     go_wp2_with (first|(at_builtin;refine wpList_bytes hown hbel.size hok rfl (.tmp 31) (.tmp 32) underlying37 rfl rfl rfl (by omega) ?_;intro v4 w4 hown4 hbw4;have hbw5:=hbel.trans hbw4))
     exact⟨⟨k+1,by omega,by go_num,by rw[HN.out,List.length_append];exact hown4,hbw5⟩,by simp[intOf];omega⟩
    ·have hkl:k=bs.length:=by omega
     subst hkl;rw[List.take_length]at hown;clear hjk hjk1;go_wp2_with fail;go_ret;exact⟨_,rfl,hown,hbel⟩
theorem CloneB(A:Option Addr)(l:Lab)(cap:Nat)(w:World)(hc:Cs w A (l.map byteV))(hn:l.length≤100000000):
 Calls prog 63 #[.slice A l.length cap] w fun e w'=>∃v,e=.returned v∧w'.ownsRow w.heap.size 5 1 v l.length (l.map byteV)∧Below w.heap.size w w':=by
 cases A with
 |none=>
  have hl:l=[]:=by simpa using hc.none_nil
  have hq:∀W,(binOp .eql 37 (.slice none l.length cap) (.slice none 0 0)).run prog W=.ok (.bool true) W:=fun W=>Lib.run_eql_slice_nil (P:=prog) W 37 5 none l.length cap 0 0 underlying37;have HL:Hid (∀w:World,w.ownsRow w.heap.size 5 1 (.slice none 0 0) l.length (l.map byteV)):=hid (fun w=>by rw[hl];exact World.ownsRow_nil _ _ _ _);clear hl;generalize l.length=m at *
  go_enter func63,ntmps63;go_wp2_with fail;go_ret;exact⟨_,rfl,HL.out _,Below.refl _ _⟩
 |some a=>
  have hq:∀W,(binOp .eql 37 (.slice (some a) l.length cap) (.slice none 0 0)).run prog W=.ok (.bool false) W:=fun W=>Lib.run_eql_slice_nil (P:=prog) W 37 5 (some a) l.length cap 0 0 underlying37
  have hown:(w.alloc (.cells #[] 5)).ownsRow w.heap.size 5 1 (.slice (some ⟨w.heap.size,0,none⟩) 0 0) 0 (([]:Lab).map byteV):=own_empty _ _ _ _ _ _ (heap_alloc_new _ _) (Nat.le_refl _) (by unfold maxLen;omega) rfl;have hb0:Below w.heap.size w (w.alloc (.cells #[] 5)):=bAl;have hc1:=hc.below hb0;have HO:=hid hown;clear hown
  go_enter func63,ntmps63
  go_wp2_with (first|(at_builtin;refine wpList_bytes HO.out hb0.size hc1 rfl _ _ underlying37 rfl rfl rfl (by omega) ?_;intro v4 w4 hown4 hbw4;have hbw5:=hb0.trans hbw4))
  go_ret;exact⟨_,rfl,by simpa using hown4,hbw5⟩
namespace Nm
theorem run_bytesOf{P:Program}(w:World){A:Option Addr}{l:Lab}(c:Nat)(h:Cs w A (l.map byteV)):(Extern.Bytes.bytesOf (.slice A l.length c)).run P w=.ok (strB l) w:=by
 cases A with
 |none=>
  have:l=[]:=by simpa using h.none_nil
  subst this;rfl
 |some a=>
  have hl:=Lib.run_loadBytesX (P:=P) w (l.map fun c=>(c.toNat:Int)) a .empty (fun j x hj=>by
   refine h.cells j _ ?_;rw[List.getElem?_map]at hj ⊢;cases hlj:l[j]? with
   |none=>rw[hlj]at hj;cases hj
   |some y=>rw[hlj]at hj;simp at hj;subst hj;rfl)
  rw[List.length_map]at hl;show(Extern.Bytes.loadBytes a l.length .empty).run P w=_;rw[hl];congr 1;apply ByteArray.ext;simp[strB,Lib.bytesOf]
  conv=>rhs;rw[←List.map_id l]
  refine List.map_congr_left fun x _=> ?_;simp
theorem run_bcompare{P:Program}(w:World){A B:Option Addr}{l m:Lab}(c d:Nat)(hA:Cs w A (l.map byteV))(hB:Cs w B (m.map byteV)):
 (Extern.BytealgCompare.compare #[.slice A l.length c,.slice B m.length d]).run P w=.ok (.int .i64 (Lib.compareBytes l m)) w:=by
 change Sem.run P (do pure (goInt (Extern.BytealgCompare.cmp (←Extern.Bytes.bytesOf (.slice A l.length c)) (←Extern.Bytes.bytesOf (.slice B m.length d))))) w=_;simp only[Sem.run_bind,run_bytesOf w c hA,run_bytesOf w d hB,Sem.run_pure,Result.andThen];rw[Lib.cmp_eq];simp[strB,goInt]
theorem BCompare(A B:Option Addr)(l m:Lab)(c d:Nat)(w:World)(hA:Cs w A (l.map byteV))(hB:Cs w B (m.map byteV)):
 Calls prog 151 #[.slice A l.length c,.slice B m.length d] w fun e w'=>e=.returned (.int .i64 (Lib.compareBytes l m))∧w=w':=by
 have hx:(callFunc 198 #[.slice A l.length c,.slice B m.length d]).run prog w=.ok (.value (.int .i64 (Lib.compareBytes l m))) w:=by
  rw[run_callFunc_extern func198 (by kernel_rfl) (by kernel_rfl) (by kernel_rfl) (e:=Extern.BytealgCompare.compare) (by kernel_rfl),run_bcompare w c d hA hB];rfl
 go_enter func151,ntmps151;go_wp2_with fail;go_ret;exact⟨rfl,rfl⟩
theorem kept_sortWorld{α:Type}[Inhabited α](enc:α→Value)(w:World)(g m:Nat)(dk:Array α)(os:Array Obj):Kept (fun b=>b=g) w (sortWorld enc w g 0 m dk os):=by
 refine⟨rfl,rfl,rfl, ?_,fun k hk hn=> ?_⟩
 ·simp[sortWorld,Sort.grow,Sort.putRow,Sort.mapBlock,Sort.ahead]
 ·have hne:g≠k:=fun e=>hn e.symm;unfold sortWorld;rw[Sort.heap_grow_old _ _ (by simpa[Sort.putRow,Sort.mapBlock,Sort.ahead]using hk)];simp[Sort.putRow,Sort.mapBlock,Sort.ahead,Array.getElem?_modify,hne]
theorem cb_flip:∀(a b:Lab),Lib.compareBytes a b= - Lib.compareBytes b a
 |[],[]=>by simp[Lib.compareBytes]
 |[],_::_=>by simp[Lib.compareBytes]
 |_::_,[]=>by simp[Lib.compareBytes]
 |x::a,y::b=>by
  unfold Lib.compareBytes;have ih:=cb_flip a b;by_cases h1:x < y
  ·have h2:¬y < x:=fun h=>UInt8.lt_irrefl x (UInt8.lt_trans h1 h);rw[if_pos h1,if_neg h2,if_pos h1]
  ·by_cases h2:y < x
   ·rw[if_neg h1,if_pos h2,if_pos h2];rfl
   ·rw[if_neg h1,if_neg h2,if_neg h2,if_neg h1];exact ih
theorem cb_trans:∀(a b c:Lab),Lib.compareBytes a b < 0→Lib.compareBytes b c < 0→Lib.compareBytes a c < 0
 |[],[],_=>by intro h;simp[Lib.compareBytes]at h
 |_::_,[],_=>by intro h;simp[Lib.compareBytes]at h
 |[],y::b,[]=>by intro _ h;simp[Lib.compareBytes]at h
 |[],y::b,z::c=>by intro _ _;simp[Lib.compareBytes]
 |x::a,y::b,[]=>by intro _ h;simp[Lib.compareBytes]at h
 |x::a,y::b,z::c=>by
  have ih:=cb_trans a b c;unfold Lib.compareBytes;intro h1 h2;by_cases p1:x < y
  ·by_cases p2:y < z
   ·rw[if_pos (UInt8.lt_trans p1 p2)];omega
   ·rw[if_neg p2]at h2;by_cases p3:z < y
    ·rw[if_pos p3]at h2;omega
    ·have e:y=z:=UInt8.le_antisymm (UInt8.not_lt.1 p3) (UInt8.not_lt.1 p2);subst e;rw[if_pos p1];omega
  ·rw[if_neg p1]at h1;by_cases q1:y < x
   ·rw[if_pos q1]at h1;omega
   ·rw[if_neg q1]at h1;have e:x=y:=UInt8.le_antisymm (UInt8.not_lt.1 q1) (UInt8.not_lt.1 p1);subst e;by_cases p2:x < z
    ·rw[if_pos p2];omega
    ·rw[if_neg p2]at h2 ⊢;by_cases p3:z < x
     ·rw[if_pos p3]at h2;omega
     ·rw[if_neg p3]at h2 ⊢;exact ih h1 h2
def ltB(a b:Lab):Prop:=Lib.compareBytes a b < 0
def once:List Lab→List Lab
 |[]=>[]
 |[a]=>[a]
 |a::b::r=>if a=b then once (b::r)else a::once (b::r)
theorem Blob.kept{S:Nat→Prop}{w w':World}{b:Blob}(h:b.ok w)(hk:Kept S w w')(hn:∀a,b.A=some a→b.l.map byteV≠[]→¬S a.block):b.ok w':=Kept.cs h hk hn
theorem rowB_grow{α:Type}[Inhabited α](enc:α→Value)(w:World)(g:Nat)(m:Nat)(dk d0:Array α)(os:Array Obj)(hg:g < w.heap.size)(hH:Sort.Holds enc w g 0 d0)(hs:dk.size=d0.size):
 Sort.Holds enc (sortWorld enc w g 0 m dk os) g 0 dk:=by
 have hH2:Sort.Holds enc (Sort.ahead w m) g 0 d0:=hH;have h:=Sort.holds_putRow enc (Sort.ahead w m) g 0 d0 dk hH2 hs;unfold sortWorld;exact Sort.holds_grow enc _ os g 0 dk (by simpa[Sort.putRow,Sort.mapBlock,Sort.ahead]using hg) h
theorem shape_sortWorld{α:Type}[Inhabited α](enc:α→Value)(w:World)(g m:Nat)(dk:Array α)(os:Array Obj){cs:Array Value}{e:TypeId}{fr:Nat×Nat}(h:w.heap[g]? =some (.cells cs e fr)):
 ∃cs',(sortWorld enc w g 0 m dk os).heap[g]? =some (.cells cs' e fr)∧cs'.size=cs.size:=by
 unfold sortWorld;refine⟨Sort.putCells enc 0 dk cs, ?_, ?_⟩
 ·rw[Sort.heap_grow_old _ _ (by have:=lt_block h;simpa[Sort.putRow,Sort.mapBlock,Sort.ahead]using this)];simp[Sort.putRow,Sort.mapBlock,Sort.ahead,Array.getElem?_modify,h,Sort.onCells]
 ·simp[Sort.putCells]
theorem extract_full{α:Type}(d:Array α)(n:Nat)(h:d.size=n):d.extract 0 n=d:=by
 subst h;exact Array.extract_size
end Nm
section
variable {P:Program} {ops:Array Oper}
structure DF where
 ws:List Nat
 f:(Nat→Value)→Fact
def DF.at(d:DF)(vals:Nat→Value):Fact:=d.f (fun k=>if k∈d.ws then vals k else undef)
def DF.c(f:Fact):DF:=⟨[],fun _=>f⟩
def DF.d(ws:List Nat)(f:(Nat→Value)→Fact):DF:=⟨ws,f⟩
@[simp] theorem DF.c_at(f:Fact)(vals:Nat→Value):(DF.c f).at vals=f:=rfl
theorem DF.d_at(ws:List Nat)(f:(Nat→Value)→Fact)(vals:Nat→Value):(DF.d ws f).at vals=f (fun k=>if k∈ws then vals k else undef):=rfl
def dfAt(fs:List DF)(j:Nat):DF:=fs.getD j (DF.c Fact.any)
def wsB(ops:Array Oper)(fs:List DF):Bool:=(List.range fs.length).all fun j=>(dfAt fs j).ws.all fun k=>waitsT ops ops.size j k
theorem df_at_congr{d:DF}{vals vals':Nat→Value}(h:∀k∈d.ws,vals k=vals' k):d.at vals=d.at vals':=by
 unfold DF.at;congr 1;funext k;split
 ·exact h k ‹_›
 ·rfl
def kindX(B N:Nat):Nat→World→World→Prop
 |0,W,W'=>Ext W W'
 |1,W,W'=>Kept (fun b=>B≤b∧b < N) W W'
 |2,W,W'=>Below N W W'
 |_,W,W'=>Below B W W'
def hurtsB:Nat→Nat→Bool
 |0,_=>false
 |1,f=>decide (2≤f)
 |2,f=>f==1||decide (3≤f)
 |_,f=>decide (1≤f)
def killF(ops:Array Oper)(kd fk:Nat→Nat)(i j:Nat):Bool:=hurtsB (kd i) (fk j)&&i !=j&& !waitsT ops ops.size j i
def keepX(ops:Array Oper)(kd fk:Nat→Nat)(j:Nat):Bool:=(List.range ops.size).all fun i=> !killF ops kd fk i j
theorem wp_region_x{id:Nat}{Q:Exit→Act→World→Prop}{a0:Act}{w0:World}(hm:P.follows .mixedOrders=true)(hB:relB2 ops=true)(B:Nat)(hBs:B≤w0.heap.size)(fs:List DF)(hw:wsB ops fs=true)
 (kd fk:Nat→Nat) (hk:killsX bindD ops (killF ops kd fk)=true) (hf:∀j vals,kindF w0.heap.size (fk j) ((dfAt fs j).at vals))
 (I0:World→Prop) (hI0:I0 w0.drew) (hI1:∀W W',Ext W W'→I0 W→I0 W') (hI2:∀W W',Below w0.heap.size W W'→I0 W→I0 W')
 (step:∀i o,ops[i]? =some o→∀vals W,Below B w0 W→(∀e∈o.after,bindD e=true→((dfAt fs e.on).at vals).p (vals e.on) W)→((∀k,k < ops.size→(kd k==1||decide (3≤kd k))=true→k=i∨waitsT ops ops.size k i=true)→I0 W)→
   opYield P ops o (relAct ops a0 (fun _=>true) vals i) W (fun v W'=>kindX B w0.heap.size (kd i) W W'∧((dfAt fs i).at vals).p v W'))
 (hend:∀vals W,Below B w0 W→(∀j,j < ops.size→keepX ops kd fk j=true→((dfAt fs j).at vals).p (vals j) W)→Q .normal (relAct ops a0 (fun _=>true) vals ops.size) W):
 (Code.region id ops true).wp P Q a0 w0:=by
 have hws:∀j k,k∈(dfAt fs j).ws→waitsT ops ops.size j k=true:=by
  intro j k hk;rcases Nat.lt_or_ge j fs.length with g|g
  ·have:=List.all_eq_true.1 hw j (List.mem_range.2 g);exact List.all_eq_true.1 this k hk
  ·have e:dfAt fs j=DF.c Fact.any:=by unfold dfAt;rw[List.getD_eq_getElem?_getD,List.getElem?_eq_none g];rfl
   rw[e]at hk;cases hk
 have hself:∀f j,waitsT ops f j j=false:=by
  have hlt:∀f j i,waitsT ops f j i=true→i < j:=by
   intro f
   induction f with
   |zero=>intro j i h;cases h
   |succ f ih=>
    intro j i h;unfold waitsT at h;cases ho:ops[j]? with
    |none=>rw[ho]at h;cases h
    |some o=>
     rw[ho]at h;simp only[]at h;rw[Array.any_eq_true]at h;obtain⟨x,hx,h9⟩:=h;simp only[Bool.and_eq_true,Bool.or_eq_true,beq_iff_eq]at h9;have h1:=(relB2_spec hB ho).2.1 _ (Array.getElem_mem hx) h9.1;rcases h9.2 with h9|h9
     ·omega
     ·have:=ih _ _ h9;omega
  intro f j;cases h:waitsT ops f j j
  ·rfl
  ·exact absurd (hlt f j j h) (Nat.lt_irrefl _)
 have hcongr:∀j vals i v,waitsT ops ops.size j i=false→(dfAt fs j).at (fun k=>if k=i then v else vals k)=(dfAt fs j).at vals:=by
  intro j vals i v h;refine df_at_congr fun k hk=> ?_;have:k≠i:=fun e=>by
   subst e;rw[hws j k hk]at h;cases h
  rw[if_neg this]
 refine wp_region_t bindD (fun _ h=>bindD_binds h) hm hB (killF ops kd fk) hk (fun i W W'=>kindX B w0.heap.size (kd i) W W') (fun W=>Below B w0 W) (fun j vals W=>((dfAt fs j).at vals).p (vals j) W) ?_ I0 (fun i=>kd i==1||decide (3≤kd i)) hI0 ?_ ?_ ?_ ?_ ?_ ?_
 ·intro j vals i v W hij hwt h;rw[hcongr j vals i v hwt];show((dfAt fs j).at vals).p (if j=i then v else vals j) W;rw[if_neg (Ne.symm hij)];exact h
 ·intro i W W' hk0 hC h1 h2;generalize kd i=c at *
  match c,h2 with
  |0,h2=>exact hI1 _ _ h2 h1
  |1,_=>cases hk0
  |2,h2=>exact hI2 _ _ h2 h1
  |c+3,_=>simp at hk0
 ·exact⟨rfl,rfl,rfl,Nat.le_refl _,fun _ _=>rfl⟩
 ·intro i W W' h1 h2;refine h1.trans ?_;have hs:=h1.size;generalize kd i=c at *
  match c,h2 with
  |0,h2=>exact Below.mono h2 (by omega)
  |1,h2=>exact Kept.below h2 (by omega) (fun k hk h=>by omega)
  |2,h2=>exact Below.mono h2 hBs
  |c+3,h2=>exact h2
 ·intro i j vals W W' hij hki hwt hC h1 h2;have hs:=hC.size;have hfj:=hf j vals;unfold killF at hki;rw[hwt]at hki;have hne:(i !=j)=true:=by simpa using hij
  rw[hne]at hki;simp only[Bool.not_false,Bool.and_true]at hki;generalize kd i=c at *;generalize fk j=d at *;generalize(dfAt fs j).at vals=f at *
  match c,h2 with
  |0,h2=>exact f.st _ _ _ h2 h1
  |1,h2=>
   match d,hfj with
   |0,hfj=>exact hfj _ _ _ h1
   |1,hfj=>exact hfj _ _ _ (Kept.mono h2 (fun k _ h=>h.2)) h1
   |d+2,_=>simp[hurtsB]at hki
  |2,h2=>
   match d,hfj with
   |0,hfj=>exact hfj _ _ _ h1
   |1,_=>simp[hurtsB]at hki
   |2,hfj=>exact hfj _ _ _ h2 h1
   |d+3,_=>simp[hurtsB]at hki
  |c+3,h2=>
   match d,hfj with
   |0,hfj=>exact hfj _ _ _ h1
   |d+1,_=>simp[hurtsB]at hki
 ·intro i o ho vals W hE h hI;refine opYield_mono ?_ (step i o ho vals W hE h hI);rintro v W' ⟨h1,h2⟩;refine⟨h1, ?_⟩;rw[hcongr i vals i v (hself _ _)];show((dfAt fs i).at vals).p (if i=i then v else vals i) W';rw[if_pos rfl];exact h2
 ·intro vals W hE h;refine hend vals W hE fun j hj hkj=>h j hj fun i hi=> ?_;have:=List.all_eq_true.1 hkj i (List.mem_range.2 hi);simpa only[Bool.not_eq_true']using this
end
end Go.Proofs.YtmbdoacafhljkaaGreat
namespace Go.Proofs.YtmbdoacafhljkaaGreat
open Go.RowKit
namespace Nm
theorem kills_none(bd:Edge→Bool)(ops:Array Oper):killsX bd ops (fun _ _=>false)=true:=by
 unfold killsX;simp
theorem wp_region_r2{P:Program}{ops:Array Oper}{id:Nat}{Q:Exit→Act→World→Prop}{a0:Act}{w0:World}(hm:P.follows .mixedOrders=true)(hB:relB2 ops=true)
 (kills:Nat→Nat→Bool) (hkB:killsX bindD ops kills=true) (T:Nat→World→World→Prop) (C:World→Prop) (R:Nat→Value→World→Prop)
 (I0:World→Prop) (kills0:Nat→Bool) (hI0:I0 {w0 with drawn:=w0.drawn+1}) (hIst:∀i W W',kills0 i=false→C W→I0 W→T i W W'→I0 W')
 (hC0:C {w0 with drawn:=w0.drawn+1}) (hC:∀i W W',C W→T i W W'→C W')
 (hR:∀i j v W W',i≠j→kills i j=false→waitsT ops ops.size j i=false→C W→R j v W→T i W W'→R j v W')
 (step:∀i o,ops[i]? =some o→∀vals W,C W→(∀e∈o.after,bindD e=true→R e.on (vals e.on) W)→((∀k,k < ops.size→kills0 k=true→k=i∨waitsT ops ops.size k i=true)→I0 W)→
   opYield P ops o (relAct ops a0 (fun _=>true) vals i) W (fun v W'=>T i W W'∧R i v W'))
 (hend:∀vals W,C W→(∀j,j < ops.size→(∀i,i < ops.size→kills i j=false)→R j (vals j) W)→Q .normal (relAct ops a0 (fun _=>true) vals ops.size) W):
 (Code.region id ops true).wp P Q a0 w0:=by
 refine wp_region_t bindD (fun e h=>bindD_binds h) hm hB kills hkB T C (fun j vals W=>R j (vals j) W) (fun j vals i v W hij _ h=> ?_) I0 kills0 hI0 hIst hC0 hC (fun i j v W W' h1 h2 h3 h4 h5 h6=>hR i j (v j) W W' h1 h2 h3 h4 h5 h6) ?_ hend
 ·simp only;rw[if_neg (fun h=>hij h.symm)];exact h
 ·intro i o hio vals W hC haf hI;refine opYield_mono ?_ (step i o hio vals W hC haf hI);intro v W' h;simpa using h
theorem wp_region_m2{P:Program}{ops:Array Oper}{id:Nat}{Q:Exit→Act→World→Prop}{a0:Act}{w0:World}(hm:P.follows .mixedOrders=true)(hB:relB2 ops=true)(fs:List Fact)
 (step:∀i o,ops[i]? =some o→∀vals W,Ext w0 W→(∀e∈o.after,bindD e=true→(factAt fs e.on).p (vals e.on) W)→
   opYield P ops o (relAct ops a0 (fun _=>true) vals i) W (fun v W'=>Ext W W'∧(factAt fs i).p v W'))
 (hend:∀vals W,Ext w0 W→(∀j,j < ops.size→(factAt fs j).p (vals j) W)→Q .normal (relAct ops a0 (fun _=>true) vals ops.size) W):
 (Code.region id ops true).wp P Q a0 w0:=
 wp_region_r2 hm hB (fun _ _=>false) (kills_none _ _) (fun _ W W'=>Ext W W') (fun W=>Ext w0 W) (fun j v W=>(factAt fs j).p v W) (fun _=>True) (fun _=>false) trivial (fun _ _ _ _ _ _ _=>trivial)
  ⟨rfl,rfl,rfl,Nat.le_refl _,fun _ _=>rfl⟩ (fun i W W' h1 h2=>Ext.trans h1 h2) (fun i j v W W' _ _ _ _ h1 h2=>(factAt fs j).st v W W' h2 h1)
  (fun i o hio vals W hC haf _=>step i o hio vals W hC haf) (fun vals W hC hR=>hend vals W hC (fun j hj=>hR j hj (fun _ _=>rfl)))
theorem less16(x y:Nat)(w:World):Calls prog 213 #[.int .u16 x,.int .u16 y] w fun e w'=>e=.returned (.bool (decide (x < y)))∧w'=w:=by
 go_enter func213,ntmps213
 go_wp2
 go_ret;exact⟨rfl,rfl⟩
end Nm
def ExtD(w W:World):Prop:=Below w.heap.size w W∧w.drawn≤W.drawn
theorem ExtD.refl(w:World):ExtD w w:=⟨Below.refl _ _,Nat.le_refl _⟩
theorem ExtD.trans{a b c:World}(h:ExtD a b)(k:ExtD b c):ExtD a c:=⟨h.1.trans (k.1.mono h.1.size),Nat.le_trans h.2 k.2⟩
theorem ExtD.grow{w W:World}(h:ExtD w W):∃q os,W=Sort.grow (w.drewN q) os:=by
 obtain⟨⟨h1,h2,h3,h4,h5⟩,h6⟩:=h;refine⟨W.drawn - w.drawn,W.heap.extract w.heap.size W.heap.size, ?_⟩;obtain⟨heap,tape,drawn,os,output⟩:=W;obtain⟨heap0,tape0,drawn0,os0,output0⟩:=w;simp only at h1 h2 h3 h4 h5 h6;subst h1 h2 h3;unfold Sort.grow World.drewN;simp only[World.mk.injEq,true_and,and_true];refine⟨?_,by omega⟩;apply Array.ext_getElem?;intro k;rw[Array.getElem?_append]
 split
 ·exact h5 k (by assumption)
 ·rename_i hk;rw[Array.getElem?_extract];simp only[Nat.min_self];split
  ·congr 1;omega
  ·rw[Array.getElem?_eq_none (by omega)]
namespace Nm
theorem wp_region_d{P:Program}{ops:Array Oper}{id:Nat}{Q:Exit→Act→World→Prop}{a0:Act}{w0:World}(hm:P.follows .mixedOrders=true)(hB:relB2 ops=true)(fs:List Fact)
 (step:∀i o,ops[i]? =some o→∀vals W,ExtD w0 W→(∀e∈o.after,bindD e=true→(factAt fs e.on).p (vals e.on) W)→
   opYield P ops o (relAct ops a0 (fun _=>true) vals i) W (fun v W'=>ExtD W W'∧(factAt fs i).p v W'))
 (hend:∀vals W,ExtD w0 W→(∀j,j < ops.size→(factAt fs j).p (vals j) W)→Q .normal (relAct ops a0 (fun _=>true) vals ops.size) W):
 (Code.region id ops true).wp P Q a0 w0:=
 wp_region_r2 hm hB (fun _ _=>false) (kills_none _ _) (fun _ W W'=>ExtD W W') (fun W=>ExtD w0 W) (fun j v W=>(factAt fs j).p v W) (fun _=>True) (fun _=>false) trivial (fun _ _ _ _ _ _ _=>trivial)
  ⟨⟨rfl,rfl,rfl,Nat.le_refl _,fun _ _=>rfl⟩,Nat.le_succ _⟩ (fun i W W' h1 h2=>ExtD.trans h1 h2) (fun i j v W W' _ _ _ _ h1 h2=>(factAt fs j).st v W W' h2.1 h1)
  (fun i o hio vals W hC haf _=>step i o hio vals W hC haf) (fun vals W hC hR=>hend vals W hC (fun j hj=>hR j hj (fun _ _=>rfl)))
theorem bytes_ofD(w:World)(l:Lab):∃(w':World) (cap:Nat) (cs:Array Value) (fr:Nat×Nat),(convert 9 37 (.string (strB l))).run prog w=.ok (.slice (some ⟨w.heap.size,0,none⟩) l.length cap) w'∧l.length≤cap∧
 ExtD w w'∧w.heap.size < w'.heap.size∧w'.heap[w.heap.size]? =some (.cells cs 5 fr)∧cs.toList.take l.length=l.map byteV∧l.length≤fr.1:=by
 obtain⟨w',cap,cs,fr,h1,h2,h3,h4,h5,h6,h7⟩:=bytes_of w l;refine⟨w',cap,cs,fr,h1,h2,⟨h3, ?_⟩,h4,h5,h6,h7⟩;have h:=run_bytes_of_string (P:=prog) w 9 37 5 (strB l) underlying9 underlying37 underlying5;rw[strB_size]at h;have e:=h1.symm.trans h;injection e with _ e;rw[e];exact Nat.le_succ _
def SmallD(l:Lab)(w:World)(fr:Nat×Nat)(i:Value)(wr:World):Prop:=
 ∃(k:Nat) (cs:Array Value),k≤l.length∧i=.int .i64 k∧wr.heap[w.heap.size]? =some (.cells cs 5 fr)∧cs.toList.take l.length=(half l k).map byteV∧ExtD w wr
theorem smallD(l:Lab)(w:World)(hl:l.length≤1000000):Calls prog 107 #[.string (strB l)] w fun e w'=>e=.returned (.string (strB (low l)))∧ExtD w w':=by
 obtain⟨w1,cap,cs,fr,hrun,hcap,hb1,hs1,hblk,htake,hfr⟩:=bytes_ofD w l;go_enter func107,ntmps107;go_wp2_with fail;have HB:=hid hblk;have HT:=hid htake;clear hblk htake hrun
 go_loopw [10] (SmallD l w fr) (fun i _=>l.length - (intOf i).toNat)
 case atStart=>exact⟨0,cs,Nat.zero_le _,rfl,HB.out,by rw[half_zero];exact HT.out,hb1⟩
 case round=>
  obtain⟨k,cs,hk,rfl,hblk,htake,hbw⟩:=hrel;have HB:=hid hblk;have HT:=hid htake;have ht2:cs.toList.take (half l k).length=(half l k).map byteV:=by rw[half_len];exact htake
  by_cases hlt:k < l.length
  ·have hk2:k < (half l k).length:=by rw[half_len];exact hlt
   have hc:=blk_cell hblk ht2 hk2;rw[half_at hlt]at hc;have hz:=blk_frozen (i:=k) hblk (by omega);clear hblk htake;generalize hce:l[k]=c at *;have HCE:=hid hce;have HT2:=hid ht2;clear hce ht2;by_cases hu:65≤c.toNat∧c.toNat≤90
   ·obtain⟨hu1,hu2⟩:=hu;have hset:=blk_set (i:=k) HB.out HT2.out (lowB c);rw[half_set hlt (lowB c) (by rw[HCE.out])]at hset;have hbl:byteV (lowB c)=.int .u8 ((c.toNat:Int)+32):=by
     unfold byteV lowB;rw[if_pos ⟨hu1,hu2⟩,UInt8.toNat_add];have:(32:UInt8).toNat=32:=rfl;congr 1;omega
    rw[hbl]at hset;have HS:=hid hset;clear hset hbl;have hu1':(65:Int)≤(c.toNat:Int):=by omega
    have hu2':(c.toNat:Int)≤90:=by omega
    go_wp2_with fail;refine⟨⟨k+1,cs.setIfInBounds k (.int .u8 ((c.toNat:Int)+32)),by omega,by go_num, ?_, ?_,⟨hbw.1.setCell (Nat.le_refl _) _,hbw.2⟩⟩,by simp[intOf];omega⟩
    ·have e:(c.toNat:Int)+97 - 65=(c.toNat:Int)+32:=by omega
     rw[e];exact HS.out.1
    ·have:=HS.out.2;rw[half_len]at this;exact this
   ·have hkeep:=half_keep hlt (by rw[HCE.out];unfold lowB;rw[if_neg hu]);have HK:=hid hkeep;have hc256:c.toNat < 256:=UInt8.toNat_lt c;clear hkeep;by_cases h1:65≤c.toNat
    ·have hu1':(65:Int)≤(c.toNat:Int):=by omega
     have hu2':(90:Int) < (c.toNat:Int):=by omega
     clear hu;go_wp2_with fail;exact⟨⟨k+1,cs,by omega,by go_num,HB.out,by rw[←HK.out];exact HT.out,hbw⟩,by simp[intOf];omega⟩
    ·have hu1':(c.toNat:Int) < 65:=by omega
     clear hu h1;go_wp2_with fail;exact⟨⟨k+1,cs,by omega,by go_num,HB.out,by rw[←HK.out];exact HT.out,hbw⟩,by simp[intOf];omega⟩
  ·have hkl:k=l.length:=by omega
   subst hkl;have hcs:=blk_cs hblk ht2;rw[half_all]at hcs;have hcv:=run_str (P:=prog) wr underlying37 underlying5 underlying9 cap hcs;rw[low_len]at hcv;clear hblk htake ht2 hcs;go_wp2_with fail;go_ret;exact⟨rfl,hbw⟩
def CmpD(a b:List Lab)(w:World)(i:Value)(wr:World):Prop:=
 ∃j:Nat,j≤a.length∧j≤b.length∧i=.int .i64 j∧cmpN a b=cmpR (a.reverse.drop j) (b.reverse.drop j)∧ExtD w wr
theorem CompareD(A B:Option Addr)(a b:List Lab)(ca cb:Nat)(w:World)(hca:Cs w A (a.map strV))(hcb:Cs w B (b.map strV))(ha:Few a)(hb:Few b):
 Calls prog 60 #[.slice A a.length ca,.slice B b.length cb] w fun e w'=>e=.returned (.int .i64 (cmpN a b))∧ExtD w w':=by
 have hla:=ha.1;have hlb:=hb.1;have HA:=hid hca;have HB:=hid hcb;have HF:=hid ha;have HG:=hid hb;clear hca hcb ha hb;go_enter func60,ntmps60;go_wp2_with fail
 go_loopw [12] (CmpD a b w) (fun i _=>a.length - (intOf i).toNat)
 case atStart=>exact⟨0,Nat.zero_le _,Nat.zero_le _,rfl,rfl,ExtD.refl _⟩
 case round=>
  obtain⟨j,hja,hjb,rfl,hcmp,hbel⟩:=hrel;have HC:=hid hcmp;clear hcmp;by_cases hlt:j < a.length∧j < b.length
  ·obtain⟨h1,h2⟩:=hlt;have hm1:a.length - 1 - j < a.length:=by omega
   have hm2:b.length - 1 - j < b.length:=by omega
   obtain⟨ba,oa,rfl,hba,hxa⟩:=Cs.str HA.out hm1;obtain⟨bb,ob,rfl,hbb,hxb⟩:=Cs.str HB.out hm2;have HS:=hid (cmpR_step h1 h2);have wa:IntKind.i64.wrap ((a.length:Int) - 1)=(a.length:Int) - 1:=IntWalk.i64_in _ (by omega);have wb:IntKind.i64.wrap ((b.length:Int) - 1)=(b.length:Int) - 1:=IntWalk.i64_in _ (by omega)
   have wa2:IntKind.i64.wrap ((a.length:Int) - 1 - j)=((a.length - 1 - j:Nat):Int):=by rw[IntWalk.i64_in _ (by omega)];omega
   have wb2:IntKind.i64.wrap ((b.length:Int) - 1 - j)=((b.length - 1 - j:Nat):Int):=by rw[IntWalk.i64_in _ (by omega)];omega
   have s1:=HF.out.2 _ (List.getElem_mem hm1);have s2:=HG.out.2 _ (List.getElem_mem hm2);generalize a[a.length - 1 - j]=x at *;generalize b[b.length - 1 - j]=y at *;go_wp2_with fail;have hxa1:=(hbel.1.cell (p:=⟨ba,oa+(a.length - 1 - j),none⟩) hba).trans hxa;have hxb1:=(hbel.1.cell (p:=⟨bb,ob+(b.length - 1 - j),none⟩) hbb).trans hxb;have hbs:=hbel.1.size
   refine wp_region_d mixed0 (by kernel_rfl) [.is (.slice (some ⟨ba,oa,none⟩) a.length ca),.is (.slice (some ⟨ba,oa,none⟩) a.length ca),.is (.int .i64 a.length),.is (.int .i64 ((a.length:Int) - 1)),.is (.int .i64 j),.is (.int .i64 (a.length - 1 - j:Nat)),
    .is (.pointer (some ⟨ba,oa+(a.length - 1 - j),none⟩)),.is (.string (strB x)),.is (.string (strB (low x))),
    .is (.slice (some ⟨bb,ob,none⟩) b.length cb),.is (.slice (some ⟨bb,ob,none⟩) b.length cb),.is (.int .i64 b.length),.is (.int .i64 ((b.length:Int) - 1)),.is (.int .i64 j),.is (.int .i64 (b.length - 1 - j:Nat)),
    .is (.pointer (some ⟨bb,ob+(b.length - 1 - j),none⟩)),.is (.string (strB y)),.is (.string (strB (low y))),.is (.int .i64 (Lib.compareBytes (low x) (low y))),.is (.int .i64 (Lib.compareBytes (low x) (low y)))] ?_ ?_
   ·intro i o hio vals W hE haf;have e0:=(bcl hE.1 (by omega)).trans hxa1;have e1:=(bcl hE.1 (by omega)).trans hxb1;clear hxa hxa1 hxb hxb1;rcases i with _|_|_|_|_|_|_|_|_|_|_|_|_|_|_|_|_|_|_|_|i
    all_goals first
     |(exfalso;simp at hio;done)
     |(simp at hio;subst hio;simp[bindD,rdB,Region.binds,factAt]at haf;simp[opU,go_sem,haf,e0,e1,ExtD.refl,factAt,wa,wb,wa2,wb2,hm1,hm2];done)
     |skip
    all_goals
     simp at hio;subst hio;simp[bindD,rdB,Region.binds,factAt]at haf;simp[opU,go_sem,haf,factAt]
    ·exact(smallD x W (by omega)).mono fun e W' h=>h
    ·exact(smallD y W (by omega)).mono fun e W' h=>h
    ·exact(strCompare (low x) (low y) W).mono fun e W' h=>⟨h.1,h.2▸ExtD.refl _⟩
   ·intro vals W hE hF;have h19:=hF 19 (by show 19 < 20;omega);simp[factAt]at h19;simp[relAct,dstAt,Act.put,h19];clear hF h19;generalize vals 0=p0,vals 1=p1;generalize vals 2=p2,vals 3=p3;generalize vals 4=p4,vals 5=p5;generalize vals 6=p6,vals 7=p7;generalize vals 8=p8,vals 9=p9;generalize vals 10=p10,vals 11=p11;generalize vals 12=p12,vals 13=p13;generalize vals 14=p14,vals 15=p15;generalize vals 16=p16,vals 17=p17,vals 18=p18;have hb5:=hbel.trans hE;generalize Lib.compareBytes (low x) (low y)=c at *;by_cases hc0:c=0
    ·have hcb:(c==0)=true:=by simp[hc0]
     have hcb2:(c !=0)=false:=by simp[hc0]
     have HS2:=hid hc0;clear hc0;go_wp2_with fail;exact⟨⟨j+1,h1,h2,by go_num,by rw[HC.out,HS.out,if_pos HS2.out],hb5⟩,by simp[intOf];omega⟩
    ·have hcb:(c==0)=false:=by simp[hc0]
     have hcb2:(c !=0)=true:=by simp[hc0]
     go_wp2_with fail;go_ret;exact⟨ret_int (by rw[HC.out,HS.out,if_neg hc0]),hb5⟩
  ·have HE:=hid (cmpR_end hlt hja hjb);have hmin:¬(j:Int) < min (a.length:Int) (b.length:Int):=by omega
   by_cases h1:a.length < b.length
   ·have HV:Hid (cmpN a b= -1):=hid (by rw[HC.out,HE.out,if_pos h1]);clear HC HE;go_wp2_with fail;go_ret;exact⟨ret_int HV.out.symm,hbel⟩
   ·by_cases h2:b.length < a.length
    ·have HV:Hid (cmpN a b=1):=hid (by rw[HC.out,HE.out,if_neg h1,if_pos h2]);clear HC HE;go_wp2_with fail;go_ret;exact⟨ret_int HV.out.symm,hbel⟩
    ·have HV:Hid (cmpN a b=0):=hid (by rw[HC.out,HE.out,if_neg h1,if_neg h2]);clear HC HE;go_wp2_with fail;go_ret;exact⟨ret_int HV.out.symm,hbel⟩
theorem cmpR_flip:∀a b:List Lab,cmpR a b= - cmpR b a
 |[],[]=>rfl
 |[],_::_=>rfl
 |_::_,[]=>rfl
 |x::a,y::b=>by
  unfold cmpR;have h:=cb_flip (low x) (low y);by_cases e:Lib.compareBytes (low x) (low y)=0
  ·have e2:Lib.compareBytes (low y) (low x)=0:=by omega
   rw[if_pos e,if_pos e2];exact cmpR_flip a b
  ·have e2:¬Lib.compareBytes (low y) (low x)=0:=by omega
   rw[if_neg e,if_neg e2];exact h
theorem cmpR_trans:∀a b c:List Lab,cmpR a b < 0→cmpR b c < 0→cmpR a c < 0
 |[],[],_,h,_=>by simp[cmpR]at h
 |[],_::_,[],_,h=>by simp[cmpR]at h
 |[],_::_,_::_,_,_=>by simp[cmpR]
 |_::_,[],_,h,_=>by simp[cmpR]at h
 |_::_,_::_,[],_,h=>by simp[cmpR]at h
 |x::a,y::b,z::c,h1,h2=>by
  unfold cmpR at h1 h2 ⊢;have t1:=cb_trans (low x) (low y) (low z);by_cases e1:Lib.compareBytes (low x) (low y)=0
  ·rw[if_pos e1]at h1;have ex:=(cb_zero _ _).1 e1;rw[ex];by_cases e2:Lib.compareBytes (low y) (low z)=0
   ·rw[if_pos e2]at h2 ⊢;exact cmpR_trans a b c h1 h2
   ·rw[if_neg e2]at h2 ⊢;exact h2
  ·rw[if_neg e1]at h1;by_cases e2:Lib.compareBytes (low y) (low z)=0
   ·have ez:=(cb_zero _ _).1 e2;rw[←ez,if_neg e1];exact h1
   ·rw[if_neg e2]at h2;have:=t1 h1 h2;rw[if_neg (by omega)];exact this
theorem cmpN_flip(a b:List Lab):cmpN a b= - cmpN b a:=cmpR_flip _ _
theorem cmpN_trans(a b c:List Lab)(h1:cmpN a b < 0)(h2:cmpN b c < 0):cmpN a c < 0:=cmpR_trans _ _ _ h1 h2
theorem low_cmpR:∀a b:List Lab,cmpR (lower a) b=cmpR a b
 |[],[]=>rfl
 |[],_::_=>rfl
 |_::_,[]=>rfl
 |x::a,y::b=>by
  show cmpR (low x::lower a) (y::b)=_;unfold cmpR;rw[low_idem,low_cmpR a b]
theorem cmpN_lower(a b:List Lab):cmpN (lower a) b=cmpN a b:=by
 have:(lower a).reverse=lower a.reverse:=by simp[lower]
 unfold cmpN;rw[this,low_cmpR]
theorem cmpN_lower2(a b:List Lab):cmpN a (lower b)=cmpN a b:=by rw[cmpN_flip,cmpN_lower,←cmpN_flip]
theorem cmpN_eq{a b:List Lab}(h:cmpN a b=0)(c:List Lab):cmpN a c=cmpN b c:=by
 rw[←cmpN_lower a,←cmpN_lower b,(cmpN_zero a b).1 h]
theorem swoN{α:Type}(f:α→List Lab):Sort.SWO (ltOf fun a b=>cmpN (f a) (f b)) where
 irrefl:=fun x=>by
  have:=(cmpN_zero (f x) (f x)).2 rfl;simp[ltOf];omega
 trans:=fun x y z h1 h2=>by
  simp[ltOf]at h1 h2 ⊢;exact cmpN_trans _ _ _ h1 h2
 ntrans:=fun x y z h1 h2=>by
  simp[ltOf]at h1 h2 ⊢;have a:=cmpN_flip (f x) (f y);have b:=cmpN_flip (f y) (f z);have c:=cmpN_flip (f x) (f z);by_cases e1:cmpN (f x) (f y)=0
  ·rw[cmpN_eq e1];exact h2
  ·by_cases e2:cmpN (f y) (f z)=0
   ·have:=cmpN_eq e2 (f x);omega
   ·have:=cmpN_trans (f z) (f y) (f x) (by omega) (by omega);omega
structure NmB where
 A:Option Addr
 l:List Lab
 cap:Nat
def NmB.v(b:NmB):Value:=.slice b.A b.l.length b.cap
def NmB.ok(w:World)(b:NmB):Prop:=Cs w b.A (b.l.map strV)
def RowN(w:World)(g:Nat)(bs:List NmB):Prop:=∀i b,bs[i]? =some b→w.cell? ⟨g,i,none⟩=some b.v∧w.frozen? ⟨g,i,none⟩=false
def ApartN(g:Nat)(b:NmB):Prop:=∀a,b.A=some a→b.l.map strV≠[]→a.block≠g
theorem entCmp(args:Array Value)(w:World):(callFunc 60 args).run prog w=.ok (.enter 60 args) w:=(enters_of func60 (by kernel_rfl) rfl) args w
theorem SortNG(g cap:Nat)(bs:List NmB)(w:World)(hr:RowN w g bs)(hg:g < w.heap.size)(hok:∀b∈bs,b.ok w)(hne:∀b∈bs,ApartN g b)(hf:∀b∈bs,Few b.l)(hl:bs.length≤1000000)(h0:bs≠[]):
 Calls prog 59 #[.slice (some ⟨g,0,none⟩) bs.length cap,.func (.func 60) #[] #[]] w fun e w'=>
  e=.returned (.tuple #[])∧Kept (fun b=>b=g) w w'∧∃cs,cs.Perm bs∧cs.Pairwise (fun a b=>¬cmpN b.l a.l < 0)∧RowN w' g cs∧(∀cs e fr,w.heap[g]? =some (.cells cs e fr)→∃cs',w'.heap[g]? =some (.cells cs' e fr)∧cs'.size=cs.size):=by
 have hpos:0 < bs.length:=List.length_pos_iff.2 h0
 letI:Inhabited (Fin bs.length):=⟨⟨0,hpos⟩⟩
 let d:Array (Fin bs.length):=(List.finRange bs.length).toArray
 have hds:d.size=bs.length:=by simp[d]
 have hdj:∀j (hj:j < bs.length),d[j]! =⟨j,hj⟩:=by
  intro j hj;rw[getElem!_pos d j (by omega)];simp[d]
 have hH:Sort.Holds (fun i:Fin bs.length=>(bs[i]).v) w g 0 d:=by
  intro j hj;rw[hds]at hj;rw[hdj j hj,Nat.zero_add];exact hr j _ (List.getElem?_eq_getElem hj)
 have hS:=Any.slices_SortFunc Tryz.sortNm (fun i:Fin bs.length=>(bs[i]).v) (fun _=>rfl) (fun i j=>cmpN (bs[i]).l (bs[j]).l) (swoN fun i:Fin bs.length=>(bs[i]).l) 60 #[] g 0 cap d w entCmp ?_ hH hg (by omega)
 ·rw[hds]at hS;refine hS.mono ?_;rintro e w' ⟨rfl,d',n,os,hp,hs,rfl⟩;have hd':d'.size=bs.length:=hp.1.trans hds;have hfull:d'.extract 0 bs.length=d':=extract_full d' _ hd';have hfull2:d.extract 0 bs.length=d:=extract_full d _ hds;have hperm:d'.toList.Perm (List.finRange bs.length):=by
   have h3:=hp.2.2;rw[hfull,hfull2]at h3;simpa[d]using h3
  refine⟨rfl,kept_sortWorld _ w g n d' os,d'.toList.map (fun i=>bs[i]), ?_, ?_, ?_,fun cs e fr h=>shape_sortWorld _ w g n d' os h⟩
  ·have h4:=hperm.map (fun i:Fin bs.length=>bs[i]);have h5:(List.finRange bs.length).map (fun i:Fin bs.length=>bs[i])=bs:=by
    apply List.ext_getElem
    ·simp
    ·intro i h1 h2;simp
   rw[h5]at h4;exact h4
  ·rw[List.pairwise_map];rw[List.pairwise_iff_getElem];intro i j hi hj hij;have hi2:i < d'.size:=by simpa using hi
   have hj2:j < d'.size:=by simpa using hj
   have h6:=hs i j (Nat.zero_le _) hij (by omega);rw[getElem!_pos d' j hj2,getElem!_pos d' i hi2]at h6;simp[ltOf]at h6;simp only[Array.getElem_toList];simpa using h6
  ·have hH2:=rowB_grow (fun i:Fin bs.length=>(bs[i]).v) w g n d' d os hg hH (by omega);intro i b hb;have hi:i < d'.size:=by
    have:=(List.getElem?_eq_some_iff.1 hb).1;simpa using this
   have h7:=hH2 i hi;rw[Nat.zero_add,getElem!_pos d' i hi]at h7;have h8:b=bs[d'[i]]:=by
    simp[hi]at hb;exact hb.symm
   rw[h8];exact h7
 ·intro m os dk hk x y;have hk:=kept_sortWorld (fun i:Fin bs.length=>(bs[i]).v) w g m dk os;have hx:(bs[x]).ok (sortWorld (fun i:Fin bs.length=>(bs[i]).v) w g 0 m dk os):=Kept.cs (hok _ (List.getElem_mem _)) hk (fun a h1 h2=>hne _ (List.getElem_mem _) a h1 h2)
  have hy:(bs[y]).ok (sortWorld (fun i:Fin bs.length=>(bs[i]).v) w g 0 m dk os):=Kept.cs (hok _ (List.getElem_mem _)) hk (fun a h1 h2=>hne _ (List.getElem_mem _) a h1 h2);refine(CompareD _ _ _ _ _ _ _ hx hy (hf _ (List.getElem_mem _)) (hf _ (List.getElem_mem _))).mono fun e w' h=> ?_;exact⟨h.1,h.2.grow⟩
theorem SortNG0(A:Option Addr)(cap:Nat)(w:World):
 Calls prog 59 #[.slice A 0 cap,.func (.func 60) #[] #[]] w fun e w'=>e=.returned (.tuple #[])∧w'=w:=AnyF.slices_SortFunc_none {Tryz.sortNm with} A cap _ w
theorem yield_bytes{ops:Array Oper}{o:Oper}{a:Act}{W:World}{R:Value→World→Prop}(hgd:o.guard=none)(sl x:Operand){t:TypeId}(ht:prog.underlying t=some (.slice 5))
 (ho:o.op=.call {callee:=.builtin .append,args:= #[sl,x],argTypes:= #[t,t]}) {B:Nat} {v:Value} {n:Nat} {xs us:List Value} (hs:a.eval sl=v) (hown:W.ownsRow B 5 1 v n xs) (hB:B≤W.heap.size)
 {A:Option Addr} {c:Nat} (hx:a.eval x=.slice A us.length c) (hcs:Cs W A us) (h1:∀u∈us,u.oneCell'=true) (hn:n+us.length≤1000000000)
 (h:∀v' W',W'.ownsRow B 5 1 v' (n+us.length) (xs++us)→Below B W W'→R v' W'):opYield prog ops o a W R:=by
 obtain⟨i0,hi,hz0,hz1,hz2⟩:=info_parts info_u8;have hw:Region.wanted o (yielded ops a.tmps)=true:=by simp[Region.wanted,hgd]
 rw[opYield_def,if_pos hw];cases A with
 |none=>
  have hsn:us=[]:=hcs.none_nil;subst hsn;have hr:=run_nothing (P:=prog) (ty:=o.type) ht hi hown c;unfold execOp;simp only[ho,resolve,invoke,builtin,Sem.run_bind,Sem.run_pure,Result.andThen_ok,List.map_toArray,List.map_cons,List.map_nil,hs,hx,List.length_nil,hr];exact h v W (by simpa using hown) (Below.refl _ _)
 |some b=>
  obtain⟨v',W',hr,h2,h3,_⟩:=run_append_own (P:=prog) W B t o.type 5 i0 _ 1 1 ht hi hz0 hz1 hz2 rfl (by decide) v n xs hown b us.length c us (by simp) hcs.cells h1 (by unfold maxLen;omega) (by omega) hB;unfold execOp;simp only[ho,resolve,invoke,builtin,Sem.run_bind,Sem.run_pure,Result.andThen_ok,List.map_toArray,List.map_cons,List.map_nil,hs,hx,hr]
  exact h v' W' h2 ((Below.refl _ _).grown h3 hB (fun k hk=>(hown.lt k hk).1))
def be2(n:Nat):Lab:=[UInt8.ofNat (n / 256),UInt8.ofNat n]
def be4(n:Nat):Lab:=[UInt8.ofNat (n / 16777216),UInt8.ofNat (n / 65536),UInt8.ofNat (n / 256),UInt8.ofNat n]
theorem byteV_mod(n:Nat):byteV (UInt8.ofNat n)=.int .u8 ((n:Int) %256):=by
 unfold byteV;rw[UInt8.toNat_ofNat'];congr 1
theorem put2(B:Nat)(v:Value)(m:Nat)(xs:Lab)(n:Nat)(w:World)(hown:w.ownsRow B 5 1 v m (xs.map byteV))(hB:B≤w.heap.size)(hm:m≤100000000)(hn:n < 4294967296):
 Calls prog 194 #[v,.int .u32 n,.int .i64 2] w fun e w'=>∃v',e=.returned v'∧w'.ownsRow B 5 1 v' (m+2) ((xs++be2 n).map byteV)∧Moved v w v' w':=by
 obtain⟨i0,hi,hz0,hz1,hz2⟩:=info_parts info_u8;have tok1:True:=trivial;have tok2:True:=trivial;go_enter func194,ntmps194;go_wp2_with fail;refine wp_loop_rounds 3 ?_;rw[rounds_succ]
 go_wp2_with (first|(at_builtin;have _t:=tok1;refine wpList_push3 hown hB [.int .u8 ((n:Int) / 256 %256)] rfl (by simp[Value.oneCell']) hi hz0 hz1 hz2 rfl (by decide) rfl (.tmp 14) _ 37 underlying37 rfl rfl rfl (by unfold maxLen;omega) (by omega) ?_;intro v1 w1 hown1 hbw1;clear tok1;have hbs1:=hbw1.kept.size))
 rw[rounds_succ];have hB1:=Nat.le_trans hB hbs1
 go_wp2_with (first|(at_builtin;have _t:=tok2;refine wpList_push3 hown1 hB1 [.int .u8 ((n:Int) %256)] rfl (by simp[Value.oneCell']) hi hz0 hz1 hz2 rfl (by decide) rfl (.tmp 14) _ 37 underlying37 rfl rfl rfl (by unfold maxLen;omega) (by omega) ?_;intro v2 w2 hown2 hbw2;clear tok2;have hbs2:=Nat.le_trans hbs1 hbw2.kept.size))
 rw[rounds_succ];go_wp2_with fail;go_ret;refine⟨_,rfl, ?_,hbw1.trans hbw2⟩;have e1:=byteV_mod (n / 256);have e2:=byteV_mod n;rw[show((n / 256:Nat):Int)=(n:Int) / 256 from by omega]at e1;rw[List.map_append];show w2.ownsRow B 5 1 v2 (m+1+1) (xs.map byteV++[byteV (UInt8.ofNat (n / 256)),byteV (UInt8.ofNat n)])
 rw[e1,e2,show[Value.int .u8 ((n:Int) / 256 %256),Value.int .u8 ((n:Int) %256)]=[Value.int .u8 ((n:Int) / 256 %256)]++[Value.int .u8 ((n:Int) %256)]from rfl,←List.append_assoc];exact hown2
theorem put4(B:Nat)(v:Value)(m:Nat)(xs:Lab)(n:Nat)(w:World)(hown:w.ownsRow B 5 1 v m (xs.map byteV))(hB:B≤w.heap.size)(hm:m≤100000000)(hn:n < 4294967296):
 Calls prog 194 #[v,.int .u32 n,.int .i64 4] w fun e w'=>∃v',e=.returned v'∧w'.ownsRow B 5 1 v' (m+4) ((xs++be4 n).map byteV)∧Moved v w v' w':=by
 obtain⟨i0,hi,hz0,hz1,hz2⟩:=info_parts info_u8;have tok1:True:=trivial;have tok2:True:=trivial;have tok3:True:=trivial;have tok4:True:=trivial;go_enter func194,ntmps194;go_wp2_with fail;refine wp_loop_rounds 5 ?_;rw[rounds_succ]
 go_wp2_with (first|(at_builtin;have _t:=tok1;refine wpList_push3 hown hB [.int .u8 ((n:Int) / 16777216)] rfl (by simp[Value.oneCell']) hi hz0 hz1 hz2 rfl (by decide) rfl (.tmp 14) _ 37 underlying37 rfl rfl rfl (by unfold maxLen;omega) (by omega) ?_;intro v1 w1 hown1 hbw1;clear tok1;have hbs1:=hbw1.kept.size))
 have hB1:=Nat.le_trans hB hbs1;rw[rounds_succ]
 go_wp2_with (first|(at_builtin;have _t:=tok2;refine wpList_push3 hown1 hB1 [.int .u8 ((n:Int) / 65536 %256)] rfl (by simp[Value.oneCell']) hi hz0 hz1 hz2 rfl (by decide) rfl (.tmp 14) _ 37 underlying37 rfl rfl rfl (by unfold maxLen;omega) (by omega) ?_;intro v2 w2 hown2 hbw2;clear tok2;have hbs2:=Nat.le_trans hbs1 hbw2.kept.size))
 have hB2:=Nat.le_trans hB hbs2;rw[rounds_succ]
 go_wp2_with (first|(at_builtin;have _t:=tok3;refine wpList_push3 hown2 hB2 [.int .u8 ((n:Int) / 256 %256)] rfl (by simp[Value.oneCell']) hi hz0 hz1 hz2 rfl (by decide) rfl (.tmp 14) _ 37 underlying37 rfl rfl rfl (by unfold maxLen;omega) (by omega) ?_;intro v3 w3 hown3 hbw3;clear tok3;have hbs3:=Nat.le_trans hbs2 hbw3.kept.size))
 have hB3:=Nat.le_trans hB hbs3;rw[rounds_succ]
 go_wp2_with (first|(at_builtin;have _t:=tok4;refine wpList_push3 hown3 hB3 [.int .u8 ((n:Int) %256)] rfl (by simp[Value.oneCell']) hi hz0 hz1 hz2 rfl (by decide) rfl (.tmp 14) _ 37 underlying37 rfl rfl rfl (by unfold maxLen;omega) (by omega) ?_;intro v4 w4 hown4 hbw4;clear tok4;have hbs4:=Nat.le_trans hbs3 hbw4.kept.size))
 have hB4:=Nat.le_trans hB hbs4;rw[rounds_succ];go_wp2_with fail;go_ret;refine⟨_,rfl, ?_,((hbw1.trans hbw2).trans hbw3).trans hbw4⟩;have e1:=byteV_mod (n / 16777216);have e2:=byteV_mod (n / 65536);have e3:=byteV_mod (n / 256);have e4:=byteV_mod n;rw[show((n / 16777216:Nat):Int) %256=(n:Int) / 16777216 from by omega]at e1;rw[show((n / 65536:Nat):Int)=(n:Int) / 65536 from by omega]at e2
 rw[show((n / 256:Nat):Int)=(n:Int) / 256 from by omega]at e3;rw[List.map_append];show w4.ownsRow B 5 1 v4 (m+1+1+1+1) (xs.map byteV++[byteV (UInt8.ofNat (n / 16777216)),byteV (UInt8.ofNat (n / 65536)),byteV (UInt8.ofNat (n / 256)),byteV (UInt8.ofNat n)]);rw[e1,e2,e3,e4];simpa[List.append_assoc]using hown4
theorem strV_one(n:List Lab):∀u∈n.map strV,u.oneCell'=true:=by intro u hu;obtain⟨y,_,rfl⟩:=List.mem_map.1 hu;rfl
theorem wpList_names{ops:Array Oper}{rest:List Oper}{o:Oper}{a:Act}{Q:Exit→Act→World→Prop}{w:World}{B:Nat}{v:Value}{n:Nat}{xs:List Lab}
 (hown:w.ownsRow B 9 1 v n (xs.map strV)) (hB:B≤w.heap.size) {A:Option Addr} {s:List Lab} {c:Nat} (hs2:Cs w A (s.map strV)) (hgd:o.guard=none) (sl x:Operand) {t:TypeId} (ht:prog.underlying t=some (.slice 9))
 (ho:o.op=.call {callee:=.builtin .append,args:= #[sl,x],argTypes:= #[t,t]}) (hs:a.eval sl=v) (hx:a.eval x=.slice A s.length c) (hn:n+s.length≤1000000000)
 (h:∀v' w',w'.ownsRow B 9 1 v' (n+s.length) ((xs++s).map strV)→Below B w w'→wpList prog ops Q rest (a.put o.dst v') w'):wpList prog ops Q (o::rest) a w:=by
 obtain⟨i0,hi,hz0,hz1,hz2⟩:=info_parts info_str;cases A with
 |none=>
  have hsn:s=[]:=by simpa using hs2.none_nil
  subst hsn;refine wpList_nothing hgd sl x t ho ht hi hs hown hx ?_;refine h v w ?_ (Below.refl _ _);simpa using hown
 |some b=>
  refine wpList_append_own w hgd sl x t ho B 9 i0 _ 1 16 ht hi hz0 hz1 hz2 rfl (by decide) v n _ hs hown b s.length c (s.map strV) hx (by simp) hs2.cells (strV_one s) (by unfold maxLen;omega) (by omega) hB ?_;intro v' w' h1 h2 _;rw[←List.map_append]at h1;exact h v' w' h1 ((Below.refl _ _).grown h2 hB (fun k hk=>(hown.lt k hk).1))
theorem CloneN(A:Option Addr)(n:List Lab)(cap:Nat)(w:World)(hc:Cs w A (n.map strV))(hn:n.length≤100000000):
 Calls prog 58 #[.slice A n.length cap] w fun e w'=>∃v,e=.returned v∧w'.ownsRow w.heap.size 9 1 v n.length (n.map strV)∧Below w.heap.size w w':=by
 cases A with
 |none=>
  have hl:n=[]:=by simpa using hc.none_nil
  have hq:∀W,(binOp .eql 28 (.slice none n.length cap) (.slice none 0 0)).run prog W=.ok (.bool true) W:=fun W=>Lib.run_eql_slice_nil (P:=prog) W 28 9 none n.length cap 0 0 underlying28;have HL:Hid (∀w:World,w.ownsRow w.heap.size 9 1 (.slice none 0 0) n.length (n.map strV)):=hid (fun w=>by rw[hl];exact World.ownsRow_nil _ _ _ _);clear hl;generalize n.length=m at *
  go_enter func58,ntmps58;go_wp2_with fail;go_ret;exact⟨_,rfl,HL.out _,Below.refl _ _⟩
 |some a=>
  have hq:∀W,(binOp .eql 28 (.slice (some a) n.length cap) (.slice none 0 0)).run prog W=.ok (.bool false) W:=fun W=>Lib.run_eql_slice_nil (P:=prog) W 28 9 (some a) n.length cap 0 0 underlying28
  have hown:(w.alloc (.cells #[] 9)).ownsRow w.heap.size 9 1 (.slice (some ⟨w.heap.size,0,none⟩) 0 0) 0 (([]:List Lab).map strV):=own_empty _ _ _ _ _ _ (heap_alloc_new _ _) (Nat.le_refl _) (by unfold maxLen;omega) rfl;have hb0:Below w.heap.size w (w.alloc (.cells #[] 9)):=bAl;have hc1:=hc.below hb0;have HO:=hid hown;clear hown
  go_enter func58,ntmps58
  go_wp2_with (first|(at_builtin;refine wpList_names HO.out hb0.size hc1 rfl _ _ underlying28 rfl rfl rfl (by omega) ?_;intro v4 w4 hown4 hbw4;have hbw5:=hb0.trans hbw4))
  go_ret;exact⟨_,rfl,by simpa using hown4,hbw5⟩
def labels(n:List Lab):Nat:=(if wild n then n.length - 1 else n.length) %256
theorem below_drew{B:Nat}{a w:World}(h:Below B a w):Below B a w.drew:=⟨h.os,h.tape,h.output,h.size,h.block⟩
theorem cells9{w:World}{g:Nat}{T:TypeId}{c0 c1 c2 c3 c4 c5 c6 c7 c8:Value}(h:w.heap[g]? =some (.cells #[c0,c1,c2,c3,c4,c5,c6,c7,c8] T (0,0))):
 w.cell? ⟨g,0,none⟩=some c0∧w.cell? ⟨g,1,none⟩=some c1∧w.cell? ⟨g,2,none⟩=some c2∧w.cell? ⟨g,3,none⟩=some c3∧w.cell? ⟨g,4,none⟩=some c4∧w.cell? ⟨g,5,none⟩=some c5∧w.cell? ⟨g,6,none⟩=some c6∧w.cell? ⟨g,7,none⟩=some c7∧w.cell? ⟨g,8,none⟩=some c8∧∀i,w.frozen? ⟨g,i,none⟩=false:=by
 refine⟨?_, ?_, ?_, ?_, ?_, ?_, ?_, ?_, ?_,fun i=>by simp[World.frozen?,h]⟩ <;> (rw[cell_of_row w g _ _ _ _ h];rfl)
structure SetV where
 A:Option Addr
 n:List Lab
 cap:Nat
 t:Int
 ttl:Int
 D:Option Addr
 ds:List Blob
 dcap:Nat
def SetV.v(s:SetV):Value:=.agg #[.slice s.A s.n.length s.cap,.int .u16 s.t,.int .u32 s.ttl,.slice s.D s.ds.length s.dcap]
def SetV.ok(w:World)(s:SetV):Prop:=Cs w s.A (s.n.map strV)∧Cs w s.D (s.ds.map Blob.v)∧Blobs w s.ds
theorem SetV.ok.below{w w':World}{s:SetV}(h:s.ok w)(hb:Below w.heap.size w w'):s.ok w':=⟨h.1.below hb,h.2.1.below hb,h.2.2.below hb⟩
theorem byteV_lt{n:Nat}(h:n < 256):byteV (UInt8.ofNat n)=.int .u8 n:=by rw[byteV_mod];congr 1;omega
structure SigM where
 t:Nat
 al:Nat
 lb:Nat
 ttl:Nat
 ex:Nat
 bg:Nat
 tg:Nat
 n:List Lab
 s:Lab
structure SigM.fits(g:SigM):Prop where
 t:g.t < 65536
 al:g.al < 256
 lb:g.lb < 256
 ttl:g.ttl < 4294967296
 ex:g.ex < 4294967296
 bg:g.bg < 4294967296
 tg:g.tg < 65536
 n:Small g.n
 s:g.s.length≤100000
def SigM.bytes(g:SigM):Lab:=be2 g.t++[UInt8.ofNat g.al,UInt8.ofNat g.lb]++be4 g.ttl++be4 g.ex++be4 g.bg++be2 g.tg++wire g.n++g.s
def SigM.v(g:SigM)(A:Option Addr)(cap:Nat)(S:Option Addr)(sc:Nat):Value:=.agg #[.int .u16 g.t,.int .u8 g.al,.int .u8 g.lb,.int .u32 g.ttl,.int .u32 g.ex,.int .u32 g.bg,.int .u16 g.tg,.slice A g.n.length cap,.slice S g.s.length sc]
theorem own_rowC(w:World)(B:Nat)(e:TypeId)(xs:List Value)(hB:B≤w.heap.size)(hl:xs.length≤1000):(w.alloc (.cells xs.toArray e)).ownsRow B e 1 (.slice (some ⟨w.heap.size,0,none⟩) xs.length xs.length) xs.length xs:=
 ⟨by simp,.inr ⟨w.heap.size,xs.length,xs.toArray,rfl,hB,heap_alloc_new w _,Nat.le_refl _,by unfold maxLen;omega,by simp,by simp⟩⟩
theorem wire_len_few{n:List Lab}(h:Small n):(wire n).length≤1001001:=by
 have:=wires_few h;unfold wire;simp;omega
def blobsF(ls:List Lab):Fact:=⟨fun v W=>∃A bs,v=.slice A ls.length ls.length∧Cs W A (bs.map Blob.v)∧bs.map (·.l)=ls∧Blobs W bs,by
 intro v W W' hE h;obtain⟨A,bs,h1,h2,h3,h4⟩:=h;exact⟨A,bs,h1,h2.below hE,h3,h4.below hE⟩⟩
theorem blobs_p(ls:List Lab)(v:Value)(W:World):(blobsF ls).p v W=∃A bs,v=.slice A ls.length ls.length∧Cs W A (bs.map Blob.v)∧bs.map (·.l)=ls∧Blobs W bs:=rfl
theorem join_of{bs:List Blob}{ls:List Lab}(h:bs.map (·.l)=ls):join bs=ls.flatten:=by
 unfold join;rw[←h,List.flatMap_def]
theorem SigBytes(g:SigM)(hg:g.fits)(A S:Option Addr)(cap sc:Nat)(w:World)(hA:Cs w A (g.n.map strV))(hS:Cs w S (g.s.map byteV)):
 Calls prog 197 #[g.v A cap S sc] w fun e w'=>∃v,e=.returned v∧w'.ownsRow w.heap.size 5 1 v g.bytes.length (g.bytes.map byteV)∧Below w.heap.size w w':=by
 obtain⟨i0,hi,hz0,hz1,hz2⟩:=info_parts info_u8;unfold SigM.v;have hb1:Below w.heap.size w (w.alloc (.cells #[.int .u16 g.t,.int .u8 g.al,.int .u8 g.lb,.int .u32 g.ttl,.int .u32 g.ex,.int .u32 g.bg,.int .u16 g.tg,.slice A g.n.length cap,.slice S g.s.length sc] 190)):=bAl
 have hblk:=heap_alloc_new w (.cells #[.int .u16 g.t,.int .u8 g.al,.int .u8 g.lb,.int .u32 g.ttl,.int .u32 g.ex,.int .u32 g.bg,.int .u16 g.tg,.slice A g.n.length cap,.slice S g.s.length sc] 190);obtain⟨k0,k1,k2,k3,k4,k5,k6,k7,k8,_⟩:=cells9 hblk;have hwr:IntKind.u32.wrap (g.t:Int)=g.t:=by have:=hg.t;simp[IntKind.wrap,IntKind.bits,IntKind.signed];omega
 have hgt:=hg.t;have hsz:(w.alloc (.cells #[.int .u16 g.t,.int .u8 g.al,.int .u8 g.lb,.int .u32 g.ttl,.int .u32 g.ex,.int .u32 g.bg,.int .u16 g.tg,.slice A g.n.length cap,.slice S g.s.length sc] 190)).heap.size=w.heap.size+1:=by simp
 go_enter func197,ntmps197;go_wp2_with fail;generalize w.alloc (.cells #[.int .u16 g.t,.int .u8 g.al,.int .u8 g.lb,.int .u32 g.ttl,.int .u32 g.ex,.int .u32 g.bg,.int .u16 g.tg,.slice A g.n.length cap,.slice S g.s.length sc] 190)=w1 at *;have HA:=hid (hA.below hb1);have HS:=hid (hS.below hb1);clear hA hS hblk
 refine wp_region_gen mixed0 (by kernel_rfl) w1.heap.size (Nat.le_refl _) [.is (.pointer (some ⟨w.heap.size,0,none⟩)),.is (.int .u16 g.t),.is (.int .u32 g.t),.own w1.heap.size 5 1 2 ((be2 g.t).map byteV),.is (.pointer (some ⟨w.heap.size,1,none⟩)),.is (.int .u8 g.al),.is (.pointer (some ⟨w.heap.size,2,none⟩)),.is (.int .u8 g.lb),
  .own w1.heap.size 5 1 2 [.int .u8 g.al,.int .u8 g.lb],.own w1.heap.size 5 1 4 ((be2 g.t).map byteV++[.int .u8 g.al,.int .u8 g.lb]),.own w1.heap.size 5 1 4 ((be2 g.t).map byteV++[.int .u8 g.al,.int .u8 g.lb])]
  (fun i=>if i=9 then 2 else 0) (fun j=>if j=3∨j=8∨j=9∨j=10 then 1 else 0) (by kernel_rfl) ?_ ?_ ?_
 ·intro j;rcases j with _|_|_|_|_|_|_|_|_|_|_|j
  all_goals first
   |exact kind_is _ _
   |exact kind_own _ _ _ _ _ _ (Nat.le_refl _)
   |(have hx:¬(j+11=3∨j+11=8∨j+11=9∨j+11=10):=by omega
     rw[if_neg hx];exact kind_any _)
 ·intro i o hio vals W hE haf;have e0:=(bcl (o:=0) hE (by omega)).trans k0;have e1:=(bcl (o:=1) hE (by omega)).trans k1;have e2:=(bcl (o:=2) hE (by omega)).trans k2;rcases i with _|_|_|_|_|_|_|_|_|_|_|i
  all_goals first
   |(exfalso;simp at hio;done)
   |(simp at hio;subst hio;simp[bindD,rdB,Region.binds,factAt]at haf;simp[opU,go_sem,haf,e0,e1,e2,Ext.refl,factAt,hwr,kindT];done)
   |skip
  all_goals
   simp at hio;subst hio
  ·simp[bindD,rdB,Region.binds,factAt]at haf;simp[opU,go_sem,haf,factAt,kindT];refine(put2 W.heap.size (.slice none 0 0) 0 [] g.t W (World.ownsRow_nil _ _ _ _) (Nat.le_refl _) (by omega) (by omega)).mono fun e W' h5=> ?_;obtain⟨v,he,ho,hb⟩:=h5
   exact⟨v,he,hb.below (World.ownsRow_nil _ _ 5 1) (Nat.le_refl _),own_base (by simpa using ho) hE.size⟩
  ·simp[bindD,rdB,Region.binds,factAt]at haf;simp[opU,go_sem,haf,factAt,kindT];exact⟨bAl,own_rowC W w1.heap.size 5 [.int .u8 g.al,.int .u8 g.lb] hE.size (by simp)⟩
  ·simp[bindD,rdB,Region.binds,factAt]at haf;obtain⟨h3,h8⟩:=haf;obtain⟨A8,c8,e8,_,hcs8⟩:=Cs.of_own h8;refine yield_bytes rfl (.tmp 9) (.tmp 14) underlying37 rfl (v:=vals 3) (by simp[relAct,dstAt,Act.put,Act.eval]) h3 hE.size (us:=[.int .u8 g.al,.int .u8 g.lb]) (A:=A8) (c:=c8) (by simp[relAct,dstAt,Act.put,Act.eval,e8]) hcs8 (by simp[Value.oneCell']) (by simp) ?_;intro v' W' h4 h5
   exact⟨h5,h4⟩
 ·intro vals W hE hF;have h10:=hF 10 (by show 10 < 11;omega) (by kernel_rfl);have h11:W.ownsRow w1.heap.size 5 1 (vals 10) 4 ((be2 g.t++[UInt8.ofNat g.al,UInt8.ofNat g.lb]).map byteV):=by
   rw[List.map_append];show W.ownsRow w1.heap.size 5 1 (vals 10) 4 ((be2 g.t).map byteV++[byteV (UInt8.ofNat g.al),byteV (UInt8.ofNat g.lb)]);rw[byteV_lt hg.al,byteV_lt hg.lb];exact h10
  simp[relAct,dstAt,Act.put];clear hF h10;have l0:(be2 g.t++[UInt8.ofNat g.al,UInt8.ofNat g.lb]).length=4:=rfl;have e3:=(bcl (o:=3) hE (by omega)).trans k3;have e4:=(bcl (o:=4) hE (by omega)).trans k4;have e5:=(bcl (o:=5) hE (by omega)).trans k5;have e6:=(bcl (o:=6) hE (by omega)).trans k6;have e7:=(bcl (o:=7) hE (by omega)).trans k7;have e8:=(bcl (o:=8) hE (by omega)).trans k8
  generalize vals 10=v0 at *;generalize hx0:be2 g.t++[UInt8.ofNat g.al,UInt8.ofNat g.lb]=xs0 at *;have HX0:=hid hx0;clear hx0;have hz:=hE.size;have hlt0:=fun k hk=>(h11.lt k hk)
  clear k0 k1 k2 k3 k4 k5 k6 k7 k8;have hbz:Below W.heap.size W (W.alloc (.cells #[.int .u32 g.ttl,.int .u32 g.ex,.int .u32 g.bg] 35)):=bAl;have hq:(W.alloc (.cells #[.int .u32 g.ttl,.int .u32 g.ex,.int .u32 g.bg] 35)).heap[W.heap.size]? =some (.cells #[.int .u32 g.ttl,.int .u32 g.ex,.int .u32 g.bg] 35 (0,0)):=heap_alloc_new W _
  have q0:(W.alloc (.cells #[.int .u32 g.ttl,.int .u32 g.ex,.int .u32 g.bg] 35)).cell? ⟨W.heap.size,0,none⟩=some (.int .u32 g.ttl):=by rw[cell_of_row _ _ 0 _ _ _ hq];rfl
  have q1:(W.alloc (.cells #[.int .u32 g.ttl,.int .u32 g.ex,.int .u32 g.bg] 35)).cell? ⟨W.heap.size,1,none⟩=some (.int .u32 g.ex):=by rw[cell_of_row _ _ 1 _ _ _ hq];rfl
  have q2:(W.alloc (.cells #[.int .u32 g.ttl,.int .u32 g.ex,.int .u32 g.bg] 35)).cell? ⟨W.heap.size,2,none⟩=some (.int .u32 g.bg):=by rw[cell_of_row _ _ 2 _ _ _ hq];rfl
  have hzz:(W.alloc (.cells #[.int .u32 g.ttl,.int .u32 g.ex,.int .u32 g.bg] 35)).heap.size=W.heap.size+1:=by simp
  have o0:=own_below h11 hbz;have hn1:¬some W.heap.size=v0.ownBlock:=fun h=>by have:=hlt0 _ h.symm;omega
  have hn2:¬some w.heap.size=v0.ownBlock:=fun h=>by have:=hlt0 _ h.symm;omega
  have z3:=(bcl (o:=3) hbz (show w.heap.size < _ by omega)).trans e3;have z6:=(bcl (o:=6) hbz (show w.heap.size < _ by omega)).trans e6;have z7:=(bcl (o:=7) hbz (show w.heap.size < _ by omega)).trans e7;have z8:=(bcl (o:=8) hbz (show w.heap.size < _ by omega)).trans e8;have HO:=hid o0;have HFits:=hid hg;have hBz:=hE.trans (hbz.mono hz);clear o0 hq h11 hg;go_wp2_with fail
  clear e3 e4 e5 e6 e7 e8;refine wp_loop_rounds 4 ?_;rw[rounds_succ];go_wp2_with fail;generalize W.alloc (.cells #[.int .u32 g.ttl,.int .u32 g.ex,.int .u32 g.bg] 35)=Wz at *;refine(put4 w1.heap.size v0 4 xs0 g.ttl Wz HO.out (by omega) (by omega) HFits.out.ttl).mono ?_;rintro e W1 ⟨v1,rfl,own1,mv1⟩;have s1:=mv1.kept.size;have r1:=(mv1.kept.cell (o:=1) (show W.heap.size < _ by omega) hn1).trans q1
  go_wp2_with fail;rw[rounds_succ];go_wp2_with fail;have HO1:=hid own1;clear own1 r1;refine(put4 w1.heap.size v1 (4+4) _ g.ex W1 HO1.out (by omega) (by omega) HFits.out.ex).mono ?_;rintro e W2 ⟨v2,rfl,own2,mv2⟩;have mv12:=mv1.trans mv2;have s2:=mv12.kept.size;have r2:=(mv12.kept.cell (o:=2) (show W.heap.size < _ by omega) hn1).trans q2;go_wp2_with fail;rw[rounds_succ];go_wp2_with fail
  have HO2:=hid own2;clear own2 r2;refine(put4 w1.heap.size v2 (4+4+4) _ g.bg W2 HO2.out (by omega) (by omega) HFits.out.bg).mono ?_;rintro e W3 ⟨v3,rfl,own3,mv3⟩;have mv:=mv12.trans mv3;go_wp2_with fail;rw[rounds_succ];go_wp2_with fail;have s3:=mv.kept.size;have y6:=(mv.kept.cell (o:=6) (show w.heap.size < _ by omega) hn2).trans z6
  have y7:=(mv.kept.cell (o:=7) (show w.heap.size < _ by omega) hn2).trans z7;have y8:=(mv.kept.cell (o:=8) (show w.heap.size < _ by omega) hn2).trans z8;have hB3:=hBz.trans (mv.below HO.out (by omega));have HO3:=hid own3;clear own3 z6 z7 z8 z3 q0 q1 q2 mv12 mv1 mv2 mv3 HO1 HO2;have hu:∀k,v3.ownBlock=some k→w1.heap.size≤k∧k < W3.heap.size:=fun k hk=>HO3.out.lt k hk;have HU:=hid hu
  clear hu hbz hn1 hn2 hlt0 hBz hzz mv;generalize hxs:xs0++be4 g.ttl++be4 g.ex++be4 g.bg=xs at *;have HXS:=hid hxs;have lxs:xs.length=16:=by rw[←hxs];simp[l0,be4]
  have hwt:IntKind.u32.wrap (g.tg:Int)=g.tg:=by have:=HFits.out.tg;simp[IntKind.wrap,IntKind.bits,IntKind.signed];omega
  have htg:=HFits.out.tg;have lb2:(be2 g.tg).length=2:=rfl;have hwl:=wire_len_few HFits.out.n;have hsl:=HFits.out.s;have HWi:Hid (∀W,Below w1.heap.size w1 W→Calls prog 118 #[.slice A g.n.length cap] W fun e w'=>∃v,e=.returned v∧w'.ownsRow W.heap.size 5 1 v (wire g.n).length ((wire g.n).map byteV)∧Below W.heap.size W w'):=hid fun W hW=>Wire A g.n cap W (HA.out.below hW) HFits.out.n
  clear hxs;generalize hwn:wire g.n=wn at *;have HWN:=hid hwn;clear hwn;refine wp_region_gen0 mixed0 (by kernel_rfl) w1.heap.size hB3.size [.is v3,.is (.pointer (some ⟨w.heap.size,6,none⟩)),.is (.int .u16 g.tg),.is (.int .u32 g.tg),.own w1.heap.size 5 1 18 ((xs++be2 g.tg).map byteV),
   .is (.pointer (some ⟨w.heap.size,7,none⟩)),.is (.slice A g.n.length cap),.own W3.heap.size 5 1 wn.length (wn.map byteV),.is (.pointer (some ⟨w.heap.size,8,none⟩)),.is (.slice S g.s.length sc),
   blobsF [xs++be2 g.tg,wn,g.s],.own W3.heap.size 5 1 ((xs++be2 g.tg)++wn++g.s).length (((xs++be2 g.tg)++wn++g.s).map byteV),.own W3.heap.size 5 1 ((xs++be2 g.tg)++wn++g.s).length (((xs++be2 g.tg)++wn++g.s).map byteV)]
   (fun i=>if i=4 then 1 else 0) (fun j=>if j=4∨j=10 then 3 else if j=7∨j=11∨j=12 then 1 else 0) (by kernel_rfl) ?_
   (fun W=>W.ownsRow w1.heap.size 5 1 v3 16 (xs.map byteV)) HO3.out (fun W W' hE h=>own_below h hE) (fun W W' hb h=>Kept.row h (Kept.of_below hb) (fun k hk=>by have:=(HU.out k hk).2;omega)) ?_ ?_
  ·intro j;rcases j with _|_|_|_|_|_|_|_|_|_|_|_|_|j
   all_goals first
    |exact kind_is _ _
    |exact kind_own _ _ _ _ _ _ (Nat.le_refl _)
    |exact trivial
    |(have hx:¬(j+13=7∨j+13=11∨j+13=12):=by omega
      have hy:¬(j+13=4∨j+13=10):=by omega
      rw[if_neg hy,if_neg hx];exact kind_any _)
  ·intro i o hio vals W hE2 haf hI;have e6:=(bcl (o:=6) hE2 (show w.heap.size < w1.heap.size by omega)).trans y6;have e7:=(bcl (o:=7) hE2 (show w.heap.size < w1.heap.size by omega)).trans y7;have e8:=(bcl (o:=8) hE2 (show w.heap.size < w1.heap.size by omega)).trans y8;have hWs:=hE2.size;have hHS:Cs W S (g.s.map byteV):=HS.out.below (hB3.trans hE2);rcases i with _|_|_|_|_|_|_|_|_|_|_|_|_|i
   all_goals first
    |(exfalso;simp at hio;done)
    |(simp at hio;subst hio;simp[bindD,rdB,Region.binds,factAt]at haf;simp[opU,go_sem,haf,e6,e7,e8,Ext.refl,factAt,hwt,kindT];done)
    |skip
   all_goals
    simp at hio;subst hio;simp[bindD,rdB,Region.binds,factAt]at haf
   ·have hrow:=hI (fun k hk h=>.inl (by
     by_cases e:k=4
     ·exact e
     ·simp[e]at h))
    obtain⟨h3,h4⟩:=haf;simp[opU,go_sem,h3,h4,factAt,kindT];refine(put2 w1.heap.size v3 16 xs g.tg W hrow (Nat.le_trans hB3.size hWs) (by omega) (by omega)).mono fun e W' h5=> ?_;obtain⟨v,he,ho,hm⟩:=h5;exact⟨v,he,hm.kept.mono (fun k _ h=>HU.out k h.symm),by simpa using ho⟩
   ·simp[opU,go_sem,haf,factAt,kindT];refine(HWi.out W (hB3.trans hE2)).mono fun e W' h5=> ?_;obtain⟨v,he,ho,hb⟩:=h5;exact⟨v,he,hb,own_base ho hWs⟩
   ·obtain⟨h4,h7,h9⟩:=haf;obtain⟨A4,c4,e4,_,hc4⟩:=Cs.of_own h4;obtain⟨A7,c7,e7',_,hc7⟩:=Cs.of_own h7;simp[opU,go_sem,e4,e7',h9,factAt,kindT];have hb5:Below W.heap.size W (W.alloc (.cells #[.slice A4 18 c4,.slice A7 wn.length c7,.slice S g.s.length sc] 37)):=bAl
    have hlx:(xs++be2 g.tg).length=18:=by rw[List.length_append,lxs];rfl
    refine⟨hb5,some ⟨W.heap.size,0,none⟩,[⟨A4,xs++be2 g.tg,c4⟩,⟨A7,wn,c7⟩,⟨S,g.s,sc⟩],rfl, ?_,rfl, ?_⟩
    ·have:=cs_new W 37 [.slice A4 18 c4,.slice A7 wn.length c7,.slice S g.s.length sc] (0,0);simp only[List.map_cons,List.map_nil,Blob.v,hlx];exact this
    ·intro b hb;rcases List.mem_cons.1 hb with rfl|hb
     ·refine Cs.below (w:=W) ?_ hb5;rw[List.map_append];exact hc4
     ·rcases List.mem_cons.1 hb with rfl|hb
      ·exact Cs.below (w:=W) hc7 hb5
      ·rcases List.mem_cons.1 hb with rfl|hb
       ·exact Cs.below (w:=W) hHS hb5
       ·cases hb
   ·rw[blobs_p]at haf;obtain⟨A9,bs,h1,h2,h3,h4⟩:=haf;simp[opU,go_sem,h1,factAt,kindT];have hbl:bs.length=3:=by have:=congrArg List.length h3;simpa using this
    have hj:join bs=xs++(be2 g.tg++(wn++g.s)):=by rw[join_of h3];simp
    have hcc:=Concat A9 bs 3 W h2 h4 (by omega) (by rw[hj];simp[lxs,lb2];omega);rw[hbl]at hcc;refine hcc.mono fun e W' h5=> ?_;obtain⟨v,he,ho,hb⟩:=h5;refine⟨v,he,hb, ?_⟩;rw[hj]at ho;simpa using own_base ho hWs
  ·intro vals W hE2 hF;have h12:=hF 12 (by show 12 < 13;omega) (by kernel_rfl);simp[relAct,dstAt,Act.put];clear hF;have h13:W.ownsRow w.heap.size 5 1 (vals 12) g.bytes.length (g.bytes.map byteV):=by
    have hbe:g.bytes=(xs++be2 g.tg)++wn++g.s:=by
     rw[←HXS.out,←HWN.out];unfold SigM.bytes;rw[HX0.out]
    rw[hbe];exact own_base h12 (by have:=hB3.size;omega)
   have hb9:=hb1.trans ((hB3.trans hE2).mono (by omega));have H13:=hid h13;clear h12 h13;generalize vals 12=vr at *;go_wp2_with fail;go_ret;exact⟨_,rfl,H13.out,hb9⟩
end Nm
end Go.Proofs.YtmbdoacafhljkaaGreat
