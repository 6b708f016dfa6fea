/- Texts merged by a program: RTyp, Fresh2, Help, HNames, HRec. -/
import Derived.Test.YtmbdoacafhljkaaGreatUh1
import Derived.Test.YtmbdoacafhljkaaGreatUh2
import Derived.Test.YtmbdoacafhljkaaGreatUh11
import Derived.Test.YtmbdoacafhljkaaGreatUh13
import Derived.Test.YtmbdoacafhljkaaGreatUh16
import Derived.Test.YtmbdoacafhljkaaGreatUh18
set_option linter.unusedSimpArgs false
set_option linter.unusedVariables false
set_option maxRecDepth 1000000
set_option maxHeartbeats 20000000
open Go.Proofs.Tryz
namespace Go.Proofs.YtmbdoacafhljkaaGreat
open Go.RowKit
namespace Nm
def TypR(L:List PR)(n:List Lab)(w:World)(l i:Value)(wr:World):Prop:=
 ∃(j:Nat) (ts:List Nat) (Au:Option Addr) (cu:Nat),j≤L.length∧i=.int .i64 (j:Int)∧l=.slice Au ts.length cu∧wr.ownsRow w.heap.size 36 1 (.slice Au ts.length cu) ts.length (ts.map u16V)∧(ts≠[]↔∃x∈L.take j,x.n=lower n)∧Below w.heap.size w wr∧ts.length≤j
theorem RTypes(w:World)(B m:Nat)(S:Nat→Prop)(L:List PR)(h:RZo w B m S L)(hlen:L.length≤1000)(An:Option Addr)(n:List Lab)(cn:Nat)(hAn:Cs w An (n.map strV))(hn:Few n):
 Calls prog 34 #[.pointer (some ⟨m,0,none⟩),.slice An n.length cn] w fun e w'=>Below w.heap.size w w'∧∃A k c,e=.returned (.slice A k c)∧(0 < k↔∃x∈L,x.n=lower n):=by
 obtain⟨i0,hi0,hz0,hz1,hz2⟩:=info_parts info_u16z;obtain⟨Aa,ca,A,c,rs,hm,hap,hrs,hsay,hS⟩:=h.ex;have hll:rs.length=L.length:=by have:=congrArg List.length hsay;simpa using this
 have HRS:=hid (And.intro hrs (And.intro hsay h.good));have HM:=hid hm;have HN:=hid (And.intro hAn hn);obtain⟨_,m1,_⟩:=cells2 hm;have hmw:=lt_block hm;obtain⟨ln,hln⟩:∃ln,rs.length=ln:=⟨_,rfl⟩
 rw[hln]at HRS HM m1 hll;have HLL:Hid (L.length=ln):=hid hll.symm;clear hm hap hrs hsay hS h hAn hn hll hln;go_enter func34,ntmps34;go_wp2_with fail
 go_loopw [5,6] (TypR L n w) (fun _ i _=>L.length - (intOf i).toNat)
 case atStart=>exact⟨0,[],none,0,Nat.zero_le _,rfl,rfl,World.ownsRow_nil _ _ _ _,by simp,Below.refl _ _,Nat.le_refl _⟩
 case round=>
  obtain⟨j,ts,Au,cu,hj,rfl,rfl,hrow,hiff,hbel,htl⟩:=hrel;have HU:=hid (And.intro hrow hiff);have hsr:=hbel.size;have mm1:=(bcl (o:=1) hbel hmw).trans m1;have hml:m < wr.heap.size:=by omega
  clear hrow hiff;by_cases hlt:j < L.length
  ·obtain⟨a,bb,off,rfl,hbb,haok,hacl,hapr,p0,p1,p2,p3,p4⟩:=recAt2 (HRS.out.1.below hbel) HRS.out.2.1 HRS.out.2.2 hlt;have hlt':j < ln:=by have:=HLL.out;omega
   have hltI:(j:Int) < (ln:Int):=by omega
   have HAO:=hid haok;have hnm:a.n=(L[j]).n:=by rw[←hapr];rfl
   have hlow:=(HRS.out.2.2 _ (List.getElem_mem hlt)).low;have HTK:Hid (L.take (j+1)=L.take j++[L[j]]):=hid (by rw[List.take_succ_eq_append_getElem hlt]);have HNM:Hid (a.n=(L[j]).n∧lower (L[j]).n=(L[j]).n):=hid ⟨hnm,hlow⟩;clear haok hacl hapr p2 p3 p4 hnm hlow;cases hsm:same a.n n with
   |false=>
    have HSM:=hid hsm;have HNO:Hid (ts≠[]↔∃x∈L.take (j+1),x.n=lower n):=hid (by
     rw[HU.out.2,HTK.out];constructor
     ·rintro⟨x,hx,e⟩;exact⟨x,List.mem_append_left _ hx,e⟩
     ·rintro⟨x,hx,e⟩;rcases List.mem_append.1 hx with hx|hx
      ·exact⟨x,hx,e⟩
      ·have hxj:x=L[j]:=by simpa using hx
       exfalso;rw[hxj,←HNM.out.1]at e;have h2:=HNM.out.2;rw[←HNM.out.1]at h2;have:same a.n n=true:=(same_iff _ _).2 (h2.trans e);rw[HSM.out]at this;cases this)
    clear hsm;go_wp2_with fail
    refine wp_region_mono mixed0 (by kernel_rfl) [.is (.pointer (some ⟨m,0,none⟩)),.is (.pointer (some ⟨m,0,none⟩)),.is (.pointer (some ⟨m,1,none⟩)),.is (.slice (some ⟨bb,off,none⟩) ln c),.is (.int .i64 (j:Int)),.is (.pointer (some ⟨bb,off+j *5,none⟩)),.is (.pointer (some ⟨bb,off+j *5,none⟩)),.is (.slice a.A a.n.length a.cn),.is (.slice An n.length cn),.is (.bool false),.is (.bool false),.any,.any,.any,.is undef,.any,.any,.any,.any,.any,.any,.any,.any,.any,.any,.any,.any,.any,.any,.any,.any,.is (.bool false)] rfl ?_ ?_
    ·intro i o hio vals W hE haf;have em:=(bcl (o:=1) hE hml).trans mm1;have e0:=(bcl (o:=off+j *5) hE hbb).trans p0;have e1:=(bcl (o:=off+j *5+1) hE hbb).trans p1;rcases i with _|_|_|_|_|_|_|_|_|_|_|_|_|_|_|_|_|_|_|_|_|_|_|_|_|_|_|_|_|_|_|_|i
     all_goals first
      |(exfalso;simp at hio;done)
      |(simp at hio;subst hio;simp[bindD,rdB,Region.binds,factAt]at haf;simp[opU,go_sem,haf,em,e0,e1,Ext.refl,factAt,hltI,hlt',undef];done)
      |skip
     all_goals
      simp at hio;subst hio;simp[bindD,rdB,Region.binds,factAt]at haf
     ·simp[opU,go_sem,haf,em,e0,e1,Ext.refl,factAt,hltI,hlt',undef];refine(RSame a.A An a.n n a.cn cn W (HAO.out.name.below hE) (HN.out.1.below (hbel.trans (hE.mono hsr))) HAO.out.few HN.out.2).mono fun e W' h=>⟨h.2.trans ?_,h.1⟩
      rw[HSM.out]
    ·intro vals W hE hF;simp[facts]at hF;simp[relAct,dstAt,Act.put,hF];clear hF;have hE2:Below wr.heap.size wr W:=hE;have hbW:=hbel.trans (hE2.mono hsr);have HREL:Hid (TypR L n w (.slice Au ts.length cu) (.int .i64 ((j:Int)+1)) W):=hid ⟨j+1,ts,Au,cu,hlt,by go_num,rfl,own_below HU.out.1 hE2,HNO.out,hbW,by omega⟩;clear hE hbW hE2;go_wp2_with fail;exact⟨HREL.out,by simp[intOf];omega⟩
   |true=>
    have HSM:=hid hsm;have HYES:Hid (∃x∈L.take (j+1),x.n=lower n):=hid ⟨L[j],by rw[HTK.out];exact List.mem_append_right _ (List.mem_singleton.2 rfl),by
     have h1:=(same_iff _ _).1 HSM.out;rw[HNM.out.1,HNM.out.2]at h1;exact h1⟩
    clear hsm;by_cases hte:ts=[]
    ·have hts:(ts.length:Int)=0:=by rw[hte];rfl
     clear hte;go_wp2_with fail
     refine wp_region_mono mixed0 (by kernel_rfl) [.is (.pointer (some ⟨m,0,none⟩)),.is (.pointer (some ⟨m,0,none⟩)),.is (.pointer (some ⟨m,1,none⟩)),.is (.slice (some ⟨bb,off,none⟩) ln c),.is (.int .i64 (j:Int)),.is (.pointer (some ⟨bb,off+j *5,none⟩)),.is (.pointer (some ⟨bb,off+j *5,none⟩)),.is (.slice a.A a.n.length a.cn),.is (.slice An n.length cn),.is (.bool true),.is (.bool true),.is (.slice Au ts.length cu),.is (.int .i64 (ts.length:Int)),.is (.bool true),.is (.bool true),.any,.any,.any,.any,.any,.any,.any,.any,.any,.any,.any,.any,.any,.any,.any,.is (.bool true),.is (.bool true)] rfl ?_ ?_
     ·intro i o hio vals W hE haf;have em:=(bcl (o:=1) hE hml).trans mm1;have e0:=(bcl (o:=off+j *5) hE hbb).trans p0;have e1:=(bcl (o:=off+j *5+1) hE hbb).trans p1;rcases i with _|_|_|_|_|_|_|_|_|_|_|_|_|_|_|_|_|_|_|_|_|_|_|_|_|_|_|_|_|_|_|_|i
      all_goals first
       |(exfalso;simp at hio;done)
       |(simp at hio;subst hio;simp[bindD,rdB,Region.binds,factAt]at haf;simp[opU,go_sem,haf,em,e0,e1,Ext.refl,factAt,hltI,hlt',hts];done)
       |skip
      all_goals
       simp at hio;subst hio;simp[bindD,rdB,Region.binds,factAt]at haf
      ·simp[opU,go_sem,haf,em,e0,e1,Ext.refl,factAt,hltI,hlt',hts];refine(RSame a.A An a.n n a.cn cn W (HAO.out.name.below hE) (HN.out.1.below (hbel.trans (hE.mono hsr))) HAO.out.few HN.out.2).mono fun e W' h=>⟨h.2.trans ?_,h.1⟩
       rw[HSM.out]
     ·intro vals W hE hF;simp[facts]at hF;simp[relAct,dstAt,Act.put,hF];clear hF;have hE2:Below wr.heap.size wr W:=hE;have hbW:=hbel.trans (hE2.mono hsr);replace mm1:=(bcl hE2 hml).trans mm1;replace p1:=(bcl hE2 hbb).trans p1;have hrow2:=own_below HU.out.1 hE2;have hszW:=hbW.size;clear hE
      go_wp2_with (first|(at_builtin;refine wpList_push3 hrow2 hszW [.int .u16 (a.t:Int)] rfl (by simp[Value.oneCell']) hi0 hz0 hz1 hz2 rfl (by decide) rfl (.tmp 48) _ 51 underlying51 rfl rfl rfl (by unfold maxLen;omega) (by omega) ?_;intro v4 w6 hown4 hmv4))
      obtain⟨A6,c6,rfl,_⟩:=own_form hown4;have hb6:=hbW.trans (hmv4.below hrow2 hszW);have HREL:Hid (TypR L n w (.slice A6 (ts.length+1) c6) (.int .i64 ((j:Int)+1)) w6):=hid (by
       refine⟨j+1,ts++[a.t],A6,c6,hlt,by go_num,by simp,by rw[List.map_append,List.length_append];exact hown4, ?_,hb6,by simp;omega⟩;constructor
       ·intro _;exact HYES.out
       ·intro _;simp)
      clear hown4 hmv4 hb6 hrow2;go_wp2_with fail;exact⟨HREL.out,by simp[intOf];omega⟩
    ·have hpos:=List.length_pos_iff.2 hte;have hts:¬(ts.length:Int)=0:=by omega
     have hw1:IntKind.i64.wrap ((ts.length:Int) - 1)=((ts.length - 1:Nat):Int):=by rw[IntWalk.i64_in _ (by omega)];omega
     have hlu:ts.length - 1 < ts.length:=by omega
     have hlu2:((ts.length - 1:Nat):Int) < (ts.length:Int):=by omega
     obtain⟨lt,hltq⟩:∃lt,ts[ts.length - 1]=lt:=⟨_,rfl⟩
     obtain⟨bu,ou,rfl,hbu,hlast⟩:=cs_own2 HU.out.1 (ts.length - 1) (u16V lt) (by rw[List.getElem?_map,List.getElem?_eq_getElem hlu,hltq];rfl);have hlast:wr.cell? ⟨bu,ou+(ts.length - 1),none⟩=some (.int .u16 (lt:Int)):=hlast;have HTE:=hid hte;have HYN:Hid (ts≠[]↔∃x∈L.take (j+1),x.n=lower n):=hid ⟨fun _=>HYES.out,fun _=>HTE.out⟩;clear hltq;by_cases hle0:lt=a.t
     ·have hle:(lt:Int)=(a.t:Int):=by omega
      clear hle0;go_wp2_with fail
      refine wp_region_mono mixed0 (by kernel_rfl) [.is (.pointer (some ⟨m,0,none⟩)),.is (.pointer (some ⟨m,0,none⟩)),.is (.pointer (some ⟨m,1,none⟩)),.is (.slice (some ⟨bb,off,none⟩) ln c),.is (.int .i64 (j:Int)),.is (.pointer (some ⟨bb,off+j *5,none⟩)),.is (.pointer (some ⟨bb,off+j *5,none⟩)),.is (.slice a.A a.n.length a.cn),.is (.slice An n.length cn),.is (.bool true),.is (.bool true),.is (.slice (some ⟨bu,ou,none⟩) ts.length cu),.is (.int .i64 (ts.length:Int)),.is (.bool false),.is (.bool false),.is (.slice (some ⟨bu,ou,none⟩) ts.length cu),.is (.slice (some ⟨bu,ou,none⟩) ts.length cu),.is (.int .i64 (ts.length:Int)),.is (.int .i64 (ts.length - 1:Nat)),.is (.pointer (some ⟨bu,ou+(ts.length - 1),none⟩)),.is (.int .u16 (lt:Int)),.is (.pointer (some ⟨m,0,none⟩)),.is (.pointer (some ⟨m,0,none⟩)),.is (.pointer (some ⟨m,1,none⟩)),.is (.slice (some ⟨bb,off,none⟩) ln c),.is (.int .i64 (j:Int)),.is (.pointer (some ⟨bb,off+j *5,none⟩)),.is (.pointer (some ⟨bb,off+j *5+1,none⟩)),.is (.int .u16 (a.t:Int)),.is (.bool false),.is (.bool false),.is (.bool false)] rfl ?_ ?_
      ·intro i o hio vals W hE haf;have em:=(bcl (o:=1) hE hml).trans mm1;have e0:=(bcl (o:=off+j *5) hE hbb).trans p0;have e1:=(bcl (o:=off+j *5+1) hE hbb).trans p1;have eu:=(bcl (o:=ou+(ts.length - 1)) hE hbu).trans hlast;rcases i with _|_|_|_|_|_|_|_|_|_|_|_|_|_|_|_|_|_|_|_|_|_|_|_|_|_|_|_|_|_|_|_|i
       all_goals first
        |(exfalso;simp at hio;done)
        |(simp at hio;subst hio;simp[bindD,rdB,Region.binds,factAt]at haf;simp[opU,go_sem,haf,em,e0,e1,eu,Ext.refl,factAt,hltI,hlt',hts,hw1,hlu,hlu2,hle,hte];done)
        |skip
       all_goals
        simp at hio;subst hio;simp[bindD,rdB,Region.binds,factAt]at haf
       ·simp[opU,go_sem,haf,em,e0,e1,eu,Ext.refl,factAt,hltI,hlt',hts,hw1,hlu,hlu2,hle,hte];refine(RSame a.A An a.n n a.cn cn W (HAO.out.name.below hE) (HN.out.1.below (hbel.trans (hE.mono hsr))) HAO.out.few HN.out.2).mono fun e W' h=>⟨h.2.trans ?_,h.1⟩
        rw[HSM.out]
      ·intro vals W hE hF;simp[facts]at hF;simp[relAct,dstAt,Act.put,hF];clear hF;have hE2:Below wr.heap.size wr W:=hE;have hbW:=hbel.trans (hE2.mono hsr);have HREL:Hid (TypR L n w (.slice (some ⟨bu,ou,none⟩) ts.length cu) (.int .i64 ((j:Int)+1)) W):=hid ⟨j+1,ts,(some ⟨bu,ou,none⟩),cu,hlt,by go_num,rfl,own_below HU.out.1 hE2,HYN.out,hbW,by omega⟩;clear hE hbW hE2;go_wp2_with fail
       exact⟨HREL.out,by simp[intOf];omega⟩
     ·have hle:¬(lt:Int)=(a.t:Int):=by omega
      clear hle0;go_wp2_with fail
      refine wp_region_mono mixed0 (by kernel_rfl) [.is (.pointer (some ⟨m,0,none⟩)),.is (.pointer (some ⟨m,0,none⟩)),.is (.pointer (some ⟨m,1,none⟩)),.is (.slice (some ⟨bb,off,none⟩) ln c),.is (.int .i64 (j:Int)),.is (.pointer (some ⟨bb,off+j *5,none⟩)),.is (.pointer (some ⟨bb,off+j *5,none⟩)),.is (.slice a.A a.n.length a.cn),.is (.slice An n.length cn),.is (.bool true),.is (.bool true),.is (.slice (some ⟨bu,ou,none⟩) ts.length cu),.is (.int .i64 (ts.length:Int)),.is (.bool false),.is (.bool false),.is (.slice (some ⟨bu,ou,none⟩) ts.length cu),.is (.slice (some ⟨bu,ou,none⟩) ts.length cu),.is (.int .i64 (ts.length:Int)),.is (.int .i64 (ts.length - 1:Nat)),.is (.pointer (some ⟨bu,ou+(ts.length - 1),none⟩)),.is (.int .u16 (lt:Int)),.is (.pointer (some ⟨m,0,none⟩)),.is (.pointer (some ⟨m,0,none⟩)),.is (.pointer (some ⟨m,1,none⟩)),.is (.slice (some ⟨bb,off,none⟩) ln c),.is (.int .i64 (j:Int)),.is (.pointer (some ⟨bb,off+j *5,none⟩)),.is (.pointer (some ⟨bb,off+j *5+1,none⟩)),.is (.int .u16 (a.t:Int)),.is (.bool true),.is (.bool true),.is (.bool true)] rfl ?_ ?_
      ·intro i o hio vals W hE haf;have em:=(bcl (o:=1) hE hml).trans mm1;have e0:=(bcl (o:=off+j *5) hE hbb).trans p0;have e1:=(bcl (o:=off+j *5+1) hE hbb).trans p1;have eu:=(bcl (o:=ou+(ts.length - 1)) hE hbu).trans hlast;rcases i with _|_|_|_|_|_|_|_|_|_|_|_|_|_|_|_|_|_|_|_|_|_|_|_|_|_|_|_|_|_|_|_|i
       all_goals first
        |(exfalso;simp at hio;done)
        |(simp at hio;subst hio;simp[bindD,rdB,Region.binds,factAt]at haf;simp[opU,go_sem,haf,em,e0,e1,eu,Ext.refl,factAt,hltI,hlt',hts,hw1,hlu,hlu2,hle,hte];done)
        |skip
       all_goals
        simp at hio;subst hio;simp[bindD,rdB,Region.binds,factAt]at haf
       ·simp[opU,go_sem,haf,em,e0,e1,eu,Ext.refl,factAt,hltI,hlt',hts,hw1,hlu,hlu2,hle,hte];refine(RSame a.A An a.n n a.cn cn W (HAO.out.name.below hE) (HN.out.1.below (hbel.trans (hE.mono hsr))) HAO.out.few HN.out.2).mono fun e W' h=>⟨h.2.trans ?_,h.1⟩
        rw[HSM.out]
      ·intro vals W hE hF;simp[facts]at hF;simp[relAct,dstAt,Act.put,hF];clear hF;have hE2:Below wr.heap.size wr W:=hE;have hbW:=hbel.trans (hE2.mono hsr);replace mm1:=(bcl hE2 hml).trans mm1;replace p1:=(bcl hE2 hbb).trans p1;have hrow2:=own_below HU.out.1 hE2;have hszW:=hbW.size;clear hE
       go_wp2_with (first|(at_builtin;refine wpList_push3 hrow2 hszW [.int .u16 (a.t:Int)] rfl (by simp[Value.oneCell']) hi0 hz0 hz1 hz2 rfl (by decide) rfl (.tmp 48) _ 51 underlying51 rfl rfl rfl (by unfold maxLen;omega) (by omega) ?_;intro v4 w6 hown4 hmv4))
       obtain⟨A6,c6,rfl,_⟩:=own_form hown4;have hb6:=hbW.trans (hmv4.below hrow2 hszW);have HREL:Hid (TypR L n w (.slice A6 (ts.length+1) c6) (.int .i64 ((j:Int)+1)) w6):=hid (by
        refine⟨j+1,ts++[a.t],A6,c6,hlt,by go_num,by simp,by rw[List.map_append,List.length_append];exact hown4, ?_,hb6,by simp;omega⟩;constructor
        ·intro _;exact HYES.out
        ·intro _;simp)
       clear hown4 hmv4 hb6 hrow2;go_wp2_with fail;exact⟨HREL.out,by simp[intOf];omega⟩
  ·have hlt':¬j < ln:=by have:=HLL.out;omega
   have hltI:¬(j:Int) < (ln:Int):=by omega
   have HF:Hid (0 < ts.length↔∃x∈L,x.n=lower n):=hid (by
    have h1:=HU.out.2;rw[List.take_of_length_le (by omega)]at h1;rw[List.length_pos_iff];exact h1)
   go_wp2_with fail;go_ret;refine⟨hbel, ?_⟩
   first
    |exact⟨_,_,_,rfl,HF.out⟩
    |exact⟨_,⟨_,_,rfl⟩,HF.out⟩
    |exact⟨_,HF.out,_,_,rfl⟩
    |exact⟨_,_,⟨_,rfl⟩,HF.out⟩
def NameR(a b:List Lab)(w:World)(i:Value)(wr:World):Prop:=
 ∃k:Nat,k≤a.length∧i=.int .i64 k∧a.take k=b.take k∧Below w.heap.size w wr
theorem HName(A B:Option Addr)(a b:List Lab)(ca cb:Nat)(w:World)(hca:Cs w A (a.map strV))(hcb:Cs w B (b.map strV))(hla:a.length≤1000000)(hlb:b.length≤1000000):
 Calls prog 29 #[.slice A a.length ca,.slice B b.length cb] w fun e w'=>Below w.heap.size w w'∧e=.returned (.bool (decide (a=b))):=by
 have HA:=hid hca;have HB:=hid hcb;clear hca hcb;by_cases hl:a.length=b.length
 ·have hlb2:((a.length:Int) !=(b.length:Int))=false:=by simp[hl]
  have HL:=hid hl;clear hl;go_enter func29,ntmps29;go_wp2_with fail
  go_loopw [5] (NameR a b w) (fun i _=>a.length - (intOf i).toNat)
  case atStart=>exact⟨0,Nat.zero_le _,rfl,rfl,Below.refl _ _⟩
  case round=>
   obtain⟨k,hk,rfl,htk,hbel⟩:=hrel;have HT:=hid htk;clear htk;by_cases hlt:k < a.length
   ·have hlt2:k < b.length:=by have:=HL.out;omega
    obtain⟨ba,oa,rfl,hba,hxa⟩:=Cs.str HA.out hlt;obtain⟨bb,ob,rfl,hbb,hxb⟩:=Cs.str HB.out hlt2;have hxa1:=(hbel.cell (p:=⟨ba,oa+k,none⟩) hba).trans hxa;have hxb1:=(hbel.cell (p:=⟨bb,ob+k,none⟩) hbb).trans hxb;have HN:Hid (∀h:a[k]=b[k],a.take (k+1)=b.take (k+1)):=hid (fun h=>by rw[List.take_succ_eq_append_getElem hlt,List.take_succ_eq_append_getElem hlt2,HT.out,h])
    have HD:Hid (a[k]≠b[k]→a≠b):=hid (fun h e=>h (by subst e;rfl));clear hxa hxb;generalize a[k]=x at *;generalize b[k]=y at *;by_cases hxy:x=y
    ·subst hxy;have HN2:=hid (HN.out rfl);clear HN HD;go_wp2_with fail
     go_region
     go_wp2_with fail;exact⟨⟨k+1,hlt,by go_num,HN2.out,hbel.drew⟩,by simp[intOf];omega⟩
    ·have HD2:=hid (HD.out hxy);have hne:((strB x).toList==(strB y).toList)=false:=by rw[strB_toList,strB_toList,beq_eq_false_iff_ne];exact hxy
     have hne2:((strB x).toList !=(strB y).toList)=true:=by rw[strB_toList,strB_toList,bne_iff_ne];exact hxy
     clear HN HD hxy;go_wp2_with fail
     go_region
     go_wp2_with fail;go_ret;exact⟨hbel.drew,ret_bool (by simp[HD2.out])⟩
   ·have HE:Hid (a=b):=hid (by
     have h1:=HT.out;have h2:=HL.out;rw[List.take_of_length_le (by omega),List.take_of_length_le (by omega)]at h1;exact h1)
    go_wp2_with fail;go_ret;exact⟨hbel,ret_bool (by simp[HE.out])⟩
 ·have hlb2:((a.length:Int) !=(b.length:Int))=true:=by simp;omega
  have HD:Hid (a≠b):=hid (fun e=>hl (by rw[e]));go_enter func29,ntmps29;go_wp2_with fail;go_ret;exact⟨Below.refl _ _,ret_bool (by simp[HD.out])⟩
structure RcB.fit(w:World)(r:RcB):Prop where
 nm:r.nm.ok w
 d:r.d.ok w
 nl:r.nm.l.length≤1000000
 dl:r.d.l.length≤1000000
theorem RcB.fit.below{w w':World}{r:RcB}(h:r.fit w)(hb:Below w.heap.size w w'):r.fit w':=⟨Cs.below (w:=w) h.nm hb,Cs.below (w:=w) h.d hb,h.nl,h.dl⟩
theorem HBytes2(A B:Option Addr)(a b:Lab)(c d:Nat)(w:World)(hA:Cs w A (a.map byteV))(hB:Cs w B (b.map byteV)):
 Calls prog 99 #[.slice A a.length c,.slice B b.length d] w fun e w'=>e=.returned (.bool (decide (a=b)))∧w=w':=by
 have h1:=run_str (P:=prog) w underlying37 underlying5 underlying9 c hA;have h2:=run_str (P:=prog) w underlying37 underlying5 underlying9 d hB;go_enter func99,ntmps99;go_wp2_with fail;go_ret;exact⟨ret_bool (by rw[Bool.eq_iff_iff];simp),rfl⟩
theorem HRecord(a b:RcB)(w:World)(ha:a.fit w)(hb:b.fit w):
 Calls prog 48 #[.agg #[a.nm.v,.int .u16 a.t,.int .u16 1,.int .u32 a.ttl,a.d.v],.agg #[b.nm.v,.int .u16 b.t,.int .u16 1,.int .u32 b.ttl,b.d.v]] w fun e w'=>Below w.heap.size w w'∧e=.returned (.bool (decide (a.says=b.says))):=by
 have b1:Below w.heap.size w (w.alloc (.cells #[a.nm.v,.int .u16 a.t,.int .u16 1,.int .u32 a.ttl,a.d.v] 39)):=bAl;have c1:=heap_alloc_new w (.cells #[a.nm.v,.int .u16 a.t,.int .u16 1,.int .u32 a.ttl,a.d.v] 39);have s1:(w.alloc (.cells #[a.nm.v,.int .u16 a.t,.int .u16 1,.int .u32 a.ttl,a.d.v] 39)).heap.size=w.heap.size+1:=by simp
 have b2:Below (w.alloc (.cells #[a.nm.v,.int .u16 a.t,.int .u16 1,.int .u32 a.ttl,a.d.v] 39)).heap.size (w.alloc (.cells #[a.nm.v,.int .u16 a.t,.int .u16 1,.int .u32 a.ttl,a.d.v] 39)) ((w.alloc (.cells #[a.nm.v,.int .u16 a.t,.int .u16 1,.int .u32 a.ttl,a.d.v] 39)).alloc (.cells #[b.nm.v,.int .u16 b.t,.int .u16 1,.int .u32 b.ttl,b.d.v] 39)):=bAl
 have c2:=heap_alloc_new (w.alloc (.cells #[a.nm.v,.int .u16 a.t,.int .u16 1,.int .u32 a.ttl,a.d.v] 39)) (.cells #[b.nm.v,.int .u16 b.t,.int .u16 1,.int .u32 b.ttl,b.d.v] 39);have c12:=(b2.block _ (lt_block c1)).trans c1;have b12:=b1.trans (b2.mono b1.size);rw[s1]at c2;have HA:=hid (ha.below b12);have HB:=hid (hb.below b12);obtain⟨⟨An,an,acn⟩,at',attl,⟨Ad,ad,acd⟩⟩:=a
 obtain⟨⟨Bn,bn,bcn⟩,bt,bttl,⟨Bd,bd,bcd⟩⟩:=b;have HS:Hid (decide ((⟨⟨An,an,acn⟩,at',attl,⟨Ad,ad,acd⟩⟩:RcB).says=(⟨⟨Bn,bn,bcn⟩,bt,bttl,⟨Bd,bd,bcd⟩⟩:RcB).says)=(decide (an=bn)&&decide (at'=bt)&&decide (attl=bttl)&&decide (ad=bd))):=hid (by
  unfold RcB.says;simp only[Prod.mk.injEq];by_cases h1:an=bn <;> by_cases h2:at'=bt <;> by_cases h3:attl=bttl <;> by_cases h4:ad=bd <;> simp[h1,h2,h3,h4])
 simp only[NmB.v,Blob.v]at *;clear b1 b2 c1 ha hb s1;go_enter func48,ntmps48
 go_upto_region 1 with fail
 generalize((w.alloc (.cells #[.slice An an.length acn,.int .u16 at',.int .u16 1,.int .u32 attl,.slice Ad ad.length acd] 39)).alloc (.cells #[.slice Bn bn.length bcn,.int .u16 bt,.int .u16 1,.int .u32 bttl,.slice Bd bd.length bcd] 39))=w2 at *;obtain⟨a0,a1,a2,a3,a4,_⟩:=cells5 c12;obtain⟨d0,d1,d2,d3,d4,_⟩:=cells5 c2;have hl1:=lt_block c12;have hl2:=lt_block c2
 have hC:=hid (HName An Bn an bn acn bcn w2 HA.out.nm HB.out.nm HA.out.nl HB.out.nl);clear c12 c2;by_cases hn:an=bn
 ·have hd1:decide (an=bn)=true:=decide_eq_true hn;rw[hd1]at hC HS;have HN:=hid hn;clear hn hd1;by_cases ht:at'=bt
  ·have hd1:decide (at'=bt)=true:=decide_eq_true ht;rw[hd1]at HS;subst ht;by_cases hl:attl=bttl
   ·have hd2:decide (attl=bttl)=true:=decide_eq_true hl;rw[hd2]at HS;subst hl;clear hd1 hd2;go_wp2_with fail;refine hC.out.mono ?_;rintro e w3 ⟨hb3,rfl⟩;have b13:=b12.trans (hb3.mono b12.size);have hA3:=HA.out.below hb3;have hB3:=HB.out.below hb3;have HD:=hid (HBytes2 Ad Bd ad bd acd bcd w3 hA3.d hB3.d);replace a1:=(bcl hb3 hl1).trans a1;replace a2:=(bcl hb3 hl1).trans a2
    replace a3:=(bcl hb3 hl1).trans a3;replace a4:=(bcl hb3 hl1).trans a4;replace d1:=(bcl hb3 hl2).trans d1;replace d2:=(bcl hb3 hl2).trans d2;replace d3:=(bcl hb3 hl2).trans d3;replace d4:=(bcl hb3 hl2).trans d4;clear hA3 hB3 hC a0 d0 b12 HA HB;have hbs:=hb3.size;clear hb3;go_wp2_with fail;refine HD.out.mono ?_;rintro e w4 ⟨rfl,rfl⟩;go_wp2_with fail;go_ret;exact⟨b13,by rw[HS.out];simp⟩
   ·have hd2:decide (attl=bttl)=false:=decide_eq_false hl;rw[hd2]at HS;go_wp2_with fail;refine hC.out.mono ?_;rintro e w3 ⟨hb3,rfl⟩;have b13:=b12.trans (hb3.mono b12.size);replace a1:=(bcl hb3 hl1).trans a1;replace a2:=(bcl hb3 hl1).trans a2;replace a3:=(bcl hb3 hl1).trans a3;replace d1:=(bcl hb3 hl2).trans d1;replace d2:=(bcl hb3 hl2).trans d2;replace d3:=(bcl hb3 hl2).trans d3;clear hC
    go_wp2_with fail;go_ret;exact⟨b13,by rw[HS.out];simp⟩
  ·have hd1:decide (at'=bt)=false:=decide_eq_false ht;rw[hd1]at HS;go_wp2_with fail;refine hC.out.mono ?_;rintro e w3 ⟨hb3,rfl⟩;have b13:=b12.trans (hb3.mono b12.size);replace a1:=(bcl hb3 hl1).trans a1;replace d1:=(bcl hb3 hl2).trans d1;clear hC;go_wp2_with fail;go_ret;exact⟨b13,by rw[HS.out];simp⟩
 ·have hd1:decide (an=bn)=false:=decide_eq_false hn;rw[hd1]at hC HS;go_wp2_with fail;refine hC.out.mono ?_;rintro e w3 ⟨hb3,rfl⟩;have b13:=b12.trans (hb3.mono b12.size);clear hC;go_wp2_with fail;go_ret;exact⟨b13,by rw[HS.out];simp⟩
end Nm
end Go.Proofs.YtmbdoacafhljkaaGreat
