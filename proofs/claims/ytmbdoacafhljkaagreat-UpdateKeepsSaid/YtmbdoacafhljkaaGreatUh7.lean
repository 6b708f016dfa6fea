/- Texts merged by a program: Rng, NamesG, Types, KeysG, InsT, TypesG, Gz2, Msg, ZSet, ZSetG. -/
import Derived.RangeFuncBox
import Derived.RangeFuncLeaves
import Derived.Shelf.Abstract
import Derived.WalkKit
import Derived.OwnWalkIn
import Derived.TacticsInMore
import Derived.LoopNIn
import Derived.LoopIn
import Derived.RegionIn
import Derived.Maps.AppendAt
import Derived.Sort.MapsRangeIn
import Derived.RangeFuncSeq
import Derived.Test.YtmbdoacafhljkaaGreatUh1
import Derived.Test.YtmbdoacafhljkaaGreatUh2
import Derived.Test.YtmbdoacafhljkaaGreatUh4
import Derived.Test.YtmbdoacafhljkaaGreatUh5
import Derived.Test.YtmbdoacafhljkaaGreatUh6
set_option linter.unusedSimpArgs false
set_option linter.unusedVariables false
set_option maxRecDepth 1000000
set_option maxHeartbeats 20000000
open Go.Proofs.Tryz
namespace Go.Proofs.YtmbdoacafhljkaaGreat
open Go.RowKit
namespace Nm
def LeftOf(left:Lit→Bool)(R:List Lit):Prop:=∀k,left k=true↔k∈R
theorem LeftOf.start{D:DataW Unit}{es:List (Lit×DataW Unit)}(h:Ents D es)(hk:∀p∈es,WideAt.IsKeyLit p.1):LeftOf (Maps.has D) (es.map (·.1)):=by
 intro k;obtain⟨l,rfl,hp⟩:=h;rw[Maps.has_eq,List.any_eq_true];constructor
 ·rintro⟨p,hpm,e⟩;have:=WideAt.sameKey_eq e;exact List.mem_map.2 ⟨p,hp.mem_iff.1 hpm,this⟩
 ·intro hm;obtain⟨p,hpm,rfl⟩:=List.mem_map.1 hm;exact⟨p,hp.mem_iff.2 hpm,sameKey_self (hk p hpm)⟩
theorem LeftOf.strike{left:Lit→Bool}{A B:List Lit}{kl:Lit}(h:LeftOf left (A++kl::B))(hn:(A++kl::B).Nodup)(hk:∀k∈A++kl::B,WideAt.IsKeyLit k):LeftOf (fun z=>left z&& !z.sameKey kl) (A++B):=by
 intro k;have hnd:=hn;rw[List.nodup_append]at hnd;obtain⟨h1,h2,h3⟩:=hnd;rw[List.nodup_cons]at h2;simp only[Bool.and_eq_true,Bool.not_eq_true'];rw[h k];constructor
 ·rintro⟨hm,e⟩;rcases List.mem_append.1 hm with hm|hm
  ·exact List.mem_append.2 (.inl hm)
  ·rcases List.mem_cons.1 hm with rfl|hm
   ·rw[sameKey_self (hk k (by simp))]at e;cases e
   ·exact List.mem_append.2 (.inr hm)
 ·intro hm;have hne:k≠kl:=by
   rintro rfl;rcases List.mem_append.1 hm with hm|hm
   ·exact h3 k hm k (by simp) rfl
   ·exact h2.1 hm
  refine⟨?_,Maps.sameKey_ne hne⟩;rcases List.mem_append.1 hm with hm|hm
  ·exact List.mem_append.2 (.inl hm)
  ·exact List.mem_append.2 (.inr (List.mem_cons_of_mem _ hm))
theorem LeftOf.none{left:Lit→Bool}{R:List Lit}(h:LeftOf left R)(hn:∀k,left k=false):R=[]:=by
 cases R with
 |nil=>rfl
 |cons k R=>
  have:=(h k).2 (by simp);rw[hn k]at this;cases this
structure Rng{α:Type}(key:α→Lit)(L V R:List α)(left:Lit→Bool):Prop where
 perm:(V++R).Perm L
 left:LeftOf left (R.map key)
 nd:((V++R).map key).Nodup
 kl:∀a∈L,WideAt.IsKeyLit (key a)
theorem Rng.start{α:Type}{key:α→Lit}{L:List α}{D:DataW Unit}{f:α→Lit×DataW Unit}(hf:∀a,(f a).1=key a)(h:Ents D (L.map f))(ha:KApart (L.map f))(hk:∀a∈L,WideAt.IsKeyLit (key a)):Rng key L [] L (Maps.has D):=by
 refine⟨List.Perm.refl _, ?_, ?_,hk⟩
 ·have h1:=LeftOf.start h (fun p hp=>by obtain⟨a,ha,rfl⟩:=List.mem_map.1 hp;rw[hf];exact hk a ha);rw[List.map_map]at h1;have:L.map ((fun x=>x.1) ∘ f)=L.map key:=List.map_congr_left fun a _=>hf a;rw[this]at h1;exact h1
 ·unfold KApart at ha;rw[List.pairwise_map]at ha;show(L.map key).Pairwise (· ≠·);rw[List.pairwise_map];exact ha.imp (fun h=>by rw[←hf,←hf];exact h)
theorem Rng.step{α:Type}{key:α→Lit}{L V R:List α}{left:Lit→Bool}(h:Rng key L V R left){kl:Lit}(hl:left kl=true):∃a∈L,key a=kl∧∃R',Rng key L (V++[a]) R' (fun z=>left z&& !z.sameKey kl)∧R'.length+1=R.length:=by
 obtain⟨a,ha,rfl⟩:=List.mem_map.1 ((h.left kl).1 hl);obtain⟨R1,R2,rfl⟩:=List.append_of_mem ha;have hin:a∈L:=h.perm.mem_iff.1 (by simp);have hnR:((R1++a::R2).map key).Nodup:=by
  have:=h.nd;rw[List.map_append,List.nodup_append]at this;exact this.2.1
 have hp:(V++[a]++(R1++R2)).Perm (V++(R1++a::R2)):=by
  rw[List.append_assoc];exact List.Perm.append_left V (by
   show(a::(R1++R2)).Perm _;exact(List.perm_middle).symm)
 refine⟨a,hin,rfl,R1++R2,⟨hp.trans h.perm, ?_,((hp.map key).nodup_iff).2 h.nd,h.kl⟩,by simp;omega⟩;have h1:=h.left;rw[List.map_append,List.map_cons]at h1 hnR;rw[List.map_append];refine h1.strike hnR (fun k hk=> ?_);have:k∈(R1++a::R2).map key:=by rw[List.map_append,List.map_cons];exact hk
 obtain⟨b,hb,rfl⟩:=List.mem_map.1 this;exact h.kl b (h.perm.mem_iff.1 (List.mem_append.2 (.inr hb)))
theorem Rng.done{α:Type}{key:α→Lit}{L V R:List α}{left:Lit→Bool}(h:Rng key L V R left)(hn:∀k,left k=false):V.Perm L:=by
 have:R.map key=[]:=h.left.none hn;have hR:R=[]:=List.map_eq_nil_iff.1 this;have:=h.perm;rw[hR,List.append_nil]at this;exact this
def keyP(p:Nq):Lit:=.string (zkey p.n)
theorem elem_of{D:DataW Unit}{P:List Nq}(hE:Ents D (P.map Nq.ent))(ha:KApart (P.map Nq.ent)){p:Nq}(hp:p∈P){c:Option Nat}{y:DataW Unit×List MemPlace}(hR:ptrR (ptrV c)=some y)(hat:∀zd,D.atKey (keyP p) zd=y.1):c=some p.x:=by
 have h1:=hat .nil;have h0:D.atKey (keyP p) .nil=.lit (.int .i64 (p.x:Int)):=hE.at_mem ha (key_lit _) (List.mem_map.2 ⟨p,hp,rfl⟩) _;rw[h0]at h1;obtain⟨y1,y2⟩:=y;simp only at h1;subst h1;have h2:=ptr_of (o:=some p.x) hR;cases c with
 |none=>cases h2
 |some b=>cases h2;rfl
theorem Kept.grown{w w':World}{v:Value}(h:Kept (fun b=>some b=v.ownBlock) w w'):w.grownBy w' v.ownBlock:=⟨h.os,h.tape,h.output,h.size,fun k hk hne=>h.block k hk (fun e=>hne e)⟩
def NmB.own(w:World)(B:Nat)(b:NmB):Prop:=w.ownsRow B 9 1 b.v b.l.length (b.l.map strV)
def NamesR(bn N:Nat)(D:DataW Unit)(P:List Nq)(w0:World)(v:Value)(wr:World):Prop:=
 ∃(left:Lit→Bool) (cnt:Nat) (V R:List Nq) (bs:List NmB),wr.ranges prog 9 ptrR bn w0.heap.size N D left cnt∧Rng keyP P V R left∧bs.map (·.l)=V.map (·.n)∧
  wr.ownsRow (w0.heap.size+1) 28 1 v bs.length (bs.map NmB.v)∧(∀y∈bs,y.own wr (w0.heap.size+1))∧Below w0.heap.size w0 wr∧w0.heap.size+1≤wr.heap.size
theorem row_type{w w':World}{B B':Nat}{e e':TypeId}{size size':Nat}{u v:Value}{n m:Nat}{xs ys:List Value}(h:w.ownsRow B e size u n xs)(h2:w.ownsRow B' e' size' v m ys)(he:e≠e')(hk:Kept (fun b=>some b=v.ownBlock) w w'):w'.ownsRow B e size u n xs:=by
 refine Kept.row h hk fun k hkb e1=> ?_;obtain⟨cs,g1,_⟩:=row_block h hkb;obtain⟨cs2,g2,_⟩:=row_block h2 e1.symm;rw[g1]at g2;cases g2;exact he rfl
theorem row_iter{w w':World}{r B:Nat}{e:TypeId}{size:Nat}{v:Value}{n:Nat}{xs:List Value}(h:w.ownsRow B e size v n xs)(hB:r < B)(hg:w.grownBy w' (some r)):w'.ownsRow B e size v n xs:=
 Kept.row h (Kept.of_grown hg) (fun k hk e=>by have:=(h.lt k hk).1;injection e with e;omega)
theorem ZNamesG(w:World)(B z bn bb:Nat)(ap:List Lab)(P:List Nq)(Q:List Sq)(N:Nat)(h:ZG w B z bn bb ap P Q N)(hw:Wf ap P Q)(hPl:P.length≤100000):
 Calls prog 19 #[.pointer (some ⟨z,0,none⟩)] w fun e w'=>Below w.heap.size w w'∧∃v,∃ns:List NmB,e=.returned v∧w'.ownsRow w.heap.size 28 1 v ns.length (ns.map NmB.v)∧(ns.map (·.l)).Perm (P.map (·.n))∧
  ns.Pairwise (fun a b=>¬cmpN b.l a.l < 0)∧∀y∈ns,y.own w' w.heap.size:=by
 obtain⟨i0,hi,hz0,hz1,hz2⟩:=info_parts info_name;obtain⟨D,hzn,hE⟩:=h.zn;obtain⟨Aa,ca,hzb,hza⟩:=hzn.blk;obtain⟨z0,z1,z2,z3,_⟩:=cells4 hzb;have hzl:=lt_block hzb;have hM:=hzn.nodes;have hml:=hM.lt
 have HND:Hid (∀p∈P,∃A c,w.heap[p.x]? =some (.cells #[.slice A p.n.length c,.map (some p.bs)] 112 (0,0))∧w.ownsRow B 9 1 (.slice A p.n.length c) p.n.length (p.n.map strV)∧p.n.length≤1000∧Few p.n):=hid fun p hp=>by
  obtain⟨D2,h3,_⟩:=h.nd p hp;obtain⟨A,c,g1,g2⟩:=h3.node;rw[(hw.ok p hp).low]at g2;exact⟨A,c,g1,g2,(hw.ok p hp).small.1,(hw.ok p hp).small.few⟩
 have HEL:Hid (∀p∈P,∀(c:Option Nat) (y:DataW Unit×List MemPlace),ptrR (ptrV c)=some y→(∀zd,D.atKey (keyP p) zd=y.1)→c=some p.x):=hid fun p hp c y hR hat=>elem_of hE hw.apartP hp hR hat;have HST:Hid (Rng keyP P [] P (Maps.has D)):=hid (Rng.start (key:=keyP) (fun _=>rfl) hE hw.apartP (fun a _=>key_lit _));clear h hw hzb hza hzn hE;go_enter func19,ntmps19
 go_wp2_with (first|(at_range;refine wpList_range_own _ rfl _ 100 rfl 9 109 keyS underlying100 ptrR bn N _ rfl hM ?_;intro w0 hrg0 hg0 hs0))
 go_frame
 have hb0:Below w.heap.size w w0:=⟨hg0.os,hg0.tape,hg0.output,hg0.size,fun k hk=>hg0.block k hk (by simp)⟩
 have HRG:=hid hrg0;clear hrg0
 go_loopw [3] (NamesR bn N D P w) (fun _ wr=>wr.rangeLeft bn w.heap.size)
 case atStart=>
  exact⟨_,_,[],P,[],HRG.out,HST.out,rfl,World.ownsRow_nil _ _ _ _,fun y hy=>(by cases hy),hb0,by omega⟩
 case round=>
  obtain⟨left,cnt,V,R,bs,hrg,hcs,hbs,hown,hok,hbel,hsz⟩:=hrel;obtain⟨A,c,rfl,_⟩:=own_form hown;have HBS:=hid hbs;have HOK:=hid hok;have hbl:bs.length≤100000:=by
   have e1:=congrArg List.length hbs;have e2:=hcs.perm.length_eq;simp at e1 e2;omega
  clear hbs hok
  go_wp2_with (first|(at_next;refine wpList_next_ranges _ rfl _ rfl 9 keyS ptrR Value.string ptrV keyS_inv ptrV_inv bn w.heap.size N _ _ _ rfl hrg ?_ ?_))
  ·intro hc0 hl0;have HP:=hid (hcs.done hl0);by_cases hz:bs=[]
   ·subst hz;go_wp2_with fail;refine(SortNG0 A c wr).mono ?_;rintro e w5 ⟨rfl,rfl⟩;go_wp2_with fail;go_ret;refine⟨hbel,_,rfl,[],own_base hown (by omega), ?_,List.Pairwise.nil,fun y hy=>(by cases hy)⟩;have e1:V.map (·.n)=[]:=HBS.out.symm;have:=(HP.out.map (·.n)).symm;rw[e1]at this;exact this.symm
   ·have hpos:=List.length_pos_iff.2 hz;obtain⟨g,cap,cur,hv,hg,hh,hn,hcap,hszc,htk⟩:=hown.2.resolve_left (fun h=>by have:=h.2;omega);cases hv;have hrow:RowN wr g bs:=by
     intro i b hb;have hi:i < bs.length:=(List.getElem?_eq_some_iff.1 hb).1;refine⟨?_,by simp[World.frozen?,hh]⟩;rw[cell_of_row _ _ _ _ _ _ hh];have h3:(cur.toList.take (bs.length *1))[i]? =(bs.map NmB.v)[i]?:=by rw[htk]
     rw[List.getElem?_take,if_pos (by omega),List.getElem?_map,hb]at h3;simpa using h3
    have hstr:∀b∈bs,∀k,b.v.ownBlock=some k→k≠g:=fun b hb k hk e=>by
     obtain⟨cs,g1,_⟩:=row_block (HOK.out b hb) hk;exact ne_cells g1 hh (by decide) e
    have hS:=SortNG g c bs wr hrow (lt_block hh) (fun b hb=>(cs_own (HOK.out b hb)).2) (fun b hb a ha hx=>by
     have ho:=HOK.out b hb;rcases ho.2 with⟨h1,h2⟩|⟨g2,c2,cu2,h1,h2,_⟩
     ·exfalso;apply hx;have:=List.length_eq_zero_iff.1 h2;rw[this];rfl
     ·obtain⟨bA,bl,bc⟩:=b;unfold NmB.v at h1;simp only at ha;cases h1;cases ha;exact hstr _ hb g2 rfl) (fun b hb=>by
     have:b.l∈bs.map (·.l):=List.mem_map.2 ⟨b,hb,rfl⟩;rw[HBS.out]at this;obtain⟨p,hp,e⟩:=List.mem_map.1 this;rw[←e];exact(HND.out p (HP.out.mem_iff.1 hp)).choose_spec.choose_spec.2.2.2) (by omega) hz
    have HS:=hid hS;have HH:=hid hh;have HST2:=hid hstr;have hcur:cur.size=c *1:=hszc;clear hS hrow hown htk hrg hh hstr;go_wp2_with fail;refine HS.out.mono ?_;rintro e w5 ⟨rfl,hk5,cs,hp5,hs5,hr5,hsh5⟩;obtain⟨cur5,hh5,hcs5⟩:=hsh5 _ _ _ HH.out;have hbw5:=hbel.trans (hk5.below hbel.size (fun k hk e=>by omega));have hlen:=hp5.length_eq
    have hrow5:w5.ownsRow w.heap.size 28 1 (.slice (some ⟨g,0,none⟩) bs.length c) cs.length (cs.map NmB.v):=by
     rw[hlen];refine⟨by simp[hlen],.inr ⟨g,c,cur5,rfl,by omega,hh5,hn,hcap,by omega, ?_⟩⟩;apply List.ext_getElem?;intro i;rw[List.getElem?_take];split
     ·rename_i hi;have hic:i < cs.length:=by omega
      obtain⟨q1,_⟩:=hr5 i _ (List.getElem?_eq_getElem hic);rw[cell_of_row _ _ _ _ _ _ hh5]at q1;rw[List.getElem?_map,List.getElem?_eq_getElem hic];simpa using q1
     ·rw[List.getElem?_eq_none (by simp;omega)]
    have HR5:=hid hrow5;clear hrow5 hr5 hsh5 hh5;go_wp2_with fail;go_ret;refine⟨hbw5,_,rfl,cs,HR5.out, ?_,hs5,fun y hy=> ?_⟩
    ·have h6:=hp5.map (·.l);rw[HBS.out]at h6;exact h6.trans (HP.out.map _)
    ·have hyb:=hp5.mem_iff.1 hy;exact own_base (Kept.row (HOK.out y hyb) hk5 (fun k hk e=>HST2.out y hyb k hk e)) (by omega)
  ·intro kk cc kl ya yb w1 cnt1 hkey hlk hR hat hrg1 hlt hg1 hs1 hen;obtain⟨p,hp,hkp,R',hst2,hlen⟩:=hcs.step hlk;have hc:=HEL.out p hp cc (ya,yb) hR (fun zd=>by rw[hkp];exact hat zd);subst hc;have hb1:Below w.heap.size w w1:=hbel.trans ⟨hg1.os,hg1.tape,hg1.output,by omega,fun k hk=>hg1.block k (by omega) (by intro e;cases e;omega)⟩;obtain⟨Ap,cp,hpb,hpr,hpl,hpf⟩:=HND.out p hp
   have hx:=(hb1.block p.x (lt_block hpb)).trans hpb;obtain⟨x0,_,_⟩:=cells2 hx;have hxr:=own_below hpr hb1;have hown1:w1.ownsRow (w.heap.size+1) 28 1 (.slice A bs.length c) bs.length (bs.map NmB.v):=row_iter hown (by omega) hg1;have HOK1:Hid (∀y∈bs,y.own w1 (w.heap.size+1)):=hid fun y hy=>row_iter (HOK.out y hy) (by omega) hg1
   have hen2:(Instr.entry (.pointer (some ⟨w.heap.size,0,none⟩))).run prog w1=.ok (.tuple #[.string kk,.pointer (some ⟨p.x,0,none⟩)]) w1:=hen;have HC:=hid (CloneN Ap p.n cp w1 (cs_own hxr).2 (by omega));have HRG1:=hid hrg1;have HRGo:=hid hrg;have HST1:=hid hst2;have HPX:=hid hpb;clear hrg1 hen hR hat hlk hkey hxr hx hrg hown hcs hpb hpr hst2 hpf;go_wp2_with fail
   refine HC.out.mono ?_;rintro e w2 ⟨v2,rfl,hown2,hb2⟩;obtain⟨A2,c2,rfl,_⟩:=own_form hown2;have hb12:=hb1.trans (hb2.mono hb1.size);have hs2:w.heap.size+1≤w2.heap.size:=by have:=hb2.size;omega
   have ho2:=own_below hown1 hb2
   go_wp2_with (first|(at_builtin;refine wpList_push3 ho2 hs2 [.slice A2 p.n.length c2] rfl (by simp[Value.oneCell']) hi hz0 hz1 hz2 rfl (by decide) rfl (.tmp 15) _ 46 underlying46 rfl rfl rfl (by unfold maxLen;omega) (by omega) ?_;intro v4 w4 hown4 hmv4))
   have hb24:Below (w.heap.size+1) w2 w4:=hmv4.below ho2 hs2;have hb14:Below w.heap.size w w4:=hb12.trans ⟨hb24.os,hb24.tape,hb24.output,hb24.size,fun k hk=>hb24.block k (by omega)⟩;have hs4:w.heap.size+1≤w4.heap.size:=Nat.le_trans hs2 hb24.size;have hvb:∀k,(Value.slice A bs.length c).ownBlock=some k→w.heap.size+1≤k:=fun k hk=>(ho2.lt k hk).1
   have hrg2:=HRG1.out.kept (row:=none) (w':=w2) ⟨hb2.os,hb2.tape,hb2.output,hb2.size,fun k hk _=>hb2.block k hk⟩ (by simp) (by simp);have hrg4:=hrg2.kept (Kept.grown hmv4.kept) (fun e=>by have:=hvb _ e.symm;omega) (fun e=>by have:=hvb _ e.symm;omega);have hn4:(NmB.mk A2 p.n c2).own w4 (w.heap.size+1):=row_type (own_base hown2 (by omega)) ho2 (by decide) hmv4.kept
   have hok4:∀y∈bs++[⟨A2,p.n,c2⟩],y.own w4 (w.heap.size+1):=fun y hy=>by
    rcases List.mem_append.1 hy with hy|hy
    ·exact row_type (own_below (HOK1.out y hy) hb2) ho2 (by decide) hmv4.kept
    ·rcases List.mem_cons.1 hy with rfl|hy
     ·exact hn4
     ·cases hy
   have HO4:=hid (And.intro hown4 hok4);have hrl:w4.rangeLeft bn w.heap.size < wr.rangeLeft bn w.heap.size:=by
    rw[hrg4.left_eq,HRGo.out.left_eq];exact hlt
   clear hown4 hok4 hn4 ho2 hown2 hb24 hmv4 hown1 hrg2;go_wp2_with fail
   go_roundw
   case rel=>
    refine⟨_,cnt1,_,_,bs++[⟨A2,p.n,c2⟩],hrg4,HST1.out, ?_, ?_,HO4.out.2,hb14,hs4⟩
    ·rw[List.map_append,List.map_append,HBS.out];rfl
    ·have:=HO4.out.1;rw[List.length_append,List.map_append];exact this
   case measure=>exact hrl
end Nm
open Go.Maps Go.Sort Go.Shelf Go.Proofs
attribute [local go_sem] Oper.semAt_some
namespace Nm
theorem keyT_inv(key:Value)(kl:Lit)(h:keyOf prog 36 key=some kl):∃x:Int,key=.int .u16 x:=by
 obtain⟨x,h,_⟩:=Maps.keyOf_int_inv underlying36 h;exact⟨x,h⟩
theorem info_u16:(prog.info? 36).map (fun i=>(i.zero,i.size,i.bytes))=some (some (.int .u16 0),1,2):=by kernel_rfl
theorem KeysT(b:Nat)(w:World):Calls prog 70 #[.map (some b)] w fun e w'=>e=.returned (.func (.func 121) #[] #[.pointer (some ⟨w.heap.size,0,none⟩)])∧w'=w.alloc (.cells #[.map (some b)] 110):=by
 go_enter func70,ntmps70;go_wp2_with fail;go_ret;exact⟨rfl,rfl⟩
end Nm
end Go.Proofs.YtmbdoacafhljkaaGreat
namespace Go.Proofs.YtmbdoacafhljkaaGreat
open Go.RowKit Go.Maps Go.Sort Go.Shelf Go.Proofs
attribute [local go_sem] Oper.semAt_some
namespace Nm
def key16(t:Int):Lit:=.int .u16 t
theorem keysG_in(F:Fence)(n:Nat)(hf:F.fn 121)(hro:F.round=none)(hn:1≤n)(l Bm b nn:Nat)(D:DataW Unit)(ts:List Int)(hst:Rng key16 ts [] ts (Maps.has D))(hsz:Maps.size D=ts.length)(J Jx:List Int→World→Prop)
 (hY:∀pre x W,J pre W→pre.length < ts.length→YieldAt F (n - 1) prog l #[.int .u16 x] W fun e W'=>(e=.returned (.bool true)∧J (pre++[x]) W'∧KeepsWalks W W')∨(e=.returned (.bool false)∧Jx (pre++[x]) W'))
 (W:World) (hJ:AbidesFrom W.heap.size J) (hm:W.cell? ⟨Bm,0,none⟩=some (.map (some b))) (hown:W.ownsMap prog 36 ptrR b nn D) (h0:J [] W):
 CallsIn F n prog 121 #[.func (.yield l) #[] #[],.pointer (some ⟨Bm,0,none⟩)] W fun e W'=>(∃v,e=.returned v)∧((∃ss:List Int,ss.Perm ts∧J ss W')∨(∃pre:List Int,pre.length≤ts.length∧Jx pre W')):=by
 refine callsIn_of_wp func121 rfl hf ?_ hro;simp only[ntmps121,List.size_toArray,List.length_cons,List.length_nil,Nat.reduceAdd,Nat.reduceSub,Array.replicate_succ,Array.replicate_zero,List.push_toArray,List.append_toArray,List.nil_append,List.cons_append]
 gi_wp2_with (first
  |(gi_at_range;refine wpListIn_range_own _ rfl _ 110 rfl 36 115 keyT underlying110 ptrR b nn _ rfl hown ?_;intro w0 hrg0 hg0 hs0)
  |gi_in)
 go_frame
 gi_loopw [3] (fun _ wr=>∃(left:Lit→Bool) (cnt:Nat) (ss R:List Int),wr.ranges prog 36 ptrR b W.heap.size nn D left cnt∧Rng key16 ts ss R left∧J ss wr)
  (fun _ wr=>wr.rangeLeft b W.heap.size)
 case atStart=>
  exact⟨_,_,[],ts,hrg0,hst,hJ [] W w0 none h0 hg0 (fun r e=>by cases e)⟩
 case round=>
  obtain⟨left,cnt,ss,R,hrg,hcs,hJs⟩:=hrel
  gi_wp2_with (first
   |(gi_at_next;refine wpListIn_next_ranges _ rfl _ rfl 36 keyT ptrR (fun x:Int=>Value.int .u16 x) ptrV keyT_inv ptrV_inv b W.heap.size nn _ _ _ rfl hrg ?_ ?_)
   |gi_in)
  ·intro hc0 hl0
   gi_wp2
   go_end0
   exact⟨⟨_,rfl⟩,.inl ⟨ss,hcs.done hl0,hJs⟩⟩
  ·intro x c kl yd yp w2 cnt2 hkey hlk hv hat hrg2 hlt hg2 hs2 hen;obtain⟨t,htm,hkt,R',hst2,hlen⟩:=hcs.step hlk;have hpl:ss.length < ts.length:=by
    have:=hcs.perm.length_eq;rw[List.length_append]at this;omega
   obtain⟨x',ex,e2,_⟩:=Maps.keyOf_int_inv underlying36 hkey;have hxt:x=t:=by
    cases ex;rw[←hkt]at e2;unfold key16 at e2;injection e2 with _ e2;exact e2.symm
   subst hxt;have hJ2:J ss w2:=hJ ss wr w2 (some W.heap.size) hJs hg2 (fun r e=>by cases e;exact⟨Nat.le_refl _,hrg.iter_walk⟩);obtain⟨fn,tmps,assign,body,hy,hR⟩:=hY ss x w2 hJ2 hpl;clear hs2
   gi_wp2
   refine hR.mono ?_;rintro e W3 (⟨rfl,hJ3,hk3⟩|⟨rfl,hJx3⟩)
   ·gi_wp2
    have hrg3:=hrg2.of_walks hk3
    go_roundw
    case rel=>exact⟨_,cnt2,_,_,hrg3,hst2,hJ3⟩
    case measure=>rw[hrg3.left_eq,hrg.left_eq];exact hlt
   ·gi_wp2
    refine bodyPost_ret (results_none rfl _ _ _) rfl ?_;exact⟨⟨_,rfl⟩,.inr ⟨_,by simp;omega,hJx3⟩⟩
theorem keysG_stops(F:Fence)(n:Nat)(hf:F.fn 121)(hro:F.round=none)(hn:1≤n)(Bm b nn:Nat)(D:DataW Unit)(ts:List Int)(hst:Rng key16 ts [] ts (Maps.has D))(hsz:Maps.size D=ts.length)(w:World)(hBm:Bm < w.heap.size)
 (hm:w.cell? ⟨Bm,0,none⟩=some (.map (some b))) (hown:w.ownsMap prog 36 ptrR b nn D):
 SeqStopsK F n prog 121 #[.pointer (some ⟨Bm,0,none⟩)] (fun x:Int=> #[Value.int .u16 x]) KeepsWalks (fun ys=>ys.Perm ts) (fun pre=>pre.length≤ts.length) ts.length w:=fun l J Jx W hW hJ _ hY h0=>
 keysG_in F n hf hro hn l Bm b nn D ts hst hsz J Jx hY W hJ ((hW.cell (p:=⟨Bm,0,none⟩) hBm).trans hm) (ownsMap_block hown (hW.block b hown.lt)) h0
theorem AppendSeqG(Bm b nn:Nat)(D:DataW Unit)(ts:List Int)(hst:Rng key16 ts [] ts (Maps.has D))(hsz:Maps.size D=ts.length)(w:World)(hBm:Bm < w.heap.size)(hm:w.cell? ⟨Bm,0,none⟩=some (.map (some b)))(hown:w.ownsMap prog 36 ptrR b nn D)(hlen:ts.length≤1000000):
 Calls prog 168 #[.slice none 0 0,.func (.func 121) #[] #[.pointer (some ⟨Bm,0,none⟩)]] w fun e W'=>∃v ss,e=.returned v∧ss.Perm ts∧W'.ownsRow w.heap.size 36 1 v ss.length (ss.map (Value.int .u16))∧(v=.slice none 0 0↔ss=[])∧Below w.heap.size w W':=by
 refine(callsIn_wide (n:=6)).1 ?_;obtain⟨i0,hi,hz0,hz1,hz2⟩:=info_parts info_u16;refine callsIn_of_wp_marks func168 rfl trivial ?_ rfl;simp only[ntmps168,List.size_toArray,List.length_cons,List.length_nil,Nat.reduceAdd,Nat.reduceSub,Array.replicate_succ,Array.replicate_zero,List.push_toArray,List.append_toArray,List.nil_append,List.cons_append]
 gi_wp2
 have bO:=Boxed.new w 51 (.slice none 0 0);have hB0:Below w.heap.size w (w.alloc (.cells #[.slice none 0 0] 51)):=(Below.refl _ w).alloc (Nat.le_refl _) _;refine wpIn_rangeFunc_ownG rfl (by omega) (gf:=121) (lb:= #[.pointer (some ⟨Bm,0,none⟩)]) rfl trivial (enters_of func121 (by kernel_rfl) rfl)
  (keysG_stops Fence.wide (6 - 1) trivial rfl (by omega) Bm b nn D ts hst hsz w hBm hm hown) walksK_t walksK_b hB0 (fun _=>rfl)
  (fun pre W=>(∃v,Boxed W w.heap.size 51 v∧W.ownsRow w.heap.size 36 1 v pre.length (pre.map (Value.int .u16))∧(v=.slice none 0 0↔pre=[]))∧Below w.heap.size w W)
  (fun _ _ _=>False)
  (OwnFrom.and (Own.from (holdsRow_own w.heap.size w.heap.size 51 36 1 (fun pre=>pre.length) (fun pre=>pre.map (Value.int .u16)) (fun pre v=>v=.slice none 0 0↔pre=[])) _) (ownFrom_below (Nat.le_refl _) (by simp)))
  (fun _ _ _ _ _ hs _ _=>hs)
  ⟨⟨_,bO,World.ownsRow_nil _ _ _ _,by simp⟩,hB0⟩
  (fun x=>{tmps:= #[.slice none 0 0,.func (.func 121) #[] #[.pointer (some ⟨Bm,0,none⟩)],.pointer (some ⟨w.heap.size,0,none⟩),undef,.slice none 0 0,.int .u16 x,.func (.func 121) #[] #[.pointer (some ⟨Bm,0,none⟩)],.int .u16 x,undef,undef,undef,undef,undef],defers:=[]}) ?assign ?body ?done ?stop
 case assign=>
  intro l x W K hK
  gi_wp2
  exact hK
 case body=>
  rintro l pre x W ⟨⟨v,hv,hrow,hnil⟩,hB⟩ hlt;have hc:=hv.cell
  gi_wp2_with (gi_at_builtin;refine wpListIn_append_own _ rfl _ _ 51 rfl w.heap.size 36 i0 (.int .u16 0) 1 2 underlying51 hi hz0 hz1 hz2 rfl (by decide) _ _ _ rfl (hrow.alloc _) ⟨W.heap.size,0,none⟩ 1 1 [.int .u16 x] rfl rfl (cell_one_new _ _ _) (by simp[Value.oneCell']) (by unfold maxLen;omega) (by omega) (by have:=hB.size;simp;omega) ?_;intro v' w1 hown' hgrow _;obtain⟨g',cap',rfl⟩:=ownsRow_succ hown';obtain⟨hv1,hv2,hr2,hk2,hb2⟩:=hv.appended (by decide) hrow hB.size (Nat.le_refl _) hown' hgrow;have hc1:=hv1.cell;have hf1:=hv1.frozen)
  exact⟨hk2.from _,hk2.walks,⟨_,hv2,by simpa using hr2,by simp⟩,hB.trans hb2⟩
 case done=>
  rintro D' ys W hD hys ⟨⟨v,hv,hrow,hnil⟩,hB⟩ hK;have hc:=hv.cell
  gi_wp2
  refine⟨by simp,.inl ⟨_,_,rfl,run_takeDeferred hK, ?_⟩⟩;exact⟨_,results_tmp rfl _ _ _,v,ys,rfl,hys,ownsRow_putObj hrow _ hK rfl,hnil,hB.trans (belowK_b (w:=w) (Nat.le_refl _) W D' _ _ (by simp at hD;omega) hK rfl rfl)⟩
 case stop=>
  rintro D c pre W _ _ h _;exact h.elim
end Nm
end Go.Proofs.YtmbdoacafhljkaaGreat
namespace Go.Proofs.YtmbdoacafhljkaaGreat
open Go.RowKit
namespace Nm
def u16V(x:Nat):Value:=.int .u16 (x:Int)
def A16(w:World)(g:Nat)(xs:List Nat)(W:World):Prop:=Kept (fun k=>k=g) w W∧∃cs,W.heap[g]? =some (.cells cs 36 (0,0))∧xs.length≤cs.size∧(∀i (h:i < xs.length),cs[i]? =some (u16V xs[i]))∧∀cs0,w.heap[g]? =some (.cells cs0 36 (0,0))→cs.size=cs0.size
theorem A16.cell{w W:World}{g:Nat}{xs:List Nat}(h:A16 w g xs W)(i:Nat)(hi:i < xs.length):W.cell? ⟨g,i,none⟩=some (u16V xs[i]):=by
 obtain⟨_,cs,h1,_,h3,_⟩:=h;rw[cell_of_row _ _ _ _ _ _ h1];exact h3 i hi
theorem A16.ext{w W W':World}{g:Nat}{xs:List Nat}(h:A16 w g xs W)(hb:Below W.heap.size W W'):A16 w g xs W':=by
 obtain⟨h0,cs,h1,h2,h3,h4⟩:=h;exact⟨h0.trans ((Kept.of_ext hb).mono (fun _ _ h=>h.elim)),cs,(hb.block _ (lt_block h1)).trans h1,h2,h3,h4⟩
structure Carry(L R:List Nat)(x:Nat):Prop where
 srt:(L++R).Pairwise (· ≤·)
 gt:∀r∈R,x≤r
theorem Carry.step{L R:List Nat}{x y:Nat}(h:Carry (L++[y]) R x)(hxy:x < y):Carry L (y::R) x:=
 ⟨by have:=h.srt;rwa[List.append_assoc]at this,fun r hr=>by
  rcases List.mem_cons.1 hr with rfl|hr
  ·omega
  ·exact h.gt r hr⟩
theorem Carry.done0{R:List Nat}{x:Nat}(h:Carry [] R x):(x::R).Pairwise (· ≤·):=List.pairwise_cons.2 ⟨fun r hr=>h.gt r hr,by simpa using h.srt⟩
theorem Carry.done1{L R:List Nat}{x y:Nat}(h:Carry (L++[y]) R x)(hxy:¬x < y):(L++[y]++x::R).Pairwise (· ≤·):=by
 have h1:=List.pairwise_append.1 h.srt;have h2:=List.pairwise_append.1 h1.1;refine List.pairwise_append.2 ⟨h1.1,List.pairwise_cons.2 ⟨fun r hr=>h.gt r hr,h1.2.1⟩,fun a ha b hb=> ?_⟩;have hay:a≤y:=by
  rcases List.mem_append.1 ha with ha|ha
  ·exact h2.2.2 a ha y (by simp)
  ·simp at ha;omega
 rcases List.mem_cons.1 hb with rfl|hb
 ·omega
 ·exact h1.2.2 a ha b hb
def InnT(w:World)(g i:Nat)(xs:List Nat)(j:Value)(W:World):Prop:=∃(L R T:List Nat) (x:Nat),j=.int .i64 (L.length:Nat)∧L.length+R.length=i∧Carry L R x∧(L++x::(R++T)).Perm xs∧A16 w g (L++x::(R++T)) W
def OutT(w:World)(g:Nat)(xs:List Nat)(i:Value)(W:World):Prop:=∃(S T:List Nat),i=.int .i64 (S.length:Nat)∧1≤S.length∧S.Pairwise (· ≤·)∧(S++T).Perm xs∧A16 w g (S++T) W
theorem A16.swap{w W V:World}{g:Nat}{L T:List Nat}{x y:Nat}{cs cs':Array Value}(h:A16 w g (L++y::x::T) W)(hcs:W.heap[g]? =some (.cells cs 36 (0,0)))(hk:Kept (fun k=>k=g) W V)(hv:V.heap[g]? =some (.cells cs' 36 (0,0)))(hsz:cs'.size=cs.size)
 (ho:∀m,m≠L.length→m≠L.length+1→cs'[m]? =cs[m]?) (h0:cs'[L.length]? =some (u16V x)) (h1:cs'[L.length+1]? =some (u16V y)):A16 w g (L++x::y::T) V:=by
 obtain⟨g0,cs0,g1,g2,g3,g4⟩:=h;rw[hcs]at g1;cases g1;have hlen:(L++y::x::T).length=(L++x::y::T).length:=by simp
 refine⟨g0.trans hk,cs',hv,by rw[hsz,←hlen];exact g2,fun i hi=> ?_,fun c0 hc0=>by rw[hsz];exact g4 c0 hc0⟩;by_cases e0:i=L.length
 ·subst e0;rw[h0];simp
 ·by_cases e1:i=L.length+1
  ·subst e1;rw[h1];congr 1;simp
  ·rw[ho i e0 e1,g3 i (by omega)];congr 2;rcases Nat.lt_or_ge i L.length with hl|hl
   ·rw[List.getElem_append_left hl,List.getElem_append_left hl]
   ·obtain⟨m,rfl⟩:∃m,i=L.length+(m+2):=⟨i - L.length - 2,by omega⟩
    rw[List.getElem_append_right (by omega),List.getElem_append_right (by omega)];simp
theorem insT(g c:Nat)(xs:List Nat)(w:World)(h:A16 w g xs w)(hx:∀x∈xs,x < 65536)(hc:xs.length≤c)(h1:1≤xs.length)(hn:xs.length≤1000000):
 Calls prog 207 #[.slice (some ⟨g,0,none⟩) xs.length c,.int .i64 0,.int .i64 xs.length] w fun e w'=>e=.returned (.tuple #[])∧∃ys,ys.Pairwise (· ≤·)∧ys.Perm xs∧A16 w g ys w':=by
 go_enter func207,ntmps207;go_wp2_with fail
 go_loopw [6] (OutT w g xs) (fun i _=>xs.length - (intOf i).toNat)
 case atStart=>
  cases xs with
  |nil=>simp at h1
  |cons x xs=>exact⟨[x],xs,rfl,by simp,by simp,List.Perm.refl _,h⟩
 case round=>
  obtain⟨S,T,rfl,hS1,hS,hp,hw⟩:=hrel;have hpl:=hp.length_eq;rw[List.length_append]at hpl;by_cases hlt:S.length < xs.length
  ·obtain⟨i,hi⟩:∃i,i=S.length:=⟨_,rfl⟩
   rw[←hi]at hlt hS1;rw[←hi];go_wp2_with fail
   go_loopw [7] (InnT w g i xs) (fun j _=>(intOf j).toNat)
   case atStart=>
    cases T with
    |nil=>simp at hpl;omega
    |cons x T=>exact⟨S,[],T,x,by rw[hi],by simp[hi],⟨by simpa using hS,by simp⟩,by simpa using hp,by simpa using hw⟩
   case round=>
    obtain⟨L,R,T,x,rfl,hLR,hca,hp2,hw2⟩:=hrel;have hpl2:=hp2.length_eq;simp at hpl2;have HW2:=hid hw2;have HP2:=hid hp2;have HCA:=hid hca;clear hw2 hp2 hca hw hp hS;rcases List.eq_nil_or_concat L with rfl|⟨L,y,rfl⟩
    ·simp only[List.length_nil]
     go_upto_region 4 with fail
     refine wp_region_m2 mixed0 (by kernel_rfl) [.is (.int .i64 0),.is (.int .i64 0),.is (.bool false),.is (.bool false),.is undef,.is undef,.is undef,.is undef,.is undef,.is undef,.is undef,.is undef,.is undef,.is undef,.is (.bool false)] ?_ ?_
     ·intro q o hio vals V hE haf;rcases q with _|_|_|_|_|_|_|_|_|_|_|_|_|_|_|q
      all_goals first
       |(exfalso;simp at hio;done)
       |(simp at hio;subst hio;simp[bindD,rdB,Region.binds,factAt]at haf;simp[opU,go_sem,haf,Ext.refl,factAt];done)
       |skip
     ·intro vals V hE hF;have e14:vals 14=.bool false:=hF 14 (by show 14 < 15;omega);simp[relAct,dstAt,Act.put];rw[e14];have hE:Below wr.heap.size wr V:=hE;have HWV:=hid (HW2.out.ext hE);clear hF e14;generalize vals 0=y0,vals 1=y1;generalize vals 2=y2,vals 3=y3;generalize vals 4=y4,vals 5=y5;generalize vals 6=y6,vals 7=y7;generalize vals 8=y8,vals 9=y9;generalize vals 10=y10,vals 11=y11;generalize vals 12=y12,vals 13=y13;go_wp2_with fail;refine⟨⟨x::R,T, ?_,by simp,HCA.out.done0,by simpa using HP2.out,by simpa using HWV.out⟩, ?_⟩
      ·simp at hLR;simp[hLR];omega
      ·simp[intOf];simp at hLR;omega
    ·obtain⟨k,hk⟩:∃k,k=L.length:=⟨_,rfl⟩
     have hjl:(L.concat y).length=k+1:=by simp[hk]
     have hlist:L.concat y++x::(R++T)=L++y::x::(R++T):=by simp
     rw[hjl]at hLR hpl2;rw[hlist]at HW2 HP2;have hlen:k+1 < (L++y::x::(R++T)).length:=by simp[hk]
     have hlen0:k < (L++y::x::(R++T)).length:=by omega
     have hc0:=HW2.out.cell k hlen0;have hc1:=HW2.out.cell (k+1) hlen;have hg0:(L++y::x::(R++T))[k]=y:=by simp[hk]
     have hg1:(L++y::x::(R++T))[k+1]=x:=by simp[hk]
     rw[hg0]at hc0;rw[hg1]at hc1;have hyl:y < 65536:=hx y (HP2.out.mem_iff.1 (by simp));have hxl:x < 65536:=hx x (HP2.out.mem_iff.1 (by simp));have hgl:g < wr.heap.size:=by
      obtain⟨_,cs,q1,_⟩:=HW2.out;exact lt_block q1
     have hHL:=hid hlist;have hkn:k+1 < xs.length:=by omega
     clear hlist hg0 hg1 hlen hlen0;rw[hjl]
     go_upto_region 4 with fail
     have hpos:(0:Int) < (k:Int)+1:=by omega
     have r2:IntKind.i64.wrap (k:Int)=(k:Int):=by rw[IntKind.wrap_i64];omega
     refine wp_region_m2 mixed0 (by kernel_rfl) [.is (.int .i64 ((k:Int)+1)),.is (.int .i64 0),.is (.bool true),.is (.bool true),.is (.slice (some ⟨g,0,none⟩) xs.length c),.is (.int .i64 ((k:Int)+1)),.is (.pointer (some ⟨g,k+1,none⟩)),.is (u16V x),.is (.slice (some ⟨g,0,none⟩) xs.length c),.is (.int .i64 ((k:Int)+1)),.is (.int .i64 (k:Nat)),.is (.pointer (some ⟨g,k,none⟩)),.is (u16V y),.is (.bool (decide (x < y))),.is (.bool (decide (x < y)))] ?_ ?_
     ·intro q o hio vals V hE haf;have e0:=(bcl hE hgl).trans hc0;have e1:=(bcl hE hgl).trans hc1;have n1:((k:Int)+1) < (xs.length:Int):=by omega
      have n2:((k:Nat):Int) < (xs.length:Int):=by omega
      have n3:k < xs.length:=by omega
      have n4:((k:Int)+1).toNat=k+1:=by omega
      have n5:0≤(k:Int)+1∧(k:Int)+1 < (xs.length:Int):=by omega
      rcases q with _|_|_|_|_|_|_|_|_|_|_|_|_|_|_|q
      all_goals first
       |(exfalso;simp at hio;done)
       |skip
      all_goals
       simp at hio;subst hio;simp[bindD,rdB,Region.binds,factAt]at haf
      all_goals first
       |(simp[opU,go_sem,haf,e0,e1,hpos,r2,n1,n2,n3,u16V,Ext.refl,factAt];done)
       |skip
      ·simp[opU,go_sem,haf,n4,n5,Ext.refl,factAt]
      ·simp[opU,go_sem,haf,factAt,u16V];refine(less16 x y V).mono fun e W' h=> ?_;obtain⟨rfl,rfl⟩:=h
       first|exact⟨Below.refl _ _,rfl⟩|exact⟨rfl,Below.refl _ _⟩|exact Below.refl _ _
     ·intro vals V hE hF;have e14:vals 14=.bool (decide (x < y)):=hF 14 (by show 14 < 15;omega);simp[relAct,dstAt,Act.put];rw[e14];have hE:Below wr.heap.size wr V:=hE;have HWV:=hid (HW2.out.ext hE);have hz:=hE.size;clear hF e14;generalize vals 0=y0,vals 1=y1;generalize vals 2=y2,vals 3=y3;generalize vals 4=y4,vals 5=y5;generalize vals 6=y6,vals 7=y7
      generalize vals 8=y8,vals 9=y9;generalize vals 10=y10,vals 11=y11;generalize vals 12=y12,vals 13=y13;by_cases hxy:x < y
      ·have hd:decide (x < y)=true:=decide_eq_true hxy;rw[hd];clear hd
       go_upto_region 6 with fail
       have hC0:=HWV.out.cell (k+1) (by simp;omega);have hC1:=HWV.out.cell k (by simp;omega);have hq1:(L++y::x::(R++T))[k+1]'(by simp;omega)=x:=by simp[hk]
       have hq0:(L++y::x::(R++T))[k]'(by simp;omega)=y:=by simp[hk]
       rw[hq1]at hC0;rw[hq0]at hC1;obtain⟨_,cs,hcs,hcl,_,_⟩:=HWV.out;have hcl2:k+1 < cs.size:=by simp at hcl;omega
       have hgV:=lt_block hcs;clear hcl hc0 hc1 hq0 hq1 hE;refine wp_region_r2 mixed0 (by kernel_rfl) (fun _ _=>false) (kills_none _ _)
        (fun ix Y Y'=>if ix=15 then Y'=Y.setCell ⟨g,k+1,none⟩ (u16V y)else if ix=17 then Y'=Y.setCell ⟨g,k,none⟩ (u16V x)else Ext Y Y')
        (fun Y=>Kept (fun q=>q=g) V Y∧∃cs',Y.heap[g]? =some (.cells cs' 36 (0,0))∧cs'.size=cs.size∧∀m,m≠k→m≠k+1→cs'[m]? =cs[m]?)
        (fun ix v Y=>match ix with
          |0=>v=.slice (some ⟨g,0,none⟩) xs.length c
          |1=>v=.int .i64 ((k:Int)+1)
          |2=>v=.slice (some ⟨g,0,none⟩) xs.length c
          |3=>v=.int .i64 ((k:Int)+1)
          |4=>v=.int .i64 (k:Int)
          |5=>v=.slice (some ⟨g,0,none⟩) xs.length c
          |6=>v=.int .i64 ((k:Int)+1)
          |7=>v=.int .i64 (k:Int)
          |8=>v=.pointer (some ⟨g,k,none⟩)
          |9=>v=u16V y
          |10=>v=.slice (some ⟨g,0,none⟩) xs.length c
          |11=>v=.int .i64 ((k:Int)+1)
          |12=>v=.pointer (some ⟨g,k+1,none⟩)
          |13=>v=u16V x
          |14=>v=.pointer (some ⟨g,k+1,none⟩)
          |15=>Y.cell? ⟨g,k+1,none⟩=some (u16V y)
          |16=>v=.pointer (some ⟨g,k,none⟩)
          |17=>Y.cell? ⟨g,k,none⟩=some (u16V x)
          |_=>True)
        (fun Y=>Y.cell? ⟨g,k+1,none⟩=some (u16V x)∧Y.cell? ⟨g,k,none⟩=some (u16V y)) (fun ix=>ix==15||ix==17) ⟨hC0,hC1⟩ ?_ ⟨(Kept.refl _ V).drew,cs,hcs,rfl,fun _ _ _=>rfl⟩ ?_ ?_ ?_ ?_
       ·intro ix Y Y' hkl hC hI hT;have h15:ix≠15:=fun h=>by subst h;cases hkl
        have h17:ix≠17:=fun h=>by subst h;cases hkl
        simp only[h15,h17,if_false]at hT;obtain⟨_,cs',hq,_⟩:=hC;exact⟨(bcl hT (lt_block hq)).trans hI.1,(bcl hT (lt_block hq)).trans hI.2⟩
       ·intro ix Y Y' hC hT;obtain⟨hK,cs',hq,hs',ho'⟩:=hC;by_cases h15:ix=15
        ·simp only[h15,if_true]at hT;subst hT;refine⟨hK.setCell (S:=fun q=>q=g) (p:=⟨g,k+1,none⟩) (fun _=>rfl) _,_,heap_set hq,by simp[hs'],fun m hm0 hm1=> ?_⟩;rw[←ho' m hm0 hm1,Array.getElem?_setIfInBounds];rw[if_neg (fun e=>hm1 e.symm)]
        ·by_cases h17:ix=17
         ·simp only[h17,show ¬(17:Nat)=15 by omega,if_true,if_false]at hT;subst hT;refine⟨hK.setCell (S:=fun q=>q=g) (p:=⟨g,k,none⟩) (fun _=>rfl) _,_,heap_set hq,by simp[hs'],fun m hm0 hm1=> ?_⟩;rw[←ho' m hm0 hm1,Array.getElem?_setIfInBounds];rw[if_neg (fun e=>hm0 e.symm)]
         ·simp only[h15,h17,if_false]at hT;exact⟨hK.trans ((Kept.of_ext hT).mono (fun _ _ h=>h.elim)),cs',(hT.block g (lt_block hq)).trans hq,hs',ho'⟩
       ·intro ix j v Y Y' hij _ hw hC hR hT;obtain⟨_,cs',hq,hs',_⟩:=hC;have hfar:∀(p q:Nat) (u:Value),p≠q→(Y.setCell ⟨g,p,none⟩ u).cell? ⟨g,q,none⟩=Y.cell? ⟨g,q,none⟩:=fun p q u hpq=>by
         rw[cell_of_row _ _ _ _ _ _ (heap_set hq),cell_of_row _ _ _ _ _ _ hq,Array.getElem?_setIfInBounds,if_neg hpq]
        rcases j with _|_|_|_|_|_|_|_|_|_|_|_|_|_|_|_|_|_|j
        all_goals first
         |exact hR
         |skip
        ·have hR:Y.cell? ⟨g,k+1,none⟩=some (u16V y):=hR;show Y'.cell? ⟨g,k+1,none⟩=some (u16V y);by_cases h17:ix=17
         ·simp only[h17,show ¬(17:Nat)=15 by omega,if_true,if_false]at hT;subst hT;rw[hfar _ _ _ (by omega)];exact hR
         ·have h15:¬ix=15:=hij;simp only[h15,h17,if_false]at hT;exact(bcl hT (lt_block hq)).trans hR
        ·have hR:Y.cell? ⟨g,k,none⟩=some (u16V x):=hR;show Y'.cell? ⟨g,k,none⟩=some (u16V x);by_cases h15:ix=15
         ·simp only[h15,if_true]at hT;subst hT;rw[hfar _ _ _ (by omega)];exact hR
         ·have h17:¬ix=17:=hij;simp only[h15,h17,if_false]at hT;exact(bcl hT (lt_block hq)).trans hR
       ·intro ix o hio vals Y hC haf hI;obtain⟨hK,cs',hq,hs',_⟩:=hC;have n1:((k+1:Nat):Int) < (xs.length:Int):=by omega
        have n2:((k:Nat):Int) < (xs.length:Int):=by omega
        have n3:k < xs.length:=by omega
        have n4:((k:Int)+1).toNat=k+1:=by omega
        have n5:0≤(k:Int)+1∧(k:Int)+1 < (xs.length:Int):=by omega
        have fz:∀m,Y.frozen? ⟨g,m,none⟩=false:=fun m=>by simp[World.frozen?,hq]
        have f1:=fz k;have f2:=fz (k+1);have d1:∃u,Y.cell? ⟨g,k,none⟩=some u:=by rw[cell_of_row _ _ _ _ _ _ hq];exact⟨_,Array.getElem?_eq_getElem (by omega)⟩
        have d2:∃u,Y.cell? ⟨g,k+1,none⟩=some u:=by rw[cell_of_row _ _ _ _ _ _ hq];exact⟨_,Array.getElem?_eq_getElem (by omega)⟩
        obtain⟨u1,d1⟩:=d1;obtain⟨u2,d2⟩:=d2;have hII:(∀kk,kk=15∨kk=17→kk=ix∨waitsT _ _ kk ix=true)→_:=fun hk=>hI (fun kk hkk h=>hk kk (by simpa using h));rcases ix with _|_|_|_|_|_|_|_|_|_|_|_|_|_|_|_|_|_|ix
        all_goals first
         |(exfalso;simp at hio;done)
         |skip
        all_goals
         simp at hio;subst hio;simp[bindD,rdB,Region.binds]at haf
        all_goals first
         |(simp[opU,go_sem,haf,r2,n1,n2,n3,n4,n5,u16V,Ext.refl];done)
         |skip
        ·have h0:=hII (fun kk h=>by rcases h with rfl|rfl <;> exact .inr (by kernel_rfl));simp[opU,go_sem,haf,h0.2,u16V,Ext.refl]
        ·have h0:=hII (fun kk h=>by rcases h with rfl|rfl <;> exact .inr (by kernel_rfl));simp[opU,go_sem,haf,h0.1,u16V,Ext.refl]
        ·simp[opU,go_sem,haf,f2,d2,u16V]
        ·simp[opU,go_sem,haf,f1,d1,u16V]
       ·intro vals Y hC hR;obtain⟨hK,cs',hq,hs',ho'⟩:=hC;have h15:=hR 15 (by show 15 < 18;omega) (fun _ _=>rfl);have h17:=hR 17 (by show 17 < 18;omega) (fun _ _=>rfl);have h15:Y.cell? ⟨g,k+1,none⟩=some (u16V y):=h15;have h17:Y.cell? ⟨g,k,none⟩=some (u16V x):=h17;rw[cell_of_row _ _ _ _ _ _ hq]at h15 h17
        have HSW:=hid (HWV.out.swap hcs hK hq hs' (fun m h0 h1=>ho' m (by omega) (by omega)) (by rw[←hk];exact h17) (by rw[←hk];exact h15));simp[relAct,dstAt,Act.put];clear hR hK hq ho' h15 h17;generalize vals 0=z0,vals 1=z1;generalize vals 2=z2,vals 3=z3;generalize vals 4=z4,vals 5=z5;generalize vals 6=z6,vals 7=z7;generalize vals 8=z8,vals 9=z9;generalize vals 10=z10,vals 11=z11;generalize vals 12=z12,vals 13=z13;generalize vals 14=z14,vals 15=z15;generalize vals 16=z16,vals 17=z17;go_wp2_with fail;refine⟨⟨L,y::R,T,x,by rw[←hk],by simp;omega, ?_, ?_,by simpa using HSW.out⟩, ?_⟩
        ·have:=HCA.out;rw[List.concat_eq_append]at this;exact this.step hxy
        ·refine List.Perm.trans ?_ HP2.out;exact List.Perm.append_left L (List.Perm.swap y x (R++T))
        ·simp[intOf];omega
      ·have hd:decide (x < y)=false:=decide_eq_false hxy;rw[hd];clear hd;go_wp2_with fail;refine⟨⟨L++[y]++x::R,T, ?_,by simp;omega, ?_,by simpa using HP2.out,by simpa using HWV.out⟩, ?_⟩
       ·simp;omega
       ·have:=HCA.out;rw[List.concat_eq_append]at this;exact this.done1 hxy
       ·simp[intOf];omega
  ·go_wp2_with fail;refine bodyPost_end (results_none rfl _ _ _) rfl ?_;have hT:T=[]:=List.length_eq_zero_iff.1 (by omega);subst hT;rw[List.append_nil]at hp hw;exact⟨rfl,S,hS,hp,hw⟩
theorem pdqT(g c:Nat)(l:Value)(xs:List Nat)(w:World)(h:A16 w g xs w)(hx:∀x∈xs,x < 65536)(hc:xs.length≤c)(h1:1≤xs.length)(hn:xs.length≤12):
 Calls prog 169 #[.slice (some ⟨g,0,none⟩) xs.length c,.int .i64 0,.int .i64 xs.length,l] w fun e w'=>e=.returned (.tuple #[])∧∃ys,ys.Pairwise (· ≤·)∧ys.Perm xs∧A16 w g ys w':=by
 have HI:=hid (insT g c xs w h hx hc h1 (by omega));have hn':(xs.length:Int)≤12:=by omega
 clear h hx;go_enter func169,ntmps169;go_wp2_with fail;refine wp_loop_rounds 2 ?_;rw[rounds_succ];go_wp2_with fail;refine HI.out.mono ?_;rintro e w2 ⟨rfl,hy⟩;have HY:=hid hy;clear hy;go_wp2_with fail;refine bodyPost_ret (results_none rfl _ _ _) rfl ?_;exact⟨rfl,HY.out⟩
theorem SortT(g c:Nat)(xs:List Nat)(w:World)(h:A16 w g xs w)(hx:∀x∈xs,x < 65536)(hc:xs.length≤c)(h1:1≤xs.length)(hn:xs.length≤12):
 Calls prog 120 #[.slice (some ⟨g,0,none⟩) xs.length c] w fun e w'=>e=.returned (.tuple #[])∧∃ys,ys.Pairwise (· ≤·)∧ys.Perm xs∧A16 w g ys w':=by
 have hLen:∀w,Calls prog 115 #[.int .u64 (xs.length:Int)] w fun e w'=>e=.returned (.int .i64 (Go.Sort.bitsLen xs.length:Nat))∧w'=w:=fun w=>by
  have h:=Go.Proofs.Any.bits_Len (Go.Proofs.SlLaysF0.n15.bits (P:=prog) (ρ:=Tryz.sortB_ren) {Tryz.sortB with}) (xs.length:Int) w (by omega) (by omega);rwa[Int.toNat_natCast,Go.Proofs.bitLen_eq _ (by omega)]at h
 have hq:=hid fun l=>pdqT g c l xs w h hx hc h1 hn;have HL:=hid hLen;clear hLen h hx;go_enter func120,ntmps120;go_wp2_with fail;refine(HL.out _).mono ?_;rintro e w1 ⟨rfl,rfl⟩;generalize Go.Sort.bitsLen xs.length=l at *;go_wp2_with fail;refine(hq.out _).mono ?_;rintro e w2 ⟨rfl,hw2⟩;have HH:=hid hw2;clear hw2;go_wp2_with fail
 first|refine bodyPost_end (results_none rfl _ _ _) rfl ?_ |refine bodyPost_ret (results_none rfl _ _ _) rfl ?_
 exact⟨rfl,HH.out⟩
theorem SortRow(B:Nat)(v:Value)(xs:List Nat)(w:World)(h:w.ownsRow B 36 1 v xs.length (xs.map u16V))(hx:∀x∈xs,x < 65536)(h1:1≤xs.length)(hn:xs.length≤12):
 Calls prog 120 #[v] w fun e w'=>e=.returned (.tuple #[])∧∃ys:List Nat,ys.Pairwise (· ≤·)∧ys.Perm xs∧w'.ownsRow B 36 1 v xs.length (ys.map u16V)∧Kept (fun k=>some k=v.ownBlock) w w':=by
 rcases h.2 with⟨_,h0⟩|⟨g,cap,cur,rfl,hg,hh,hc1,hc2,hsz,htk⟩
 ·omega
 ·have hA:A16 w g xs w:=⟨Kept.refl _ _,cur,hh,by omega,fun i hi=>by
   have:(cur.toList.take (xs.length *1))[i]? =(xs.map u16V)[i]?:=by rw[htk]
   rw[List.getElem?_take,if_pos (by omega)]at this;rw[←Array.getElem?_toList,this];simp[hi],fun c0 e=>by rw[hh]at e;cases e;rfl⟩
  refine(SortT g cap xs w hA hx hc1 h1 hn).mono ?_;rintro e w' ⟨rfl,ys,h2,h3,h4,cs,h5,h6,h7,h8⟩;have hl:=h3.length_eq;refine⟨rfl,ys,h2,h3,⟨by simp[hl],.inr ⟨g,cap,cs,rfl,hg,h5,hc1,hc2,by rw[h8 cur hh];exact hsz, ?_⟩⟩,h4.mono (fun k _ e=>by rw[e];rfl)⟩;apply List.ext_getElem?;intro i;rw[List.getElem?_take];by_cases hi:i < xs.length *1
  ·rw[if_pos hi,Array.getElem?_toList,h7 i (by omega)];simp[show i < ys.length by omega]
  ·rw[if_neg hi,List.getElem?_eq_none (by simp;omega)]
theorem CollectG(Bm b nn:Nat)(D:DataW Unit)(ts:List Int)(hst:Rng key16 ts [] ts (Maps.has D))(hsz:Maps.size D=ts.length)(w:World)(hBm:Bm < w.heap.size)(hm:w.cell? ⟨Bm,0,none⟩=some (.map (some b)))(hown:w.ownsMap prog 36 ptrR b nn D)(hlen:ts.length≤1000000):
 Calls prog 119 #[.func (.func 121) #[] #[.pointer (some ⟨Bm,0,none⟩)]] w fun e W'=>∃v ss,e=.returned v∧ss.Perm ts∧W'.ownsRow w.heap.size 36 1 v ss.length (ss.map (Value.int .u16))∧(v=.slice none 0 0↔ss=[])∧Below w.heap.size w W':=by
 have H:=hid (AppendSeqG Bm b nn D ts hst hsz w hBm hm hown hlen);clear hown hm hst hsz;go_enter func119,ntmps119;go_wp2_with fail;refine H.out.mono ?_;rintro e w2 ⟨v,ss,rfl,hp,ho,hnil,hb⟩;have HH:=hid ho;clear ho;go_wp2_with fail;go_ret;exact⟨_,ss,rfl,hp,HH.out,hnil,hb⟩
theorem SortedG(Bm b nn:Nat)(D:DataW Unit)(ts:List Int)(hst:Rng key16 ts [] ts (Maps.has D))(hsz:Maps.size D=ts.length)(w:World)(hBm:Bm < w.heap.size)(hm:w.cell? ⟨Bm,0,none⟩=some (.map (some b)))(hown:w.ownsMap prog 36 ptrR b nn D)(hlen:ts.length≤1000000)(ht:∀t∈ts,0≤t∧t < 65536)(h1:1≤ts.length)(h12:ts.length≤12):
 Calls prog 69 #[.func (.func 121) #[] #[.pointer (some ⟨Bm,0,none⟩)]] w fun e W'=>∃v,∃ys:List Nat,e=.returned v∧ys.Pairwise (· ≤·)∧(ys.map fun y:Nat=>(y:Int)).Perm ts∧W'.ownsRow w.heap.size 36 1 v ys.length (ys.map u16V)∧Below w.heap.size w W':=by
 have H:=hid (CollectG Bm b nn D ts hst hsz w hBm hm hown hlen);clear hown hm hst hsz;go_enter func69,ntmps69;go_wp2_with fail;refine H.out.mono ?_;rintro e w2 ⟨v,ss,rfl,hp,ho,hnil,hb⟩;have hpl:=hp.length_eq;obtain⟨A,c,rfl,_⟩:=own_form ho;have hmap:ss.map (Value.int .u16)=(ss.map Int.toNat).map u16V:=by
  rw[List.map_map];refine List.map_congr_left fun x hx=> ?_;have:=ht x (hp.mem_iff.1 hx);show Value.int .u16 x=Value.int .u16 ((x.toNat:Nat):Int);congr 1;omega
 have hxl:(ss.map Int.toNat).length=ss.length:=by simp
 rw[hmap,←hxl]at ho;have hback:(ss.map Int.toNat).map (fun y:Nat=>(y:Int))=ss:=by
  rw[List.map_map]
  conv=>rhs;rw[←List.map_id ss]
  refine List.map_congr_left fun x hx=> ?_;have:=ht x (hp.mem_iff.1 hx);show((x.toNat:Nat):Int)=x;omega
 have HS:=hid (SortRow w.heap.size (.slice A ss.length c) (ss.map Int.toNat) w2 (by rw[hxl];rw[hxl]at ho;exact ho) (fun x hx=>by
  obtain⟨y,hy,rfl⟩:=List.mem_map.1 hx;have:=ht y (hp.mem_iff.1 hy);omega) (by omega) (by omega))
 have HB:=hid (And.intro hback hxl);have HBL:Hid (∀b,(Value.slice A ss.length c).ownBlock=some b→w.heap.size≤b):=hid fun b e=>by
  rw[hxl]at ho;exact(ho.lt b e).1
 clear ho hmap hback hxl hnil hpl;go_wp2_with fail;refine HS.out.mono ?_;rintro e w3 ⟨rfl,ys,hy1,hy2,hy3,hk3⟩;have HH:=hid (And.intro hy1 (And.intro hy2 hy3));clear hy1 hy2 hy3;go_wp2_with fail;go_ret;obtain⟨hy1,hy2,hy3⟩:=HH.out;refine⟨_,ys,rfl,hy1, ?_, ?_,hb.trans (hk3.below hb.size (fun k hk e=>by have:=HBL.out k e.symm;omega))⟩
 ·have:=hy2.map (fun y:Nat=>(y:Int));rw[HB.out.1]at this;exact this.trans hp
 ·rw[hy2.length_eq];exact hy3
theorem ZTypesG(w:World)(B z bn bb:Nat)(ap:List Lab)(P:List Nq)(Q:List Sq)(N:Nat)(h:ZG w B z bn bb ap P Q N)(hw:Wf ap P Q)(p:Nq)(hp:p∈P)(h12:(setsOf Q p.n).length≤12)(An:Option Addr)(m:List Lab)(cn:Nat)(hAn:Cs w An (m.map strV))(hm:Small m)(hmn:zkey m=zkey p.n):
 Calls prog 33 #[.pointer (some ⟨z,0,none⟩),.slice An m.length cn] w fun e w'=>∃v,∃ys:List Nat,e=.returned v∧ys.Pairwise (· ≤·)∧(ys.map fun y:Nat=>(y:Int)).Perm ((setsOf Q p.n).map (·.t))∧w'.ownsRow w.heap.size 36 1 v ys.length (ys.map u16V)∧Below w.heap.size w w':=by
 obtain⟨D,hz1,hz2⟩:=h.zn;obtain⟨D2,hn1,hn2⟩:=h.nd p hp;obtain⟨Aa,ca,hzb,hza⟩:=hz1.blk;obtain⟨z0,z1,z2,z3,_⟩:=cells4 hzb;have hzl:=lt_block hzb;obtain⟨An2,cn2,hxb,hxn⟩:=hn1.node;have hxl:=lt_block hxb;obtain⟨x0,x1,_⟩:=cells2 hxb
 have HK:Hid (∀W,Below w.heap.size w W→Calls prog 68 #[.slice An m.length cn] W fun e w'=>e=.returned (strV (zkey m))∧Below W.heap.size W w'):=hid fun W hW=>ZKey An m cn W (hAn.below hW) hm
 have HL:Hid (∀W,Below w.heap.size w W→(Instr.lookup 100 (.map (some bn)) (strV (zkey m)) false).run prog W=.ok (.pointer (some ⟨p.x,0,none⟩)) W):=hid fun W hW=>look_ptr (hz1.ext hW).nodes keyS underlying100 rfl (keyOf_str _ (zkey_len hm)) (o:=some p.x) (by rw[hmn];exact hz2.at_mem hw.apartP (key_lit _) (List.mem_map.2 ⟨p,hp,rfl⟩) _)
 have HS:Hid (∀W,Below w.heap.size w W→W.ownsMap prog 36 ptrR p.bs N D2):=hid fun W hW=>hn1.sets.kept (row:=none) ⟨hW.os,hW.tape,hW.output,hW.size,fun k hk _=>hW.block k hk⟩ (by simp);obtain⟨q0,hq0,hq0n⟩:=hw.has p hp
 have HT:Hid (Rng key16 ((setsOf Q p.n).map (·.t)) [] ((setsOf Q p.n).map (·.t)) (Maps.has D2)∧Maps.size D2=((setsOf Q p.n).map (·.t)).length∧(∀t∈(setsOf Q p.n).map (·.t),0≤t∧t < 65536)∧1≤((setsOf Q p.n).map (·.t)).length∧((setsOf Q p.n).map (·.t)).length≤12):=hid (by
  refine⟨?_, ?_,fun t ht=> ?_, ?_,by simpa using h12⟩
  ·have hr:=Rng.start (key:=fun q:Sq=>key16 q.t) (fun q=>rfl) hn2 (hw.apartQ p.n) (fun q _=>key_int _ _);refine⟨List.Perm.refl _, ?_, ?_,fun t _=>key_int _ _⟩
   ·have:=hr.left;rw[List.map_map];exact this
   ·have:=hr.nd;rw[List.nil_append]at this ⊢;rw[List.map_map];exact this
  ·rw[hn2.size];simp
  ·obtain⟨q,hq,rfl⟩:=List.mem_map.1 ht;have:=hw.wt q (mem_setsOf.1 hq).1;simp[Lit.wf,IntKind.min,IntKind.max,IntKind.signed,IntKind.bits]at this;omega
  ·rw[List.length_map];exact List.length_pos_of_mem (mem_setsOf.2 ⟨hq0,hq0n⟩))
 generalize hts:(setsOf Q p.n).map (·.t)=ts at *;generalize p.x=x at *;generalize p.bs=bs at *;clear h hAn hzb hza hxb hxn hz1 hz2 hn1 hn2 hw;go_enter func33,ntmps33;go_wp2_with fail
 refine wp_region_mono mixed0 (by kernel_rfl) [.is (.pointer (some ⟨z,0,none⟩)),.is (.pointer (some ⟨z,0,none⟩)),.is (.pointer (some ⟨z,1,none⟩)),.is (.map (some bn)),.is (.slice An m.length cn),.is (strV (zkey m)),.is (.pointer (some ⟨x,0,none⟩)),.is (.pointer (some ⟨x,0,none⟩))] rfl ?_ ?_
 ·intro i q hio vals W hE haf;have e1:=(bcl (o:=1) hE hzl).trans z1;have hl:=HL.out W hE;rcases i with _|_|_|_|_|_|_|_|i
  all_goals first
   |(exfalso;simp at hio;done)
   |(simp at hio;subst hio;simp[bindD,rdB,Region.binds,factAt]at haf;simp[opU,go_sem,haf,e1,hl,Ext.refl,factAt];done)
   |skip
  all_goals
   simp at hio;subst hio;simp[bindD,rdB,Region.binds,factAt]at haf
  ·simp[opU,go_sem,haf,factAt];refine(HK.out W hE).mono fun e W' h=> ?_;exact⟨h.1,h.2⟩
 ·intro vals W hE hF;have hE:Below w.heap.size w W:=hE;simp only[facts]at hF;obtain⟨_,_,_,_,_,_,_,h7,_⟩:=hF;have e7:vals 7=.pointer (some ⟨x,0,none⟩):=h7;simp[relAct,dstAt,Act.put];rw[e7];clear e7 h7;have q1:=(bcl (o:=1) hE hxl).trans x1;have hs0:=hE.size;have HW:=hid (HS.out W hE);go_wp2_with fail;refine(KeysT bs W).mono ?_;rintro e w2 ⟨rfl,rfl⟩
  have hb2:Below W.heap.size W (W.alloc (.cells #[.map (some bs)] 110)):=bAl;obtain⟨ht1,ht2,ht3,ht4,ht5⟩:=HT.out;have hS:=SortedG W.heap.size bs N D2 ts ht1 ht2 (W.alloc (.cells #[.map (some bs)] 110)) (by simp) (by rw[cell_of_row _ _ 0 _ _ _ (heap_alloc_new W _)];rfl) (HW.out.alloc _) (by omega) ht3 ht4 ht5;have HSo:=hid hS;clear hS;go_wp2_with fail
  refine HSo.out.mono ?_;rintro e w3 ⟨v3,ys,rfl,hy1,hy2,ho3,hb3⟩;have HO:=hid ho3;have HY:=hid (And.intro hy1 hy2);clear ho3 hy1 hy2 ht1 ht2 ht3;go_wp2_with fail;go_ret;exact⟨_,ys,rfl,HY.out.1,HY.out.2,own_base HO.out (Nat.le_trans hs0 hb2.size),(hE.trans (hb2.mono hs0)).trans (hb3.mono (Nat.le_trans hs0 hb2.size))⟩
def updS(Q:List Sq)(s:Nat)(q2:Sq):List Sq:=Q.map fun r=>if r.s=s then q2 else r
theorem mem_updS{Q:List Sq}{s:Nat}{q2 r:Sq}(h:r∈updS Q s q2):r=q2∨(r∈Q∧r.s≠s):=by
 obtain⟨x,hx,he⟩:=List.mem_map.1 h;split at he
 ·exact .inl he.symm
 ·subst he;exact .inr ⟨hx,by assumption⟩
theorem uniq_s{Q:List Sq}(h:(Q.map (·.s)).Nodup){a b:Sq}(ha:a∈Q)(hb:b∈Q)(e:a.s=b.s):a=b:=by
 induction Q with
 |nil=>cases ha
 |cons q Q ih=>
  rw[List.map_cons,List.nodup_cons]at h;rcases List.mem_cons.1 ha with e1|ha'
  ·rcases List.mem_cons.1 hb with e2|hb'
   ·rw[e1,e2]
   ·exact absurd (List.mem_map.2 ⟨b,hb',by rw[←e1];exact e.symm⟩) h.1
  ·rcases List.mem_cons.1 hb with e2|hb'
   ·exact absurd (List.mem_map.2 ⟨a,ha',by rw[←e2];exact e⟩) h.1
   ·exact ih h.2 ha' hb'
theorem total_updS{Q:List Sq}(h:(Q.map (·.s)).Nodup){q q2:Sq}(hq:q∈Q):total (updS Q q.s q2)+q.ds.length=total Q+q2.ds.length:=by
 induction Q with
 |nil=>cases hq
 |cons r Q ih=>
  rw[List.map_cons,List.nodup_cons]at h;have e1:∀(r:Sq) (Q:List Sq),total (r::Q)=r.ds.length+total Q:=fun r Q=>by simp[total]
  have e2:updS (r::Q) q.s q2=(if r.s=q.s then q2 else r)::updS Q q.s q2:=rfl;rw[e2,e1,e1];by_cases he:r.s=q.s
  ·rw[if_pos he];have hr:r=q:=by
    rcases List.mem_cons.1 hq with rfl|hq
    ·rfl
    ·exact absurd (List.mem_map.2 ⟨q,hq,he.symm⟩) h.1
   subst hr;have:updS Q r.s q2=Q:=by
    unfold updS
    conv=>rhs;rw[←List.map_id Q]
    refine List.map_congr_left fun x hx=> ?_;rw[if_neg (fun e=>h.1 (List.mem_map.2 ⟨x,hx,e⟩))];rfl
   rw[this];omega
  ·rw[if_neg he];rcases List.mem_cons.1 hq with rfl|hq
   ·exact absurd rfl he
   ·have:=ih h.2 hq;omega
theorem ent_updS{Q:List Sq}(h:(Q.map (·.s)).Nodup){q q2:Sq}(hq:q∈Q)(hn:q2.n=q.n)(ht:q2.t=q.t)(hs:q2.s=q.s)(n:List Lab):(setsOf (updS Q q.s q2) n).map Sq.ent=(setsOf Q n).map Sq.ent:=by
 have hu:∀x∈Q,x.s=q.s→x=q:=fun x hx e=>uniq_s h hx hq e;clear h hq
 induction Q with
 |nil=>rfl
 |cons r Q ih=>
  have e2:updS (r::Q) q.s q2=(if r.s=q.s then q2 else r)::updS Q q.s q2:=rfl;have ih:=ih (fun x hx=>hu x (by simp[hx]));unfold setsOf at ih ⊢;rw[e2,List.filter_cons,List.filter_cons];by_cases he:r.s=q.s
  ·have:=hu r (by simp) he;subst this;rw[if_pos rfl,hn];split
   ·rw[List.map_cons,List.map_cons,ih];congr 1;unfold Sq.ent;rw[ht,hs]
   ·exact ih
  ·rw[if_neg he];split
   ·rw[List.map_cons,List.map_cons,ih]
   ·exact ih
theorem s_updS(Q:List Sq){q q2:Sq}(hs:q2.s=q.s):(updS Q q.s q2).map (·.s)=Q.map (·.s):=by
 unfold updS;rw[List.map_map];refine List.map_congr_left fun x _=> ?_;show(if x.s=q.s then q2 else x).s=x.s;split
 ·rw[hs];exact Eq.symm (by assumption)
 ·rfl
section
variable {w w':World} {B z bn bb:Nat} {ap:List Lab} {P:List Nq} {Q:List Sq} {N:Nat}
theorem ZG.bs_ne(h:ZG w B z bn bb ap P Q N){p:Nq}(hp:p∈P):p.bs≠bn∧p.bs≠bb:=by
 have:=h.dbs;rw[List.nodup_cons,List.nodup_cons]at this;exact⟨fun e=>this.1 (by rw[←e];exact List.mem_cons_of_mem _ (List.mem_map.2 ⟨p,hp,rfl⟩)),fun e=>this.2.1 (by rw[←e];exact List.mem_map.2 ⟨p,hp,rfl⟩)⟩
theorem dv_of{Q:List Sq}(h:Q.Pairwise fun a b=>∀k,a.v.ownBlock=some k→b.v.ownBlock≠some k){a b:Sq}(ha:a∈Q)(hb:b∈Q)(hne:a≠b){k:Nat}(h1:a.v.ownBlock=some k)(h2:b.v.ownBlock=some k):False:=by
 induction Q with
 |nil=>cases ha
 |cons q Q ih=>
  obtain⟨g1,g2⟩:=List.pairwise_cons.1 h;rcases List.mem_cons.1 ha with e1|ha'
  ·rcases List.mem_cons.1 hb with e2|hb'
   ·exact hne (by rw[e1,e2])
   ·exact g1 b hb' k (by rw[←e1];exact h1) h2
  ·rcases List.mem_cons.1 hb with e2|hb'
   ·exact g1 a ha' k (by rw[←e2];exact h2) h1
   ·exact ih g2 ha' hb'
theorem ZG.foc(h:ZG w B z bn bb ap P Q N)(hw:Wf ap P Q){p:Nq}{q:Sq}(hp:p∈P)(hq:q∈Q)(hpq:p.n=q.n){n:List Lab}(hn:lower n=p.n):
 ∃D D2,Foc w B z bn bb p.x p.bs q.s ap n q.t q.ttl q.v q.ds (total Q) D D2 (cntP ap P) N N∧Ents D (P.map Nq.ent)∧Ents D2 ((setsOf Q p.n).map Sq.ent):=by
 obtain⟨D,h1,h2⟩:=h.zn;obtain⟨D2,h3,h4⟩:=h.nd p hp;have h5:=h.sd q hq;obtain⟨A,c,g1,g2⟩:=h3.node;have hnl:p.n.length=n.length:=by rw[←hn,lower_len]
 have hlo:lower p.n=lower n:=by rw[←hn,lower_idem]
 rw[hnl,hlo]at g2;rw[hnl]at g1;obtain⟨b1,b2⟩:=h.bs_ne hp;refine⟨D,D2,⟨h1,⟨⟨A,c,g1,g2⟩,h3.sets,h5.set,h5.row,h5.dat,h3.h1,h5.h2⟩,b1,b2, ?_, ?_⟩,h2,h4⟩
 ·refine h2.at_mem hw.apartP (key_lit _) (List.mem_map.2 ⟨p,hp, ?_⟩) _;unfold Nq.ent;rw[←hn,zkey_low];rfl
 ·exact h4.at_mem (hw.apartQ p.n) (key_int _ _) (List.mem_map.2 ⟨q,mem_setsOf.2 ⟨hq,hpq.symm⟩,rfl⟩) _
theorem ZG.upd(h:ZG w B z bn bb ap P Q N){q q2:Sq}(hq:q∈Q)(hn:q2.n=q.n)(ht:q2.t=q.t)(hs:q2.s=q.s){S:Nat→Prop}(hk:Kept S w w')(hS:∀k,S k→k=z∨k=q.s∨some k=q.v.ownBlock)
 {D:DataW Unit} {c:Int} (hD:Ents D (P.map Nq.ent)) (hzn:Zn w' B z bn bb ap c D (cntP ap P) N) (hc:c+(q.ds.length:Int)=total Q+q2.ds.length) (hsd:SdG w' B q2.s q2.ttl q2.v q2.ds)
 (hat:∀k,q2.v.ownBlock=some k→some k=q.v.ownBlock∨w.heap.size≤k):
 ZG w' B z bn bb ap P (updS Q q.s q2) N∧(∀k,zblk z bn bb P (updS Q q.s q2) k→zblk z bn bb P Q k∨w.heap.size≤k):=by
 obtain⟨D0,h1,_⟩:=h.zn;obtain⟨A,ca,g1,_⟩:=h1.blk;have hq0:=h.sd q hq;have hZ:Zonal S w:=fun k e=>h.zonal k (by
  rcases hS k e with e|e|e
  ·exact .inl e
  ·exact .inr (.inr (.inr (.inr ⟨q,hq,.inl e⟩)))
  ·exact .inr (.inr (.inr (.inr ⟨q,hq,.inr e⟩))))
 have htot:=total_updS h.ds hq (q2:=q2);have hmapS:∀{k:TypeId} {R:Value→Option (DataW Unit×List MemPlace)} {b n:Nat} {D:DataW Unit},w.ownsMap prog k R b n D→¬S b:=fun hm e=>by
  rcases hS _ e with rfl|rfl|e
  ·exact ne_map hm g1 rfl
  ·exact ne_map hm hq0.set rfl
  ·obtain⟨cs,e1,_⟩:=row_block hq0.row e.symm;exact ne_map hm e1 rfl
 have hsdS:∀r∈Q,r.s≠q.s→¬S r.s∧∀b,r.v.ownBlock=some b→¬S b:=by
  intro r hr hne;have hr0:=h.sd r hr;constructor
  ·intro e;rcases hS _ e with e|e|e
   ·exact ne_cells hr0.set g1 (by decide) e
   ·exact hne e
   ·obtain⟨cs,e1,_⟩:=row_block hq0.row e.symm;exact ne_cells hr0.set e1 (by decide) rfl
  ·intro b hb e;obtain⟨cs,e1,_⟩:=row_block hr0.row hb;rcases hS _ e with e|e|e
   ·exact ne_cells e1 g1 (by decide) e
   ·exact ne_cells e1 hq0.set (by decide) e
   ·exact dv_of h.dv hr hq (fun e2=>hne (by rw[e2])) hb e.symm
 refine⟨⟨⟨D, ?_,hD⟩,fun p hp=> ?_,fun r hr=> ?_,h.dbs,by rw[s_updS Q hs];exact h.ds, ?_⟩, ?_⟩
 ·have:((total (updS Q q.s q2):Nat):Int)=c:=by omega
  rw[this];exact hzn
 ·obtain⟨D2,h3,h4⟩:=h.nd p hp;refine⟨D2,h3.kept hk hZ (hmapS h3.sets), ?_⟩;rw[ent_updS h.ds hq hn ht hs];exact h4
 ·rcases mem_updS hr with rfl|⟨hr,hne⟩
  ·exact hsd
  ·exact(h.sd r hr).kept hk hZ (hsdS r hr hne).1 (hsdS r hr hne).2
 ·have hds:=h.ds;have hdv:=h.dv;have hlt:∀r∈Q,∀k,r.v.ownBlock=some k→k < w.heap.size:=fun r hr k e=>((h.sd r hr).row.lt k e).2;have hu:∀x∈Q,x.s=q.s→x=q:=fun x hx e=>uniq_s h.ds hx hq e;clear hsdS hmapS htot hsd hzn hD hc h h1 g1 hq0 hk hZ hS;unfold updS;rw[List.pairwise_map];refine List.Pairwise.imp_of_mem ?_ (hdv.and (List.pairwise_map.1 hds));intro a b ha hb hab k
  obtain⟨hab1,hab2⟩:=hab;by_cases ea:a.s=q.s
  ·rw[if_pos ea];have:=hu a ha ea;subst this;rw[if_neg (fun e=>hab2 (by rw[e]))];intro h1 h2;rcases hat k h1 with e|e
   ·exact hab1 k e.symm h2
   ·have:=hlt b hb k h2;omega
  ·rw[if_neg ea];by_cases eb:b.s=q.s
   ·rw[if_pos eb];have:=hu b hb eb;subst this;intro h1 h2;rcases hat k h2 with e|e
    ·exact hab1 k h1 e.symm
    ·have:=hlt a ha k h1;omega
   ·rw[if_neg eb];exact hab1 k
 ·rintro k (e|e|e|⟨p,hp,e⟩|⟨r,hr,e⟩)
  ·exact .inl (.inl e)
  ·exact .inl (.inr (.inl e))
  ·exact .inl (.inr (.inr (.inl e)))
  ·exact .inl (.inr (.inr (.inr (.inl ⟨p,hp,e⟩))))
  ·rcases mem_updS hr with rfl|⟨hr,hne⟩
   ·rcases e with e|e
    ·exact .inl (.inr (.inr (.inr (.inr ⟨q,hq,.inl (by rw[e,hs])⟩))))
    ·rcases hat k e.symm with e|e
     ·exact .inl (.inr (.inr (.inr (.inr ⟨q,hq,.inr e⟩))))
     ·exact .inr e
   ·exact .inl (.inr (.inr (.inr (.inr ⟨r,hr,e⟩))))
end
end Nm
namespace Nm
theorem info_bytes:(prog.info? 37).map (fun i=>(i.zero,i.size,i.bytes))=some (some (.slice none 0 0),1,24):=by kernel_rfl
theorem yield_push{ops:Array Oper}{o:Oper}{a:Act}{W:World}{R:Value→World→Prop}(hgd:o.guard=none)(sl x:Operand){t e:TypeId}(ht:prog.underlying t=some (.slice e))
 (ho:o.op=.call {callee:=.builtin .append,args:= #[sl,x],argTypes:= #[t,t]}) {i:TypeInfo} {z:Value} {bytes size:Nat} (hi:prog.info? e=some i) (hz:i.zero=some z) (hsize:i.size=size) (hby:i.bytes=bytes) (hzs:z.cells.size=size) (hsz:0 < size)
 {B:Nat} {v:Value} {n:Nat} {xs us:List Value} (hs:a.eval sl=v) (hown:W.ownsRow B e size v n xs) (hB:B≤W.heap.size)
 {g:Nat} (hx:a.eval x=.slice (some ⟨g,0,none⟩) 1 1) (hl:us.length=1 *size) (hcell:∀j u,us[j]? =some u→W.cell? ((⟨g,0,none⟩:Addr).add j)=some u) (h1:∀u∈us,u.oneCell'=true) (h63:n+1≤maxLen) (hbytes:(n+1) *bytes≤140737488355328)
 (h:∀v' W',W'.ownsRow B e size v' (n+1) (xs++us)→W.grownBy W' v.ownBlock→(v'.ownBlock=v.ownBlock∨v'.ownBlock=some W.heap.size)→R v' W'):opYield prog ops o a W R:=by
 have hw:Region.wanted o (yielded ops a.tmps)=true:=by simp[Region.wanted,hgd]
 rw[opYield_def,if_pos hw];obtain⟨v',W',hr,h2,h3,_,h5⟩:=run_append_own_at (P:=prog) W B t o.type e i z size bytes ht hi hz hsize hby hzs hsz v n xs hown ⟨g,0,none⟩ 1 1 us hl hcell h1 h63 hbytes hB;unfold execOp;simp only[ho,resolve,invoke,builtin,Sem.run_bind,Sem.run_pure,Result.andThen_ok,List.map_toArray,List.map_cons,List.map_nil,hs,hx,hr];exact h v' W' h2 h3 h5
def SetG(g N1 N0 NB nl:Nat)(nms:List Value)(NM T4 L4:Value)(ds:List (Blob×Blob))(w:World)(i:Value)(wr:World):Prop:=
 ∃(j:Nat) (A:Option Addr) (c:Nat) (bs:List Blob),j≤ds.length∧i=.int .i64 j∧wr.heap[g]? =some (.cells #[NM,T4,L4,.slice A j c] 54 (0,0))∧wr.ownsRow N1 37 1 (.slice A j c) j (bs.map Blob.v)∧(∀b,(Value.slice A j c).ownBlock=some b→b≠g)∧Below N0 w wr∧bs.map (·.l)=(ds.take j).map (·.1.l)∧(∀y∈bs,BlobOwn wr N1 y)∧wr.ownsRow NB 9 1 NM nl nms
theorem ZSetG(w:World)(B z bn bb x bs s:Nat)(ap n:List Lab)(t ttl:Int)(v:Value)(ds:List (Blob×Blob))(cz:Int)(D D2:DataW Unit)(f:Lab→Int)(N N2:Nat)(h:Foc w B z bn bb x bs s ap n t ttl v ds cz D D2 f N N2)(An:Option Addr)(cn:Nat)(hAn:Cs w An (n.map strV))(hn:Small n)(hwt:(Lit.int .u16 t).wf=true)
 (hds:ds.length≤100000) (hdl:∀d∈ds,d.1.l.length≤100000):
 Calls prog 24 #[.pointer (some ⟨z,0,none⟩),.slice An n.length cn,.int .u16 t] w fun e w'=>Below w.heap.size w w'∧∃Am cm Ad cd,∃bl:List Blob,e=.returned (.tuple #[.agg #[.slice Am n.length cm,.int .u16 t,.int .u32 ttl,.slice Ad ds.length cd],.bool true])∧w'.ownsRow w.heap.size 9 1 (.slice Am n.length cm) n.length ((lower n).map strV)∧w'.ownsRow w.heap.size 37 1 (.slice Ad ds.length cd) ds.length (bl.map Blob.v)∧bl.map (·.l)=ds.map (·.1.l)∧∀y∈bl,BlobOwn w' w.heap.size y:=by
 obtain⟨i0,hi,hz0,hz1,hz2⟩:=info_parts info_bytes;have hsv:∃A c,v=.slice A ds.length c:=by
  obtain⟨A,c,hv,_⟩:=own_form h.st.row;exact⟨A,c,hv⟩
 obtain⟨Av,cv,rfl⟩:=hsv;have hsl:=lt_block h.st.set;obtain⟨s0,s1,_⟩:=cells2 h.st.set;obtain⟨An2,cn2,hxb,hxn⟩:=h.st.node;have hxl:=lt_block hxb;obtain⟨x0,x1,_⟩:=cells2 hxb;obtain⟨Aa,ca,hzb,hza⟩:=h.zn.blk;have hzl:=lt_block hzb;obtain⟨z0,z1,z2,z3,_⟩:=cells4 hzb
 have HAt:Hid (∀W,Below w.heap.size w W→Calls prog 62 #[.pointer (some ⟨z,0,none⟩),.slice An n.length cn,.int .u16 t] W fun e w'=>e=.returned (.pointer (some ⟨s,0,none⟩))∧Below W.heap.size W w'):=hid fun W hW=>by
  have hOW:=h.ext hW;have:=ZAt z bn An n cn t N N2 D D2 (some x) (some s) W ((bcl (o:=1) hW hzl).trans z1) (Nat.lt_of_lt_of_le hzl hW.size) hOW.zn.nodes (hAn.below hW) hn hwt hOW.hD (fun x' hx'=>by
   cases hx';exact⟨Nat.lt_of_lt_of_le hxl hW.size,bs,(bcl (o:=1) hW hxl).trans x1,hOW.st.sets,hOW.hD2⟩)
  exact this
 have HLo:Hid (∀W,Below w.heap.size w W→Calls prog 51 #[.slice An n.length cn] W fun e w'=>∃v,e=.returned v∧w'.ownsRow W.heap.size 9 1 v n.length ((lower n).map strV)∧Below W.heap.size W w'):=hid fun W hW=>Lower An n cn W (hAn.below hW) hn.few;have HROW:=hid (cs_own2 h.st.row);have HDAT:=hid h.st.dat;have HDL:=hid hdl
 have hb1:Below w.heap.size w (w.alloc (.cells #[.slice none 0 0,.int .u16 0,.int .u32 0,.slice none 0 0] 54)):=bAl;have hR1:=heap_alloc_new w (.cells #[.slice none 0 0,.int .u16 0,.int .u32 0,.slice none 0 0] 54);have hsz1:(w.alloc (.cells #[.slice none 0 0,.int .u16 0,.int .u32 0,.slice none 0 0] 54)).heap.size=w.heap.size+1:=by simp
 clear h hAn hza hxn;go_enter func24,ntmps24;go_wp2_with fail;generalize w.alloc (.cells #[.slice none 0 0,.int .u16 0,.int .u32 0,.slice none 0 0] 54)=w1 at *;refine(HAt.out w1 hb1).mono ?_;rintro e w2 ⟨rfl,hb2⟩;have hE2:=hb1.trans (hb2.mono hb1.size);have hR2:=(hb2.block _ (lt_block hR1)).trans hR1;have hsz2:=hb2.size;clear hb2 hR1 hb1 hxb hzb;go_wp2_with fail
 refine wp_region_dep mixed0 (by kernel_rfl) (fun i j=>i==9&&j==8) (by kernel_rfl)
  (fun i W W'=>if i=9 then ∃g,w2.heap.size≤g∧Kept (fun k=>k=g) W W'∧∃cs,W.heap[g]? =some (.cells cs 54 (0,0))else Ext W W')
  (fun W=>Below w2.heap.size w2 W)
  (fun i vals W=>match i with
    |0=>vals 0=.slice An n.length cn
    |1=>∃A c,vals 1=.slice A n.length c∧W.ownsRow w2.heap.size 9 1 (.slice A n.length c) n.length ((lower n).map strV)
    |2=>vals 2=.int .u16 t
    |3=>vals 3=.pointer (some ⟨s,0,none⟩)
    |4=>vals 4=.pointer (some ⟨s,0,none⟩)
    |5=>vals 5=.pointer (some ⟨s,0,none⟩)
    |6=>vals 6=.int .u32 ttl
    |7=>∃A c,vals 7=.agg #[.slice A n.length c,.int .u16 t,.int .u32 ttl,.slice none 0 0]∧W.ownsRow w2.heap.size 9 1 (.slice A n.length c) n.length ((lower n).map strV)
    |8=>∃g cs,vals 8=.pointer (some ⟨g,0,none⟩)∧w2.heap.size≤g∧W.heap[g]? =some (.cells cs 54 (0,0))∧cs.size=4
    |9=>∃g A c,vals 8=.pointer (some ⟨g,0,none⟩)∧w2.heap.size≤g∧W.heap[g]? =some (.cells #[.slice A n.length c,.int .u16 t,.int .u32 ttl,.slice none 0 0] 54 (0,0))∧W.ownsRow w2.heap.size 9 1 (.slice A n.length c) n.length ((lower n).map strV)
    |_=>True) ?_ (fun _=>True) (fun _=>false) trivial (fun _ _ _ _ _ _ _=>trivial) ?_ ?_ ?_ ?_ ?_
 ·intro j vals i v W hij hw hR;rcases j with _|_|_|_|_|_|_|_|_|_|j
  all_goals first
   |exact trivial
   |exact hR
   |(simpa[hij,Ne.symm hij]using hR)
   |skip
  have h8:¬8=i:=fun h=>by
   subst h;generalize hb:waitsB _ _ _=b at hw;have:b=true:=by rw[←hb];kernel_rfl
   rw[this]at hw;cases hw
  simpa[h8]using hR
 ·exact(Below.refl _ w2).drew
 ·intro i W W' hC hT;by_cases h9:i=9
  ·simp only[h9,if_true]at hT;obtain⟨g,hg,hT,_⟩:=hT;exact hC.trans (hT.below hC.size (fun k hk h=>by omega))
  ·simp only[h9,if_false]at hT;exact hC.trans (Below.mono hT hC.size)
 ·intro i j vals W W' hij hk hw hC hR hT;by_cases h9:i=9
  ·subst h9;simp only[if_true]at hT;obtain⟨g',hg',hT,cs',hcs'⟩:=hT;have hstr:∀{u:Value} {m:Nat} {xs:List Value},W.ownsRow w2.heap.size 9 1 u m xs→W'.ownsRow w2.heap.size 9 1 u m xs:=fun hr=>Kept.row hr hT (fun k hkb e=>by
    obtain⟨cs,e1,_⟩:=row_block hr hkb;exact ne_cells e1 hcs' (by decide) e)
   rcases j with _|_|_|_|_|_|_|_|_|_|j
   all_goals first
    |exact trivial
    |exact hR
    |(exfalso;exact hij rfl)
    |(cases hk;done)
    |skip
   ·obtain⟨A,c,h5,h6⟩:=hR;exact⟨A,c,h5,hstr h6⟩
   ·obtain⟨A,c,h5,h6⟩:=hR;exact⟨A,c,h5,hstr h6⟩
  ·simp only[h9,if_false]at hT;rcases j with _|_|_|_|_|_|_|_|_|_|j
   all_goals first
    |exact trivial
    |exact hR
    |skip
   ·obtain⟨A,c,h5,h6⟩:=hR;exact⟨A,c,h5,own_below h6 hT⟩
   ·obtain⟨A,c,h5,h6⟩:=hR;exact⟨A,c,h5,own_below h6 hT⟩
   ·obtain⟨g,cs,h5,h6,h7,h8⟩:=hR;exact⟨g,cs,h5,h6,(hT.block _ (lt_block h7)).trans h7,h8⟩
   ·obtain⟨g,A,c,h5,h6,h7,h8⟩:=hR;exact⟨g,A,c,h5,h6,(hT.block _ (lt_block h7)).trans h7,own_below h8 hT⟩
 ·intro i o hio vals W hC haf _;have e0:=(bcl (o:=0) (hE2.trans (hC.mono hE2.size)) hsl).trans s0;rcases i with _|_|_|_|_|_|_|_|_|_|i
  all_goals first
   |(exfalso;simp at hio;done)
   |skip
  all_goals
   simp at hio;subst hio;simp[bindD,rdB,Region.binds]at haf
  all_goals first
   |(simp[opU,go_sem,haf,e0,Ext.refl];done)
   |skip
  ·simp[opU,go_sem,haf];refine(HLo.out W (hE2.trans (hC.mono hE2.size))).mono fun e W' h=> ?_;obtain⟨v,he,ho,hb⟩:=h;obtain⟨A,c,hv,_⟩:=own_form ho;subst hv;exact⟨_,he,hb,A,c,rfl,own_base ho hC.size⟩
  ·obtain⟨⟨A,c,h1,h1o⟩,h2,h6⟩:=haf;simp[opU,go_sem,h1,h2,h6,Ext.refl];exact⟨A,c,⟨rfl,rfl⟩,h1o⟩
  ·simp[opU,go_sem];exact⟨bAl,hC.size, #[.slice none 0 0,.int .u16 0,.int .u32 0,.slice none 0 0],by simp only[World.alloc,Array.getElem_push_eq],rfl⟩
  ·obtain⟨⟨g,h8,hg,cs,h10,h11⟩,A,c,h7,h7o⟩:=haf;refine yield_store (g:=g) (cells:= #[.slice A n.length c,.int .u16 t,.int .u32 ttl,.slice none 0 0]) rfl rfl (by simp[relAct,dstAt,Act.put,Act.eval,h8]) (by simp[relAct,dstAt,Act.put,Act.eval,h7]) h10 (by kernel_rfl) h11 (by simp[Value.oneCell']) ?_
   have hblk:=setRow_block W g #[.slice A n.length c,.int .u16 t,.int .u32 ttl,.slice none 0 0] cs 54 (0,0) h10;have hgr:=setRow_grown W g #[.slice A n.length c,.int .u16 t,.int .u32 ttl,.slice none 0 0];have hkg:Kept (fun k=>k=g) W (W.setRow g #[.slice A n.length c,.int .u16 t,.int .u32 ttl,.slice none 0 0]):=(Kept.of_grown hgr).mono (fun k _ h=>by cases h;rfl)
   exact⟨⟨g,hg,hkg,cs,h10⟩,g,A,c,by simpa using h8,hg,hblk,Kept.row h7o hkg (fun k hkb e=>by
    obtain⟨cs',e1,_⟩:=row_block h7o hkb;exact ne_cells e1 h10 (by decide) e)⟩
 ·intro vals W hC hR;have h9:=hR 9 (by show 9 < 10;omega) (fun i _=>by simp);obtain⟨g,A4,c4,h8,hg,hgb,hnm⟩:=h9;have HNM:=hid hnm;have hE3:=hE2.trans (hC.mono hE2.size);have hCs:=hC.size;have hR3:=(hC.block _ (lt_block hR2)).trans hR2;have q1:=(bcl (o:=1) hE3 hsl).trans s1;have hgl:=lt_block hgb;have hgw:w1.heap.size≤g:=Nat.le_trans hsz2 hg;simp[relAct,dstAt,Act.put];rw[h8];clear hR hC h8
  generalize vals 0=p0 at *;generalize vals 1=p1 at *;generalize vals 2=p2 at *;generalize vals 3=p3 at *;generalize vals 4=p4 at *;generalize vals 5=p5 at *;generalize vals 6=p6 at *;generalize vals 7=p7 at *;go_wp2_with fail
  have hst:SetG g W.heap.size w1.heap.size w2.heap.size n.length ((lower n).map strV) (.slice A4 n.length c4) (.int .u16 t) (.int .u32 ttl) ds W (.int .i64 0) W:=⟨0,none,0,[],Nat.zero_le _,rfl,hgb,World.ownsRow_nil _ _ _ _,fun b e=>by(cases e),Below.refl _ _,rfl,fun y hy=>(by cases hy),hnm⟩
  have HST:=hid hst;have HSZ:Hid (w1.heap.size≤W.heap.size):=hid (Nat.le_trans hsz2 hCs);clear hst hgb hnm
  go_loopw [32] (SetG g W.heap.size w1.heap.size w2.heap.size n.length ((lower n).map strV) (.slice A4 n.length c4) (.int .u16 t) (.int .u32 ttl) ds W) (fun i _=>ds.length - (intOf i).toNat)
  case atStart=>exact HST.out
  case round=>
   obtain⟨j,Aj,cj,bl,hj,rfl,hgb,hown,hnb,hbel,hsl2,hsx,hnr⟩:=hrel;have hbll:bl.length=j:=by have:=congrArg List.length hsl2;simp at this;omega
   have HSX:=hid (And.intro hsl2 (And.intro hsx hnr));clear hsx hsl2 hnr;have hgbl:=lt_block hgb;obtain⟨r0,r1,r2,r3⟩:=cells4 hgb;have hBW:Below w.heap.size w wr:=hE3.trans (hbel.mono (by omega));have hgn:w.heap.size≠g:=by omega
   by_cases hlt:j < ds.length
   ·obtain⟨d0,d1⟩:=datC_get ds j hlt;obtain⟨bk,off,rfl,hbk,hc0⟩:=HROW.out _ _ d0;obtain⟨_,_,e9,_,hc1⟩:=HROW.out _ _ d1;cases e9;have t0:=(hBW.cell (p:=⟨bk,off+j *2,none⟩) hbk).trans hc0;have t1:=(hBW.cell (p:=⟨bk,off+(j *2+1),none⟩) hbk).trans hc1;rw[←Nat.add_assoc]at t1;have hok:=(HDAT.out ds[j] (List.getElem_mem hlt)).1;have hle:=HDL.out ds[j] (List.getElem_mem hlt)
    have htake:(ds.take (j+1)).map (·.1.l)=(ds.take j).map (·.1.l)++[ds[j].1.l]:=by rw[List.take_succ_eq_append_getElem hlt,List.map_append];rfl
    have HTK:=hid htake;clear htake;generalize ds[j]=dd at *;obtain⟨y1,y2⟩:=dd;unfold Blob.v at t0 t1;simp only at t0 t1 hok hle;have hy:=own_below hok hBW;clear d0 d1 hc0 hc1 hok;have hrl8:wr.heap.size < (wr.alloc (.cells #[.slice y1.A y1.l.length y1.cap,.slice y2.A y2.l.length y2.cap] 121)).heap.size:=by simp
    have hb8:Below wr.heap.size wr (wr.alloc (.cells #[.slice y1.A y1.l.length y1.cap,.slice y2.A y2.l.length y2.cap] 121)):=bAl;have hh8:=heap_alloc_new wr (.cells #[.slice y1.A y1.l.length y1.cap,.slice y2.A y2.l.length y2.cap] 121);have hg8:=(hb8.block g hgbl).trans hgb;have hy8:=own_below hy hb8;have ho8:=own_below hown hb8;clear HST HAt HLo;go_wp2_with fail
    generalize wr.alloc (.cells #[.slice y1.A y1.l.length y1.cap,.slice y2.A y2.l.length y2.cap] 121)=w8 at *;have HY8:=hid hy8;have HI8:=hid (And.intro hg8 ho8);have HH8:=hid hh8;have HLT:Hid (∀k,k=g∨some k=(Value.slice Aj j cj).ownBlock→k < w8.heap.size∧w1.heap.size≤k):=hid (by
     rintro k (e|e)
     ·rw[e];omega
     ·obtain⟨cs,e1,e2⟩:=row_block ho8 e.symm;have:=lt_block e1;have:=hE3.size;have:=hbel.size;have:w1.heap.size≤W.heap.size:=HSZ.out;omega)
    have HNB:=hid hnb;have hbel8:=hbel.trans (hb8.mono (Nat.le_trans HSZ.out hbel.size));have hb80:=hb8;clear hy hown hgb hb8 hnb r0 r1 r2 r3 t0 t1 hy8 hg8 ho8 hh8;refine wp_region_dep mixed0 (by kernel_rfl) (fun i k=>i==8&&k==6) (by kernel_rfl)
     (fun i V V'=>if i=6 then Kept (fun k=>some k=(Value.slice Aj j cj).ownBlock) V V' else if i=8 then Kept (fun k=>k=g) V V' else Ext V V')
     (fun V=>Kept (fun k=>k=g∨some k=(Value.slice Aj j cj).ownBlock) w8 V)
     (fun i vals V=>match i with
       |0=>vals 0=.pointer (some ⟨g,3,none⟩)
       |1=>vals 1=.slice Aj j cj
       |2=>vals 2=.pointer (some ⟨wr.heap.size,0,none⟩)
       |3=>vals 3=.slice y1.A y1.l.length y1.cap
       |4=>∃A c,vals 4=.slice A y1.l.length c∧V.ownsRow w8.heap.size 5 1 (.slice A y1.l.length c) y1.l.length (y1.l.map byteV)
       |5=>∃q A c,vals 5=.slice (some ⟨q,0,none⟩) 1 1∧w8.heap.size≤q∧V.heap[q]? =some (.cells #[.slice A y1.l.length c] 37 (0,0))∧V.ownsRow w8.heap.size 5 1 (.slice A y1.l.length c) y1.l.length (y1.l.map byteV)
       |6=>∃A c,∃u:Blob,vals 6=.slice A (j+1) c∧(u.l=y1.l∧BlobOwn V w8.heap.size u)∧V.ownsRow W.heap.size 37 1 (.slice A (j+1) c) (j+1) (bl.map Blob.v++[u.v])∧(∀b,(Value.slice A (j+1) c).ownBlock=some b→b≠g)∧V.heap[g]? =some (.cells #[.slice A4 n.length c4,.int .u16 t,.int .u32 ttl,.slice Aj j cj] 54 (0,0))
       |7=>vals 7=.pointer (some ⟨g,3,none⟩)
       |8=>∃A c,∃u:Blob,(u.l=y1.l∧BlobOwn V w8.heap.size u)∧V.ownsRow W.heap.size 37 1 (.slice A (j+1) c) (j+1) (bl.map Blob.v++[u.v])∧(∀b,(Value.slice A (j+1) c).ownBlock=some b→b≠g)∧V.heap[g]? =some (.cells #[.slice A4 n.length c4,.int .u16 t,.int .u32 ttl,.slice A (j+1) c] 54 (0,0))
       |_=>True) ?_ (fun V=>V.heap[g]? =some (.cells #[.slice A4 n.length c4,.int .u16 t,.int .u32 ttl,.slice Aj j cj] 54 (0,0))∧V.ownsRow W.heap.size 37 1 (.slice Aj j cj) j (bl.map Blob.v)) (fun i=>i==6||i==8) ⟨HI8.out.1,HI8.out.2⟩ ?_ ?_ ?_ ?_ ?_ ?_
    ·intro k vals i v V hij hw hR;rcases k with _|_|_|_|_|_|_|_|_|k
     all_goals first
      |exact trivial
      |exact hR
      |(simpa[hij,Ne.symm hij]using hR)
    ·intro i V V' hk hC hI hT;by_cases h6:i=6
     ·subst h6;cases hk
     ·by_cases h8:i=8
      ·subst h8;cases hk
      ·simp only[h6,h8,if_false]at hT;exact⟨(hT.block _ (lt_block hI.1)).trans hI.1,own_below hI.2 hT⟩
    ·exact(Kept.refl _ w8).drew
    ·intro i V V' hC hT;by_cases h6:i=6
     ·simp only[h6,if_true]at hT;exact hC.trans (hT.mono (fun k _ h=>.inr h))
     ·by_cases h8:i=8
      ·simp only[h8]at hT;exact hC.trans (Kept.mono hT (fun k _ h=>.inl h))
      ·simp only[h6,h8,if_false]at hT;exact hC.trans (Kept.mono (Kept.of_ext hT) (fun _ _ h=>h.elim))
    ·intro i k vals V V' hij hk hw hC hR hT;have hnew:∀{S:Nat→Prop} {u:Value} {m:Nat} {xs:List Value},Kept S V V'→(∀k,S k→k < w8.heap.size)→V.ownsRow w8.heap.size 5 1 u m xs→V'.ownsRow w8.heap.size 5 1 u m xs:=fun hKk hS hr=>Kept.row hr hKk (fun k hk2 hs=>by have:=(hr.lt k hk2).1;have:=hS k hs;omega);by_cases h6:i=6
     ·simp only[h6,if_true]at hT;subst h6;rcases k with _|_|_|_|_|_|_|_|_|k
      all_goals first
       |exact trivial
       |exact hR
       |(exfalso;exact hij rfl)
       |skip
      ·obtain⟨A,c,h1,h2⟩:=hR;exact⟨A,c,h1,hnew hT (fun k e=>(HLT.out k (.inr e)).1) h2⟩
      ·obtain⟨q,A,c,h1,h2,h3,h4⟩:=hR;exact⟨q,A,c,h1,h2,(hT.block q (lt_block h3) (fun e=>by have:=(HLT.out q (.inr e)).1;omega)).trans h3,hnew hT (fun k e=>(HLT.out k (.inr e)).1) h4⟩
      ·exfalso;generalize hb:waitsB _ _ _=b at hw;have:b=true:=by rw[←hb];kernel_rfl
       rw[this]at hw;cases hw
     ·by_cases h8:i=8
      ·simp only[h8]at hT;have hT:Kept (fun k=>k=g) V V':=hT;subst h8;rcases k with _|_|_|_|_|_|_|_|_|k
       all_goals first
        |exact trivial
        |exact hR
        |(exfalso;exact hij rfl)
        |(cases hk;done)
        |skip
       ·obtain⟨A,c,h1,h2⟩:=hR;exact⟨A,c,h1,hnew hT (fun k e=>(HLT.out k (.inl e)).1) h2⟩
       ·obtain⟨q,A,c,h1,h2,h3,h4⟩:=hR;exact⟨q,A,c,h1,h2,(hT.block q (lt_block h3) (fun e=>by have:=(HLT.out q (.inl e)).1;omega)).trans h3,hnew hT (fun k e=>(HLT.out k (.inl e)).1) h4⟩
      ·simp only[h6,h8,if_false]at hT;rcases k with _|_|_|_|_|_|_|_|_|k
       all_goals first
        |exact trivial
        |exact hR
        |skip
       ·obtain⟨A,c,h1,h2⟩:=hR;exact⟨A,c,h1,own_below h2 hT⟩
       ·obtain⟨q,A,c,h1,h2,h3,h4⟩:=hR;exact⟨q,A,c,h1,h2,(hT.block q (lt_block h3)).trans h3,own_below h4 hT⟩
       ·obtain⟨A,c,u,h1,hs,h2,h3,h4⟩:=hR;exact⟨A,c,u,h1,⟨hs.1,own_below hs.2 hT⟩,own_below h2 hT,h3,(hT.block _ (lt_block h4)).trans h4⟩
       ·obtain⟨A,c,u,hs,h2,h3,h4⟩:=hR;exact⟨A,c,u,⟨hs.1,own_below hs.2 hT⟩,own_below h2 hT,h3,(hT.block _ (lt_block h4)).trans h4⟩
    ·intro i o hio vals V hC haf hI0;have hhS:¬(wr.heap.size=g∨some wr.heap.size=(Value.slice Aj j cj).ownBlock):=by
      rintro(e|e)
      ·omega
      ·obtain⟨cs,e1,_⟩:=row_block HI8.out.2 e.symm;rw[HH8.out]at e1;cases e1
     obtain⟨t0,_⟩:=cells2 ((hC.block _ (lt_block HH8.out) hhS).trans HH8.out);rcases i with _|_|_|_|_|_|_|_|_|i
     all_goals first
      |(exfalso;simp at hio;done)
      |skip
     all_goals
      simp at hio;subst hio;simp[bindD,rdB,Region.binds]at haf
     all_goals first
      |(simp[opU,go_sem,haf,t0,Ext.refl];done)
      |skip
     ·have hI:=hI0 (fun k hk hk2=>by
       have h:k=6∨k=8:=by simpa using hk2
       rcases h with rfl|rfl
       ·exact .inr (by kernel_rfl)
       ·exact .inr (by kernel_rfl))
      obtain⟨_,_,_,e3,_⟩:=cells4 hI.1;simp[opU,go_sem,haf,e3,Ext.refl]
     ·simp[opU,go_sem,haf];have hyV:=Kept.row HY8.out hC (fun k hkb e=>by
       obtain⟨cs,e1,_⟩:=row_block HY8.out hkb;rcases e with e|e
       ·exact ne_cells e1 HI8.out.1 (by decide) e
       ·obtain⟨cs',e2,_⟩:=row_block HI8.out.2 e.symm;exact ne_cells e1 e2 (by decide) rfl)
      refine(CloneB y1.A y1.l y1.cap V (cs_own hyV).2 (by omega)).mono fun e V' h=> ?_;obtain⟨v,he,ho,hb⟩:=h;obtain⟨A,c,hv,_⟩:=own_form ho;subst hv;exact⟨_,he,hb,A,c,rfl,own_base ho hC.size⟩
     ·obtain⟨A,c,h1,h1o⟩:=haf;simp[opU,go_sem,h1,Ext.refl];exact⟨bAl,hC.size,A,c,by simp only[World.alloc,Array.getElem_push_eq],own_below h1o bAl⟩
     ·obtain⟨h1,q,h5,hq,A,c,hqb,hqo⟩:=haf;have hI:=hI0 (fun k hk hk2=>by
       have h:k=6∨k=8:=by simpa using hk2
       rcases h with rfl|rfl
       ·exact .inl rfl
       ·exact .inr (by kernel_rfl))
      refine yield_push (us:=[.slice A y1.l.length c]) rfl (.tmp 37) (.tmp 41) underlying52 rfl hi hz0 hz1 hz2 rfl (by decide) (by simp[relAct,dstAt,Act.put,Act.eval,h1]) hI.2 (by have:=hbel8.size;have:=hC.size;omega) (g:=q) (by simp[relAct,dstAt,Act.put,Act.eval,h5]) rfl
       (fun k u hk=>by rw[add_plain,cell_of_row _ _ _ _ _ _ (show V.heap[q]? =some (.cells #[.slice A y1.l.length c] 37 (0,0))from by first|exact hqb|(rw[Array.getElem?_eq_some_iff];exact⟨_,hqb⟩)),Nat.zero_add];simpa using hk) (by simp[Value.oneCell']) (by unfold maxLen;omega) (by omega) ?_
      intro v' V' hown' hg' hat';obtain⟨A',c',rfl,_⟩:=own_form hown';have hkk:Kept (fun k=>some k=(Value.slice Aj j cj).ownBlock) V V':=Kept.of_grown hg';refine⟨hkk,A',c',⟨A,y1.l,c⟩,rfl,⟨rfl,Kept.row hqo hkk (fun k hk2 hs=>by have:=(hqo.lt k hk2).1;have:=(HLT.out k (.inr hs)).1;omega)⟩,hown',fun b hb e=> ?_,(hkk.block g (lt_block hI.1) (fun e=>HNB.out g e.symm rfl)).trans hI.1⟩
      have:=lt_block HI8.out.1;have:=hC.size;rcases hat' with h|h
      ·exact HNB.out b (h▸hb) e
      ·rw[h]at hb;cases hb;omega
     ·obtain⟨h7,A,c,h6,u,hus,hu,hb,hgb⟩:=haf;obtain⟨_,_,_,e3,f3⟩:=cells4 hgb;have f3:=f3 3;have hkk:Kept (fun k=>k=g) V (V.setCell ⟨g,3,none⟩ (.slice A (j+1) c)):=(Kept.refl (fun k=>k=g) V).setCell (fun _=>rfl) _;have hset:=heap_set (i:=3) (v:=.slice A (j+1) c) hgb;simp[opU,go_sem,h7,h6,e3,f3]
      refine⟨hkk,A,c,u,⟨hus.1,Kept.row hus.2 hkk (fun k hk2 hs=>by have:=(World.ownsRow.lt hus.2 k hk2).1;have:=(HLT.out k (.inl hs)).1;omega)⟩,Kept.row hu hkk (fun k hkb e=>hb k hkb e),hb, ?_⟩
      first|exact hset|(simpa using hset)
    ·intro vals V hC hR;have h8:=hR 8 (by show 8 < 9;omega) (fun i _=>by simp);obtain⟨A,c,u,gs,g1,g2,g3⟩:=h8;have hbelV:=hbel8.trans (hC.below (Nat.le_trans HSZ.out hbel8.size) (fun k hk e=>by have:=(HLT.out k e).2;omega));have hbo:∀y∈bl,BlobOwn V W.heap.size y:=fun y hy=>by
      have h0:=own_below (HSX.out.2.1 y hy) hb80;refine Kept.row h0 hC (fun k hkb e=> ?_);obtain⟨cs,e1,_⟩:=row_block h0 hkb;rcases e with e|e
      ·exact ne_cells e1 HI8.out.1 (by decide) e
      ·obtain⟨cs',e2,_⟩:=row_block HI8.out.2 e.symm;exact ne_cells e1 e2 (by decide) rfl
     have hnr2:V.ownsRow w2.heap.size 9 1 (.slice A4 n.length c4) n.length ((lower n).map strV):=by
      have h0:=own_below HSX.out.2.2 hb80;refine Kept.row h0 hC (fun k hkb e=> ?_);obtain⟨cs,e1,_⟩:=row_block h0 hkb;rcases e with e|e
      ·exact ne_cells e1 HI8.out.1 (by decide) e
      ·obtain⟨cs',e2,_⟩:=row_block HI8.out.2 e.symm;exact ne_cells e1 e2 (by decide) rfl
     have HNR2:=hid hnr2;have hgs2:BlobOwn V W.heap.size u:=own_base gs.2 (Nat.le_trans hbel.size hb80.size);have HG:=hid (And.intro g1 (And.intro g2 g3));clear hR g1 g2 g3 hC;simp[relAct,dstAt,Act.put];generalize vals 0=k0x,vals 1=k1x;generalize vals 2=k2x,vals 3=k3x;generalize vals 4=k4x,vals 5=k5x;generalize vals 6=k6x,vals 7=k7x,vals 8=k8x;go_wp2_with fail;refine⟨⟨j+1,A,c,bl++[u],by omega,by go_num,HG.out.2.2,by simpa using HG.out.1,HG.out.2.1,hbelV,by
      rw[List.map_append,HSX.out.1,HTK.out];simp[gs.1],fun y hy=> ?_,HNR2.out⟩,by simp[intOf];omega⟩
     rcases List.mem_append.1 hy with h|h
     ·exact hbo y h
     ·rcases List.mem_cons.1 h with rfl|h
      ·exact hgs2
      ·cases h
   ·have hjl:j=ds.length:=by omega
    subst hjl;have hRr:=(hbel.block w.heap.size (by omega)).trans hR3;clear HST HAt HLo
    go_wp2_with (first|(refine wpList_store_row rfl 54 (.tmp 6) (.tmp 45) rfl w.heap.size #[.slice A4 n.length c4,.int .u16 t,.int .u32 ttl,.slice Aj ds.length cj] rfl rfl 54 _ hRr (by kernel_rfl) rfl (by simp[Value.oneCell']) ?_))
    have hrb:=setRow_block wr w.heap.size #[.slice A4 n.length c4,.int .u16 t,.int .u32 ttl,.slice Aj ds.length cj] _ _ _ hRr;have hgr:=setRow_grown wr w.heap.size #[.slice A4 n.length c4,.int .u16 t,.int .u32 ttl,.slice Aj ds.length cj];obtain⟨f0,f1,f2,f3,_⟩:=cells4 hrb
    have hk:Kept (fun k=>k=w.heap.size) wr (wr.setRow w.heap.size #[.slice A4 n.length c4,.int .u16 t,.int .u32 ttl,.slice Aj ds.length cj]):=(Kept.of_grown hgr).mono (fun k _ h=>by cases h;rfl);have hown2:=Kept.row hown hk (fun k hkb e=>by have:=(hown.lt k hkb).1;have:=hE3.size;omega);have hnm2:=Kept.row HSX.out.2.2 hk (fun k hkb e=>by
     obtain⟨cs,e1,_⟩:=row_block HSX.out.2.2 hkb;exact ne_cells e1 hRr (by decide) e)
    have hbo2:∀y∈bl,BlobOwn (wr.setRow w.heap.size #[.slice A4 n.length c4,.int .u16 t,.int .u32 ttl,.slice Aj ds.length cj]) W.heap.size y:=fun y hy=>Kept.row (HSX.out.2.1 y hy) hk (fun k hkb e=>by have:=(World.ownsRow.lt (HSX.out.2.1 y hy) k hkb).1;have:=hE3.size;omega);have hsz29:w.heap.size≤w2.heap.size:=hE2.size;have hle1:bl.map (·.l)=ds.map (·.1.l):=by rw[HSX.out.1,List.take_length]
    generalize wr.setRow w.heap.size #[.slice A4 n.length c4,.int .u16 t,.int .u32 ttl,.slice Aj ds.length cj]=w9 at *
    refine bodyPost_ret (v:=.tuple #[.agg #[.slice A4 n.length c4,.int .u16 t,.int .u32 ttl,.slice Aj ds.length cj],.bool true]) ?_ rfl ⟨hBW.trans (hk.below hBW.size (fun k hk e=>by omega)),A4,c4,Aj,cj,bl,rfl,own_base hnm2 hsz29,own_base hown2 hE3.size,hle1,fun y hy=>own_base (hbo2 y hy) hE3.size⟩;simp[results,results24,go_sem,f0,f1,f2,f3]
end Nm
end Go.Proofs.YtmbdoacafhljkaaGreat
