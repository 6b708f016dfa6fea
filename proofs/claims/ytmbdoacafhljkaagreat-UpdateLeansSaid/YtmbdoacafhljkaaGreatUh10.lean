/- Texts merged by a program: GDrop, ZDropG, ZDropS, ZDropW, ZDropA, Cont, ZNo, Zo, CopyP, RelJ. -/
import Derived.Test.YtmbdoacafhljkaaGreatUh1
import Derived.Test.YtmbdoacafhljkaaGreatUh2
import Derived.Test.YtmbdoacafhljkaaGreatUh7
import Derived.Test.YtmbdoacafhljkaaGreatUh8
import Derived.Test.YtmbdoacafhljkaaGreatUh9
set_option linter.unusedSimpArgs false
set_option linter.unusedVariables false
set_option maxRecDepth 1000000
set_option maxHeartbeats 20000000
open Go.Proofs.Tryz
namespace Go.Proofs.YtmbdoacafhljkaaGreat
open Go.RowKit
namespace Nm
theorem Foc.lay{w W:World}{B z bn bb x bs s:Nat}{ap n:List Lab}{t ttl:Int}{v v2:Value}{ds:List (Blob×Blob)}{c cz:Int}{D D2:DataW Unit}{f:Lab→Int}{N N2:Nat}{ds':List (Blob×Blob)}(h:Foc w B z bn bb x bs s ap n t ttl v ds c D D2 f N N2)(hk:Kept (fun k=>k=s∨some k=v.ownBlock) w W)
 (hs:W.heap[s]? =some (.cells #[.int .u32 ttl,v2] 119 (0,0))) (hr:W.ownsRow B 121 2 v2 ds'.length (datC ds')) (hsub:∀d∈ds',d∈ds):
 Foc (W.setCell ⟨z,3,none⟩ (.int .i64 cz)) B z bn bb x bs s ap n t ttl v2 ds' cz D D2 f N N2∧Kept (fun k=>k=z∨k=s∨some k=v.ownBlock) w (W.setCell ⟨z,3,none⟩ (.int .i64 cz))∧Turn B w (W.setCell ⟨z,3,none⟩ (.int .i64 cz)):=by
 have hZ:Zonal (fun k=>k=s∨some k=v.ownBlock) w:=by
  intro k hk2;rcases hk2 with e|e
  ·exact Zonal.cells h.st.set (.inr (.inl rfl)) k e
  ·exact Zonal.row h.st.row k e
 obtain⟨A,ca,g1,g2⟩:=h.zn.blk;obtain⟨A',c',g5,g6⟩:=h.st.node;obtain⟨E,g3,g4⟩:=h.zn.below;have hrow:∀k,some k=v.ownBlock→∃cs,w.heap[k]? =some (.cells cs 121 (0,0))∧B≤k:=fun k e=>row_block h.st.row e.symm;have hnz:¬(z=s∨some z=v.ownBlock):=by
  rintro(e|e)
  ·exact ne_cells g1 h.st.set (by decide) e
  ·obtain⟨cs,e1,_⟩:=hrow z e;exact ne_cells g1 e1 (by decide) rfl
 have hnm:∀{k:TypeId} {R:Value→Option (DataW Unit×List MemPlace)} {b n:Nat} {D:DataW Unit},w.ownsMap prog k R b n D→¬(b=s∨some b=v.ownBlock):=by
  rintro k R b n D hm (e|e)
  ·exact ne_map hm h.st.set e
  ·obtain⟨cs,e1,_⟩:=hrow b e;exact ne_map hm e1 rfl
 have hzn:=h.zn.kept hk hZ hnz (hnm h.zn.nodes) (hnm g3);have hT:Turn B w W:=Turn.zonal hk hZ h.size (fun k e=>by
  rcases e with e|e
  ·rw[e];exact h.st.h2
  ·exact(hrow k e).choose_spec.2)
 obtain⟨q1,q2,q3,q4⟩:=hzn.setN (c':=cz);have hzW:=(hk.block z (lt_block g1) hnz).trans g1;have hms:=ownsMap_block h.st.sets (hk.block _ h.st.sets.lt (hnm h.st.sets));have h1:DatOwn W B ds':=fun d hd=>(h.st.dat.zonal hk hZ) d (hsub d hd);have hd:=h1.zonal q2 q3
 refine⟨⟨q1,⟨⟨A',c',cells_zonal (cells_zonal g5 hk hZ zT_node) q2 q3 zT_node,row_zonal (row_zonal g6 hk hZ zT_str) q2 q3 zT_str⟩,ownsMap_block hms (q2.block _ hms.lt (ne_map hms hzW)),(q2.block s (lt_block hs) (ne_cells hs hzW (by decide))).trans hs, ?_,hd,h.st.h1,h.st.h2⟩,h.n1,h.n2,h.hD,h.hD2⟩,(hk.mono (fun k _ e=>.inr e)).trans (q2.mono (fun k _ e=>.inl e)),hT.trans q4⟩
 refine Kept.row hr q2 fun k hkb e=> ?_;obtain⟨cs,e1,_⟩:=row_block hr hkb;exact ne_cells e1 hzW (by decide) e
theorem GDropHit(w:World)(B z bn bb x bs s:Nat)(ap n:List Lab)(t ttl:Int)(v:Value)(ds:List (Blob×Blob))(cz:Int)(D D2:DataW Unit)(f:Lab→Int)(N N2:Nat)(h:Foc w B z bn bb x bs s ap n t ttl v ds cz D D2 f N N2)(An:Option Addr)(cn:Nat)(Ad:Option Addr)(d:Lab)(cd:Nat)(cl ttl2:Int)(hAn:w.ownsRow 0 9 1 (.slice An n.length cn) n.length (n.map strV))(hAd:w.ownsRow 0 5 1 (.slice Ad d.length cd) d.length (d.map byteV))(c:Lab)(hr:RecG n ap t d c cn cd)
 (p:Nat) (hp:FindAt ds c p) (hhit:hitB ds c p=true) (hpl:p < ds.length) (hds:ds.length≤100000) (hcz0:0≤cz) (hcz:cz < 2000) (G:World→World→Prop)
 (hG:∀W v',Foc W B z bn bb x bs s ap n t ttl v' (ds.eraseIdx p) (cz - 1) D D2 f N N2→Cs W An (n.map strV)→Calls prog 111 #[.pointer (some ⟨z,0,none⟩),.slice An n.length cn,.int .u16 t] W fun e w'=>e=.returned (.tuple #[])∧G W w'):
 Calls prog 54 #[.pointer (some ⟨z,0,none⟩),.agg #[.slice An n.length cn,.int .u16 t,.int .u16 cl,.int .u32 ttl2,.slice Ad d.length cd]] w fun e w'=>e=.returned (.bool true)∧∃W v',Foc W B z bn bb x bs s ap n t ttl v' (ds.eraseIdx p) (cz - 1) D D2 f N N2∧Kept (fun k=>k=z∨k=s∨some k=v.ownBlock) w W∧v'.ownBlock=v.ownBlock∧G W w':=by
 have hb1:Below w.heap.size w (w.alloc (.cells #[.slice An n.length cn,.int .u16 t,.int .u16 cl,.int .u32 ttl2,.slice Ad d.length cd] 39)):=bAl;have hq1:=heap_alloc_new w (.cells #[.slice An n.length cn,.int .u16 t,.int .u16 cl,.int .u32 ttl2,.slice Ad d.length cd] 39);have hO1:=h.ext hb1;have hAn1:=own_below hAn hb1;have hAd1:=own_below hAd hb1
 have hT1:Turn B w _:=Turn.of_ext hb1 h.size;have hK1:Kept (fun _=>False) w (w.alloc (.cells #[.slice An n.length cn,.int .u16 t,.int .u16 cl,.int .u32 ttl2,.slice Ad d.length cd] 39)):=Kept.of_ext hb1;have hzs:(w.alloc (.cells #[.slice An n.length cn,.int .u16 t,.int .u16 cl,.int .u32 ttl2,.slice Ad d.length cd] 39)).heap.size=w.heap.size+1:=by simp
 clear h hAn hAd;go_enter func54,ntmps54;go_wp2_with fail;generalize w.alloc (.cells #[.slice An n.length cn,.int .u16 t,.int .u16 cl,.int .u32 ttl2,.slice Ad d.length cd] 39)=w1 at *;obtain⟨Aa,ca,hzb,hza⟩:=hO1.zn.blk;have hzl:=lt_block hzb;obtain⟨z0,z1,z2,z3,zf⟩:=cells4 hzb;obtain⟨An2,cn2,hxb,hxn⟩:=hO1.st.node;have hxl:=lt_block hxb;obtain⟨x0,x1,xf⟩:=cells2 hxb
 obtain⟨k,hk⟩:∃k,ds.length=k+1:=⟨ds.length - 1,by omega⟩
 have hv:∃g c,v=.slice (some ⟨g,0,none⟩) (k+1) c:=by
  rcases hO1.st.row.2 with⟨_,h0⟩|⟨g,c,cur,h1,_⟩
  ·exact absurd h0 (by omega)
  ·exact⟨g,c,by rw[h1,hk]⟩
 obtain⟨g,cv,rfl⟩:=hv;have HAt:Hid (Calls prog 62 #[.pointer (some ⟨z,0,none⟩),.slice An n.length cn,.int .u16 t] w1 fun e w'=>e=.returned (.pointer (some ⟨s,0,none⟩))∧Below w1.heap.size w1 w'):=hid (ZAt z bn An n cn t N N2 D D2 (some x) (some s) w1 z1 hzl hO1.zn.nodes (cs_own hAn1).2 hr.small hr.wf hO1.hD (fun x' hx'=>by
  cases hx';exact⟨hxl,bs,x1,hO1.st.sets,hO1.hD2⟩))
 refine HAt.out.mono ?_;rintro e w2 ⟨rfl,hb2⟩;have hO2:=hO1.ext hb2;have hq2:=(hb2.block _ (lt_block hq1)).trans hq1;have hAn2:=own_below hAn1 hb2;have hAd2:=own_below hAd1 hb2;have hT2:=hT1.trans (Turn.of_ext hb2 hO1.size);have hK2:=hK1.trans (Kept.of_ext hb2);obtain⟨k0,k1,k2,k3,k4,_⟩:=cells5 hq2;have HCa:=hid (hr.can Ad w2 (cs_own hAd2).2)
 clear HAt hO1 hq1 hAn1 hAd1 hT1 hzb hza z0 z1 z2 z3 zf hxb hxn x0 x1 xf hK1;go_wp2_with fail;refine HCa.out.mono ?_;rintro e w3 ⟨hb3,vc,rfl,hown3⟩;obtain⟨Ac,cc,rfl,_,hcc⟩:=Cs.of_own hown3;have hO3:=hO2.ext hb3;have hq3:=(hb3.block _ (lt_block hq2)).trans hq2;have hAn3:=own_below hAn2 hb3;have hT3:=hT2.trans (Turn.of_ext hb3 hO2.size);have hK3:=hK2.trans (Kept.of_ext hb3)
 obtain⟨s0,s1,sf⟩:=cells2 hO3.st.set;have HFi:=hid (ZFind s _ Ac ds cv c cc p w3 (by rw[hk];exact s1) (cs_own2 hO3.st.row) hO3.st.dat.ok hcc (by omega) hp);rw[hhit]at HFi;clear k0 k1 k2 k3 k4 hO2 hq2 hAn2 hAd2 hT2 HCa hown3 hcc s0 s1 sf hb2 hb3 hK2;go_wp2_with fail;refine HFi.out.mono ?_;rintro e w4 ⟨rfl,hb4⟩;have hO4:=hO3.ext hb4;have hq4:=(hb4.block _ (lt_block hq3)).trans hq3
 have hAn4:=own_below hAn3 hb4;have hT4:=hT3.trans (Turn.of_ext hb4 hO3.size);have hK4:=hK3.trans (Kept.of_ext hb4);obtain⟨s0,s1,sf⟩:=cells2 hO4.st.set;have hrw:=hO4.st.row;rw[hk]at hrw;have HDe:=hid (DeleteAt w4 B g cv p k ds hk (by omega) hrw);have hpw:IntKind.i64.wrap ((p:Int)+1)=(p:Int)+1:=by rw[IntKind.wrap_i64];omega
 clear hO3 hq3 hAn3 hT3 HFi hb4 hrw hK3;go_wp2_with fail;refine HDe.out.mono ?_;rintro e w5 ⟨rfl,hrow5,hk5⟩;obtain⟨csg,hg4,hgB⟩:=row_block hO4.st.row (b:=g) rfl;obtain⟨Az,cz',hz4,_⟩:=hO4.zn.blk;have hgs:s≠g:=ne_cells hO4.st.set hg4 (by decide);have hgz:z≠g:=ne_cells hz4 hg4 (by decide);have hzs':z≠s:=ne_cells hz4 hO4.st.set (by decide)
 have hgr:w.heap.size≠g:=ne_cells hq4 hg4 (by decide);have hrs:w.heap.size≠s:=ne_cells hq4 hO4.st.set (by decide);have hrz:w.heap.size≠z:=ne_cells hq4 hz4 (by decide);have hs5:=(hk5.block s (lt_block hO4.st.set) hgs).trans hO4.st.set;have hz5:=(hk5.block z (lt_block hz4) hgz).trans hz4;have hq5:=(hk5.block _ (lt_block hq4) hgr).trans hq4
 have hs6:=heap_set (i:=1) (v:=.slice (some ⟨g,0,none⟩) k cv) hs5;have hk6:Kept (fun j=>j=s∨some j=(Value.slice (some ⟨g,0,none⟩) (k+1) cv).ownBlock) w4 (w5.setCell ⟨s,1,none⟩ (.slice (some ⟨g,0,none⟩) k cv)):=
  (hk5.mono (fun k _ e=>.inr (by rw[e];rfl))).setCell (fun _=>.inl rfl) _
 have hks:Kept (fun j=>j=s) w5 (w5.setCell ⟨s,1,none⟩ (.slice (some ⟨g,0,none⟩) k cv)):=(Kept.refl (fun k=>k=s) w5).setCell (fun _=>rfl) _;have hr6:=Kept.row hrow5 hks (fun k hk e=>by cases hk;exact hgs e.symm);have hz6:=(hks.block z (lt_block hz5) hzs').trans hz5;have hq6:=(hks.block _ (lt_block hq5) hrs).trans hq5
 have hle:(ds.eraseIdx p).length=k:=by rw[List.length_eraseIdx,if_pos hpl];omega
 obtain⟨hO7,hK7,hT7⟩:=hO4.lay (cz:=cz - 1) hk6 hs6 (ds':=ds.eraseIdx p) (by rw[hle];exact hr6) (fun d hd=>List.mem_of_mem_eraseIdx hd);have hkz:Kept (fun j=>j=z) (w5.setCell ⟨s,1,none⟩ (.slice (some ⟨g,0,none⟩) k cv)) ((w5.setCell ⟨s,1,none⟩ (.slice (some ⟨g,0,none⟩) k cv)).setCell ⟨z,3,none⟩ (.int .i64 (cz - 1))):=(Kept.refl (fun k=>k=z) _).setCell (fun _=>rfl) _
 have hq7:=(hkz.block _ (lt_block hq6) hrz).trans hq6;have hAn7:=(cs_own (hT7.row hAn4 zT_str)).2;have HGo:=hid (hG _ _ hO7 hAn7);have hcw:IntKind.i64.wrap (cz - 1)=cz - 1:=by rw[IntKind.wrap_i64];omega
 obtain⟨t0,t1,tf⟩:=cells2 hs5;obtain⟨_,_,_,y3,yf⟩:=cells4 hz6;obtain⟨k0,k1,k2,k3,k4,_⟩:=cells5 hq7;have hK47:Kept (fun j=>j=z∨j=s∨some j=(Value.slice (some ⟨g,0,none⟩) (k+1) cv).ownBlock) w ((w5.setCell ⟨s,1,none⟩ (.slice (some ⟨g,0,none⟩) k cv)).setCell ⟨z,3,none⟩ (.int .i64 (cz - 1))):=(hK4.mono (fun _ _ h=>h.elim)).trans hK7;have HF7:=hid (And.intro hO7 hK47)
 clear hO7 hT7 hkz hq7 hks hr6 hk6 hs6 hq6 hs5 hz5 hq5 hk5 hrow5 hO4 hq4 hAn4 hT4 s0 s1 sf hg4 hz4 hAn7 HDe hK7 hK47 hK4;go_wp2_with fail;refine HGo.out.mono ?_;rintro e w8 ⟨rfl,hg8⟩;clear HGo k0 k1 k2 k3 k4 y3 yf t0 t1 tf;go_wp2_with fail;go_ret;exact⟨rfl,_,_,HF7.out.1,HF7.out.2,rfl,hg8⟩
theorem GDropMiss(w:World)(B z bn bb x bs s:Nat)(ap n:List Lab)(t ttl:Int)(v:Value)(ds:List (Blob×Blob))(cz:Int)(D D2:DataW Unit)(f:Lab→Int)(N N2:Nat)(h:Foc w B z bn bb x bs s ap n t ttl v ds cz D D2 f N N2)(An:Option Addr)(cn:Nat)(Ad:Option Addr)(d:Lab)(cd:Nat)(cl ttl2:Int)(hAn:Cs w An (n.map strV))(hAd:w.ownsRow 0 5 1 (.slice Ad d.length cd) d.length (d.map byteV))(c:Lab)(hr:RecG n ap t d c cn cd)
 (p:Nat) (hp:FindAt ds c p) (hhit:hitB ds c p=false) (hds:ds.length≤100000):
 Calls prog 54 #[.pointer (some ⟨z,0,none⟩),.agg #[.slice An n.length cn,.int .u16 t,.int .u16 cl,.int .u32 ttl2,.slice Ad d.length cd]] w fun e w'=>e=.returned (.bool false)∧Below w.heap.size w w':=by
 have hb1:Below w.heap.size w (w.alloc (.cells #[.slice An n.length cn,.int .u16 t,.int .u16 cl,.int .u32 ttl2,.slice Ad d.length cd] 39)):=bAl;have hq1:=heap_alloc_new w (.cells #[.slice An n.length cn,.int .u16 t,.int .u16 cl,.int .u32 ttl2,.slice Ad d.length cd] 39);have hO1:=h.ext hb1;have hAn1:=hAn.below hb1;have hAd1:=own_below hAd hb1
 have hzs:(w.alloc (.cells #[.slice An n.length cn,.int .u16 t,.int .u16 cl,.int .u32 ttl2,.slice Ad d.length cd] 39)).heap.size=w.heap.size+1:=by simp
 have hp1:=hp.1;clear h hAn hAd;go_enter func54,ntmps54;go_wp2_with fail;generalize w.alloc (.cells #[.slice An n.length cn,.int .u16 t,.int .u16 cl,.int .u32 ttl2,.slice Ad d.length cd] 39)=w1 at *;obtain⟨Aa,ca,hzb,hza⟩:=hO1.zn.blk;have hzl:=lt_block hzb;obtain⟨z0,z1,z2,z3,zf⟩:=cells4 hzb;obtain⟨An2,cn2,hxb,hxn⟩:=hO1.st.node;have hxl:=lt_block hxb
 obtain⟨x0,x1,xf⟩:=cells2 hxb;obtain⟨Av,cv,rfl,_⟩:=own_form hO1.st.row;have HAt:Hid (Calls prog 62 #[.pointer (some ⟨z,0,none⟩),.slice An n.length cn,.int .u16 t] w1 fun e w'=>e=.returned (.pointer (some ⟨s,0,none⟩))∧Below w1.heap.size w1 w'):=hid (ZAt z bn An n cn t N N2 D D2 (some x) (some s) w1 z1 hzl hO1.zn.nodes hAn1 hr.small hr.wf hO1.hD (fun x' hx'=>by
  cases hx';exact⟨hxl,bs,x1,hO1.st.sets,hO1.hD2⟩))
 refine HAt.out.mono ?_;rintro e w2 ⟨rfl,hb2⟩;have hO2:=hO1.ext hb2;have hq2:=(hb2.block _ (lt_block hq1)).trans hq1;have hAd2:=own_below hAd1 hb2;have hb12:=hb1.trans (hb2.mono (by omega));obtain⟨k0,k1,k2,k3,k4,_⟩:=cells5 hq2;have HCa:=hid (hr.can Ad w2 (cs_own hAd2).2);clear HAt hO1 hq1 hAn1 hAd1 hzb hza z0 z1 z2 z3 zf hxb hxn x0 x1 xf;go_wp2_with fail;refine HCa.out.mono ?_
 rintro e w3 ⟨hb3,vc,rfl,hown3⟩;obtain⟨Ac,cc,rfl,_,hcc⟩:=Cs.of_own hown3;have hO3:=hO2.ext hb3;have hb13:=hb12.trans (hb3.mono hb12.size);obtain⟨s0,s1,sf⟩:=cells2 hO3.st.set;have HFi:=hid (ZFind s Av Ac ds cv c cc p w3 s1 (cs_own2 hO3.st.row) hO3.st.dat.ok hcc (by omega) hp);rw[hhit]at HFi;clear k0 k1 k2 k3 k4 hO2 hq2 hAd2 HCa hown3 hcc s0 s1 sf hb2 hb3;go_wp2_with fail
 refine HFi.out.mono ?_;rintro e w4 ⟨rfl,hb4⟩;have hb14:=hb13.trans (hb4.mono hb13.size);clear HFi hb4 hO3;go_wp2_with fail;go_ret;exact⟨rfl,hb14⟩
theorem GDropNone(w:World)(z:Nat)(n:List Lab)(t:Int)(An:Option Addr)(cn:Nat)(Ad:Option Addr)(ld cd:Nat)(cl ttl2:Int)
 (hAt:∀W,Below w.heap.size w W→Calls prog 62 #[.pointer (some ⟨z,0,none⟩),.slice An n.length cn,.int .u16 t] W fun e w'=>e=.returned (.pointer none)∧Below W.heap.size W w'):
 Calls prog 54 #[.pointer (some ⟨z,0,none⟩),.agg #[.slice An n.length cn,.int .u16 t,.int .u16 cl,.int .u32 ttl2,.slice Ad ld cd]] w fun e w'=>e=.returned (.bool false)∧Below w.heap.size w w':=by
 have hb1:Below w.heap.size w (w.alloc (.cells #[.slice An n.length cn,.int .u16 t,.int .u16 cl,.int .u32 ttl2,.slice Ad ld cd] 39)):=bAl;have hq1:=heap_alloc_new w (.cells #[.slice An n.length cn,.int .u16 t,.int .u16 cl,.int .u32 ttl2,.slice Ad ld cd] 39);have HAt:=hid (hAt _ hb1);clear hAt;go_enter func54,ntmps54;go_wp2_with fail
 generalize w.alloc (.cells #[.slice An n.length cn,.int .u16 t,.int .u16 cl,.int .u32 ttl2,.slice Ad ld cd] 39)=w1 at *;refine HAt.out.mono ?_;rintro e w2 ⟨rfl,hb2⟩;have hb12:=hb1.trans (hb2.mono hb1.size);clear HAt hb2;go_wp2_with fail;go_ret;exact⟨rfl,hb12⟩
def DropR(n:List Lab)(t:Int)(c:Lab)(P:List Nq)(Q:List Sq)(P':List Nq)(Q':List Sq)(r:Bool):Prop:=
 ((∀q∈Q,q.n=lower n→q.t=t→∀e∈q.ds,e.2.l≠c)∧P'=P∧Q'=Q∧r=false)∨
 (∃q∈Q,q.n=lower n∧q.t=t∧r=true∧∃i v,FindAt q.ds c i∧(∃h:i < q.ds.length,(q.ds[i]).2.l=c)∧
   ((q.ds.eraseIdx i≠[]∧P'=P∧Q'=updS Q q.s {q with v:=v,ds:=q.ds.eraseIdx i})∨
    (q.ds.eraseIdx i=[]∧setsOf (delQ Q q.s) q.n≠[]∧P'=P∧Q'=delQ Q q.s)∨
    (q.ds.eraseIdx i=[]∧setsOf (delQ Q q.s) q.n=[]∧P'=delP P q.n∧Q'=delQ Q q.s)))
theorem hit_at{ds:List (Blob×Blob)}{c:Lab}{p:Nat}(h:hitB ds c p=true):∃h:p < ds.length,(ds[p]).2.l=c:=by
 unfold hitB at h;rw[Bool.and_eq_true,decide_eq_true_iff,decide_eq_true_iff]at h;obtain⟨g1,g2⟩:=h;have e:ds.getD p default=ds[p]:=by simp[List.getD,g1]
 rw[e]at g2;exact⟨g1,(cb_zero _ _).1 g2⟩
section
variable {w:World} {B z bn bb:Nat} {ap:List Lab} {P:List Nq} {Q:List Sq} {N:Nat}
theorem ZG.atNone(h:ZG w B z bn bb ap P Q N)(hw:Wf ap P Q){n:List Lab}{t:Int}(hn:Small n)(hne:nameE n=0)(hwt:(Lit.int .u16 t).wf=true)(hq:∀q∈Q,¬(q.n=lower n∧q.t=t))(An:Option Addr)(cn:Nat)(hA:Cs w An (n.map strV)):
 Calls prog 62 #[.pointer (some ⟨z,0,none⟩),.slice An n.length cn,.int .u16 t] w fun e w'=>e=.returned (.pointer none)∧Below w.heap.size w w':=by
 obtain⟨D,hz,hD⟩:=h.zn;obtain⟨Aa,ca,hzb,_⟩:=hz.blk;obtain⟨_,z1,_⟩:=cells4 hzb;by_cases hp:∃p∈P,p.n=lower n
 ·obtain⟨p,hp,hpn⟩:=hp;obtain⟨D2,hnd,hD2⟩:=h.nd p hp;obtain⟨An2,cn2,hxb,_⟩:=hnd.node;obtain⟨_,x1,_⟩:=cells2 hxb;refine(ZAt z bn An n cn t N N D D2 (some p.x) none w z1 (lt_block hzb) hz.nodes hA hn hwt (hD.at_mem hw.apartP (key_lit _) (List.mem_map.2 ⟨p,hp,by unfold Nq.ent;rw[hpn,zkey_low];rfl⟩) _) (fun x hx=> ?_)).mono ?_
  ·cases hx;exact⟨lt_block hxb,p.bs,x1,hnd.sets,hD2.at_not (fun e he=>by
    obtain⟨q,hq1,rfl⟩:=List.mem_map.1 he;obtain⟨hq1,hq2⟩:=mem_setsOf.1 hq1;intro e3;have e3:Lit.int .u16 q.t=Lit.int .u16 t:=e3;injection e3 with _ e3;exact hq q hq1 ⟨by rw[hq2,hpn],e3⟩) _⟩
  ·rintro e w' ⟨he,hb⟩;exact⟨he,hb⟩
 ·have hp':∀p∈P,p.n≠lower n:=fun p hp1 h2=>hp ⟨p,hp1,h2⟩;have hkey:∀e∈P.map Nq.ent,e.1≠Lit.string (zkey n):=fun e he=>by
   obtain⟨p,hp1,rfl⟩:=List.mem_map.1 he;intro e3;have e3:Lit.string (zkey p.n)=Lit.string (zkey n):=e3;injection e3 with e3;have:=zkey_inj (hw.ok p hp1).ok hne e3;rw[(hw.ok p hp1).low]at this;exact hp' p hp1 this
  refine(ZAt z bn An n cn t N N D (.map []) none none w z1 (lt_block hzb) hz.nodes hA hn hwt (hD.at_not hkey _) (fun x hx=>by cases hx)).mono ?_;rintro e w' ⟨he,hb⟩;exact⟨he,hb⟩
end
theorem ZDrop(w:World)(B z bn bb:Nat)(ap n:List Lab)(P:List Nq)(Q:List Sq)(N:Nat)(h:ZG w B z bn bb ap P Q N)(hw:Wf ap P Q)(An:Option Addr)(cn:Nat)(Ad:Option Addr)(d:Lab)(cd:Nat)(t cl ttl:Int)(hAn:w.ownsRow 0 9 1 (.slice An n.length cn) n.length (n.map strV))(hAd:w.ownsRow 0 5 1 (.slice Ad d.length cd) d.length (d.map byteV))(c:Lab)(hr:RecG n ap t d c cn cd)
 (hap1:1≤ap.length) (hapn:ap.length≤n.length) (hN:N≤2000000000000) (ht:total Q≤900) (hPl:P.length≤900):
 Calls prog 54 #[.pointer (some ⟨z,0,none⟩),.agg #[.slice An n.length cn,.int .u16 t,.int .u16 cl,.int .u32 ttl,.slice Ad d.length cd]] w fun e w'=>∃P' Q' N' r,e=.returned (.bool r)∧ZG w' B z bn bb ap P' Q' N'∧N'≤N+2000∧
  Kept (zblk z bn bb P Q) w w'∧(∀k,zblk z bn bb P' Q' k→zblk z bn bb P Q k∨w.heap.size≤k)∧DropR n t c P Q P' Q' r:=by
 by_cases hq:∃q∈Q,q.n=lower n∧q.t=t
 ·obtain⟨q,hq,hqn,hqt⟩:=hq;obtain⟨p,hp,hpn⟩:=hw.own q hq;obtain⟨D,D2,hF,hD,hD2⟩:=h.foc hw hp hq hpn (n:=n) (by rw[hpn,hqn]);subst hqt;obtain⟨k,hk⟩:=find_ex (hw.srt q hq) c;have hit:=hit_iff (hw.srt q hq) hk;have hqd:=h.sd q hq;have hql:=len_total hq;have hSq:∀k,(k=z∨k=q.s∨some k=q.v.ownBlock)→zblk z bn bb P Q k:=by
   rintro k (e|e|e)
   ·exact .inl e
   ·exact .inr (.inr (.inr (.inr ⟨q,hq,.inl e⟩)))
   ·exact .inr (.inr (.inr (.inr ⟨q,hq,.inr e⟩)))
  by_cases hh:hitB q.ds c k=true
  ·obtain⟨hkl,hkc⟩:=hit_at hh;have hle:(q.ds.eraseIdx k).length+1=q.ds.length:=by rw[List.length_eraseIdx,if_pos hkl];omega
   have hupd:∀{W:World} {v':Value},Foc W B z bn bb p.x p.bs q.s ap n q.t q.ttl v' (q.ds.eraseIdx k) (((total Q:Nat):Int) - 1) D D2 (cntP ap P) N N→Kept (fun b=>b=z∨b=q.s∨some b=q.v.ownBlock) w W→v'.ownBlock=q.v.ownBlock→
    ZG W B z bn bb ap P (updS Q q.s {q with v:=v',ds:=q.ds.eraseIdx k}) N∧(∀b,zblk z bn bb P (updS Q q.s {q with v:=v',ds:=q.ds.eraseIdx k}) b→zblk z bn bb P Q b∨w.heap.size≤b):=fun{W v'} hW hKW hv=>
    h.upd (w':=W) hq (q2:={q with v:=v',ds:=q.ds.eraseIdx k}) rfl rfl rfl hKW (fun b e=>e) hD hW.zn (by show((total Q:Nat):Int) - 1+(q.ds.length:Int)=((total Q:Nat):Int)+((q.ds.eraseIdx k).length:Int);omega)
     ⟨hW.st.set,hW.st.row,hW.st.dat,hqd.h2⟩ (fun b e=>.inl (by rw[←hv];exact e.symm))
   have hD2':=hD2;rw[hpn]at hD2';have hdel:=hD2'.del (.int .u16 q.t);rw[ent_delQ hw.kQ h.ds hq]at hdel;have hln:p.n.length=n.length:=by rw[hpn,hqn,lower_len]
   have hlo:lower p.n=lower n:=by rw[hpn,hqn,lower_idem]
   have hns:=hr.small.1;have hPb:zblk z bn bb P Q p.bs:=.inr (.inr (.inr (.inl ⟨p,hp,rfl⟩)));by_cases hne:q.ds.eraseIdx k=[]
   ·have htot:∀v',((total (updS Q q.s {q with v:=v',ds:=q.ds.eraseIdx k}):Nat):Int)=((total Q:Nat):Int) - 1:=fun v'=>by
     have:=total_updS h.ds hq (q2:={q with v:=v',ds:=q.ds.eraseIdx k});have e:({q with v:=v',ds:=q.ds.eraseIdx k}:Sq).ds.length=(q.ds.eraseIdx k).length:=rfl;omega
    have hmem:∀v',({q with v:=v',ds:=q.ds.eraseIdx k}:Sq)∈updS Q q.s {q with v:=v',ds:=q.ds.eraseIdx k}:=fun v'=>List.mem_map.2 ⟨q,hq,if_pos rfl⟩;by_cases hl:setsOf (delQ Q q.s) q.n=[]
    ·have hsz:Maps.size (D2.del (.int .u16 q.t))=0:=by rw[hdel.size,hl];rfl
     refine(GDropHit w B z bn bb p.x p.bs q.s ap n q.t q.ttl q.v q.ds _ D D2 _ N N hF An cn Ad d cd cl ttl hAn hAd c hr k hk hh hkl (by omega) (by omega) (by omega)
      (fun W w'=>∃N',N'≤N+n.length+2∧N≤N'∧Zn w' B z bn bb ap (((total Q:Nat):Int) - 1) (D.del (.string (zkey n))) (cnt (cntP ap P) (lower n) (-1) (n.length - ap.length+1)) N'∧Kept (fun b=>b=p.bs∨b=bn∨b=bb) W w')
      (fun W v' hW hA=>GoneName W B z bn bb p.x p.bs q.s ap n q.t q.ttl v' _ D D2 _ N N (by rw[hne]at hW;exact hW) hsz An n cn hA hr.small rfl hr.small hr.wf hap1 hapn (by omega) (fun m=>by
        have:=cntP_bound ap (fun p hp=>(hw.ok p hp).small.1) m;omega))).mono ?_
     rintro e w' ⟨rfl,W,v',hW,hKW,hv,N',hN1,hN2,hzn,hKb⟩;obtain⟨h1,h2⟩:=hupd hW hKW hv;have hDd:=hD.del (.string (zkey n));have hzk:zkey n=zkey p.n:=by rw[hpn,hqn,zkey_low]
     rw[hzk,ent_delP hw.ok hp]at hDd;have hcn:cnt (cntP ap P) (lower n) (-1) (n.length - ap.length+1)=cntP ap (delP P p.n):=by
      rw[cntP_delP hw.kP hp,←hln,show p.n=lower n from by rw[hpn,hqn]]
     rw[hcn,hzk,←htot v']at hzn;have hd:=h1.delN (w':=w') (N':=N') hw.kP hp (hmem v') hpn hne (by rw[show({q with v:=v',ds:=q.ds.eraseIdx k}:Sq).s=q.s from rfl,delQ_updS Q (s:=q.s) (q2:={q with v:=v',ds:=q.ds.eraseIdx k}) rfl,hpn];exact hl) hKb hDd hzn hN2;rw[show({q with v:=v',ds:=q.ds.eraseIdx k}:Sq).s=q.s from rfl,delQ_updS Q (s:=q.s) (q2:={q with v:=v',ds:=q.ds.eraseIdx k}) rfl]at hd
     refine⟨delP P p.n,delQ Q q.s,N',true,rfl,hd.1,by omega,(hKW.mono (fun b _ e=>hSq b e)).trans (hKb.mono (fun b _ e=> ?_)),fun b hb=>h2 b (hd.2 b hb),.inr ⟨q,hq,hqn,rfl,rfl,k,v',hk,⟨hkl,hkc⟩,.inr (.inr ⟨hne,hl,by rw[hpn],rfl⟩)⟩⟩;rcases e with e|e|e
     ·rw[e];exact hPb
     ·exact .inr (.inl e)
     ·exact .inr (.inr (.inl e))
    ·have hsz:Maps.size (D2.del (.int .u16 q.t))≠0:=by
      rw[hdel.size,List.length_map];exact fun e=>hl (List.eq_nil_of_length_eq_zero e)
     refine(GDropHit w B z bn bb p.x p.bs q.s ap n q.t q.ttl q.v q.ds _ D D2 _ N N hF An cn Ad d cd cl ttl hAn hAd c hr k hk hh hkl (by omega) (by omega) (by omega)
      (fun W w'=>Zn w' B z bn bb ap (((total Q:Nat):Int) - 1) D (cntP ap P) N∧NdG w' B p.x p.bs n N (D2.del (.int .u16 q.t))∧Kept (fun b=>b=p.bs) W w')
      (fun W v' hW hA=>GoneSet W B z bn bb p.x p.bs q.s ap n q.t q.ttl v' _ D D2 _ N N (by rw[hne]at hW;exact hW) hsz An n cn hA hr.small rfl hr.small hr.wf)).mono ?_
     rintro e w' ⟨rfl,W,v',hW,hKW,hv,hzn,hnd,hKb⟩;obtain⟨h1,h2⟩:=hupd hW hKW hv;rw[←htot v']at hzn;have hd:=h1.delS (w':=w') hw.kP hp (hmem v') hpn hne hKb hD hzn (hnd.to_n hln hlo) (by rw[show({q with v:=v',ds:=q.ds.eraseIdx k}:Sq).s=q.s from rfl,delQ_updS Q (s:=q.s) (q2:={q with v:=v',ds:=q.ds.eraseIdx k}) rfl,hpn];exact hdel)
     rw[show({q with v:=v',ds:=q.ds.eraseIdx k}:Sq).s=q.s from rfl,delQ_updS Q (s:=q.s) (q2:={q with v:=v',ds:=q.ds.eraseIdx k}) rfl]at hd;exact⟨P,delQ Q q.s,N,true,rfl,hd.1,by omega,(hKW.mono (fun b _ e=>hSq b e)).trans (hKb.mono (fun b _ e=>by rw[e];exact hPb)),fun b hb=>h2 b (hd.2 b hb),.inr ⟨q,hq,hqn,rfl,rfl,k,v',hk,⟨hkl,hkc⟩,.inr (.inl ⟨hne,hl,rfl,rfl⟩)⟩⟩
   ·have hsz:Maps.size D2≠0:=by
     rw[hD2.size];intro e;have hm:q.ent∈(setsOf Q p.n).map Sq.ent:=List.mem_map.2 ⟨q,mem_setsOf.2 ⟨hq,hpn.symm⟩,rfl⟩;rw[List.eq_nil_of_length_eq_zero e]at hm;cases hm
    refine(GDropHit w B z bn bb p.x p.bs q.s ap n q.t q.ttl q.v q.ds _ D D2 _ N N hF An cn Ad d cd cl ttl hAn hAd c hr k hk hh hkl (by omega) (by omega) (by omega) (fun W w'=>Below W.heap.size W w')
     (fun W v' hW hA=>GoneKeep W B z bn bb p.x p.bs q.s ap n q.t q.ttl v' _ _ D D2 _ N N hW hne hsz An n cn hA hr.small rfl hr.small hr.wf)).mono ?_
    rintro e w' ⟨rfl,W,v',hW,hKW,hv,hb⟩;obtain⟨h1,h2⟩:=hupd hW hKW hv;exact⟨P,_,N,true,rfl,h1.ext hb,by omega,(hKW.mono (fun b _ e=>hSq b e)).trans ((Kept.of_ext hb).mono (fun _ _ h=>h.elim)),h2,.inr ⟨q,hq,hqn,rfl,rfl,k,v',hk,⟨hkl,hkc⟩,.inl ⟨hne,rfl,rfl⟩⟩⟩
  ·have hh':hitB q.ds c k=false:=by simpa using hh
   have hm:∀e∈q.ds,e.2.l≠c:=fun e he e2=>hh (hit.2 ⟨e,he,e2⟩);refine(GDropMiss w B z bn bb p.x p.bs q.s ap n q.t q.ttl q.v q.ds _ D D2 _ N N hF An cn Ad d cd cl ttl (cs_own hAn).2 hAd c hr k hk hh' (by omega)).mono ?_;rintro e w' ⟨rfl,hb⟩
   refine⟨P,Q,N,false,rfl,h.ext hb,by omega,(Kept.of_ext hb).mono (fun _ _ h=>h.elim),fun k hk=>.inl hk,.inl ⟨fun r hr1 hrn hrt=> ?_,rfl,rfl,rfl⟩⟩;have:r=q:=uniq_of (fun q:Sq=>(q.n,q.t)) hw.kQ hr1 hq (by show(r.n,r.t)=(q.n,q.t);rw[hrn,hqn,hrt]);rw[this];exact hm
 ·have hq':∀q∈Q,¬(q.n=lower n∧q.t=t):=fun q hq1 h2=>hq ⟨q,hq1,h2⟩;refine(GDropNone w z n t An cn Ad d.length cd cl ttl (fun W hW=>(h.ext hW).atNone hw hr.small hr.name hr.wf hq' An cn ((cs_own hAn).2.below hW))).mono ?_;rintro e w' ⟨rfl,hb⟩
  exact⟨P,Q,N,false,rfl,h.ext hb,by omega,(Kept.of_ext hb).mono (fun _ _ h=>h.elim),fun k hk=>.inl hk,.inl ⟨fun r hr1 hrn hrt=>absurd ⟨hrn,hrt⟩ (hq' r hr1),rfl,rfl,rfl⟩⟩
end Nm
namespace Nm
theorem GDropAll(w:World)(B z bn bb x bs s:Nat)(ap n:List Lab)(t ttl:Int)(v:Value)(ds:List (Blob×Blob))(cz:Int)(D D2:DataW Unit)(f:Lab→Int)(N N2:Nat)(h:Foc w B z bn bb x bs s ap n t ttl v ds cz D D2 f N N2)(An:Option Addr)(cn:Nat)(hAn:w.ownsRow 0 9 1 (.slice An n.length cn) n.length (n.map strV))(hn:Small n)(hwt:(Lit.int .u16 t).wf=true)
 (hds:ds.length≤100000) (hcz0:0≤cz) (hcz:cz < 2000) (G:World→World→Prop)
 (hG:∀W,Foc W B z bn bb x bs s ap n t ttl (.slice none 0 0) [] (cz - ds.length) D D2 f N N2→Cs W An (n.map strV)→Calls prog 111 #[.pointer (some ⟨z,0,none⟩),.slice An n.length cn,.int .u16 t] W fun e w'=>e=.returned (.tuple #[])∧G W w'):
 Calls prog 113 #[.pointer (some ⟨z,0,none⟩),.slice An n.length cn,.int .u16 t] w fun e w'=>e=.returned (.int .i64 (ds.length:Int))∧∃W,Foc W B z bn bb x bs s ap n t ttl (.slice none 0 0) [] (cz - ds.length) D D2 f N N2∧Kept (fun k=>k=z∨k=s∨some k=v.ownBlock) w W∧G W w':=by
 obtain⟨Aa,ca,hzb,hza⟩:=h.zn.blk;have hzl:=lt_block hzb;obtain⟨z0,z1,z2,z3,zf⟩:=cells4 hzb;obtain⟨An2,cn2,hxb,hxn⟩:=h.st.node;have hxl:=lt_block hxb;obtain⟨x0,x1,xf⟩:=cells2 hxb;have HO:=hid h;have HA:=hid hAn
 have HAt:Hid (Calls prog 62 #[.pointer (some ⟨z,0,none⟩),.slice An n.length cn,.int .u16 t] w fun e w'=>e=.returned (.pointer (some ⟨s,0,none⟩))∧Below w.heap.size w w'):=hid (ZAt z bn An n cn t N N2 D D2 (some x) (some s) w z1 hzl h.zn.nodes (cs_own hAn).2 hn hwt h.hD (fun x' hx'=>by
  cases hx';exact⟨hxl,bs,x1,h.st.sets,h.hD2⟩))
 clear h hAn hzb hza z0 z1 z2 z3 zf hxb hxn x0 x1 xf;go_enter func113,ntmps113;go_wp2_with fail;refine HAt.out.mono ?_;rintro e w4 ⟨rfl,hb4⟩;have hO4:=HO.out.ext hb4;have hAn4:=own_below HA.out hb4;have hT4:Turn B w w4:=Turn.of_ext hb4 HO.out.size;have hK4:Kept (fun _=>False) w w4:=Kept.of_ext hb4;obtain⟨s0,s1,sf⟩:=cells2 hO4.st.set;obtain⟨Av,cv,rfl,_⟩:=own_form hO4.st.row
 obtain⟨Az,cz',hz4,_⟩:=hO4.zn.blk;have hzs':z≠s:=ne_cells hz4 hO4.st.set (by decide);have hs6:=heap_set (i:=1) (v:=.slice none 0 0) hO4.st.set;have hks:Kept (fun j=>j=s) w4 (w4.setCell ⟨s,1,none⟩ (.slice none 0 0)):=(Kept.refl (fun k=>k=s) w4).setCell (fun _=>rfl) _;have hz6:=(hks.block z (lt_block hz4) hzs').trans hz4
 obtain⟨hO7,hK7,hT7⟩:=hO4.lay (cz:=cz - ds.length) (hks.mono (fun k _ e=>.inl e)) hs6 (ds':=[]) (World.ownsRow_nil _ _ _ _) (fun d hd=>by cases hd);have hAn7:=(cs_own (hT7.row hAn4 zT_str)).2;have HGo:=hid (hG _ hO7 hAn7);have hcw:IntKind.i64.wrap (cz - ds.length)=cz - ds.length:=by rw[IntKind.wrap_i64];omega
 obtain⟨_,_,_,y3,yf⟩:=cells4 hz6;have HF7:=hid (And.intro hO7 ((hK4.mono (fun _ _ h=>h.elim)).trans hK7));clear hO7 hT7 hK7 hks hs6 hz4 hAn7 hO4 hAn4 hT4 hK4 HAt;go_wp2_with fail;refine HGo.out.mono ?_;rintro e w8 ⟨rfl,hg8⟩;clear HGo y3 yf s0 s1 sf;go_wp2_with fail;go_ret;exact⟨rfl,_,HF7.out.1,HF7.out.2,hg8⟩
theorem GDropZero(w:World)(z:Nat)(n:List Lab)(t:Int)(An:Option Addr)(cn:Nat)
 (hAt:Calls prog 62 #[.pointer (some ⟨z,0,none⟩),.slice An n.length cn,.int .u16 t] w fun e w'=>e=.returned (.pointer none)∧Below w.heap.size w w'):
 Calls prog 113 #[.pointer (some ⟨z,0,none⟩),.slice An n.length cn,.int .u16 t] w fun e w'=>e=.returned (.int .i64 0)∧Below w.heap.size w w':=by
 have HAt:=hid hAt;clear hAt;go_enter func113,ntmps113;go_wp2_with fail;refine HAt.out.mono ?_;rintro e w2 ⟨rfl,hb2⟩;go_wp2_with fail;go_ret;exact⟨rfl,hb2⟩
def DelR(n:List Lab)(t:Int)(P:List Nq)(Q:List Sq)(P':List Nq)(Q':List Sq)(k:Nat):Prop:=
 ((∀q∈Q,¬(q.n=lower n∧q.t=t))∧P'=P∧Q'=Q∧k=0)∨
 (∃q∈Q,q.n=lower n∧q.t=t∧k=q.ds.length∧Q'=delQ Q q.s∧((setsOf (delQ Q q.s) q.n≠[]∧P'=P)∨(setsOf (delQ Q q.s) q.n=[]∧P'=delP P q.n)))
theorem ZDel(w:World)(B z bn bb:Nat)(ap n:List Lab)(P:List Nq)(Q:List Sq)(N:Nat)(h:ZG w B z bn bb ap P Q N)(hw:Wf ap P Q)(An:Option Addr)(cn:Nat)(t:Int)(hAn:w.ownsRow 0 9 1 (.slice An n.length cn) n.length (n.map strV))(hn:Small n)(hne:nameE n=0)(hwt:(Lit.int .u16 t).wf=true)
 (hap1:1≤ap.length) (hapn:ap.length≤n.length) (hN:N≤2000000000000) (ht:total Q≤900) (hPl:P.length≤900):
 Calls prog 113 #[.pointer (some ⟨z,0,none⟩),.slice An n.length cn,.int .u16 t] w fun e w'=>∃P' Q' N' k,e=.returned (.int .i64 ((k:Nat):Int))∧ZG w' B z bn bb ap P' Q' N'∧N'≤N+2000∧
  Kept (zblk z bn bb P Q) w w'∧(∀k,zblk z bn bb P' Q' k→zblk z bn bb P Q k)∧DelR n t P Q P' Q' k:=by
 by_cases hq:∃q∈Q,q.n=lower n∧q.t=t
 ·obtain⟨q,hq,hqn,hqt⟩:=hq;obtain⟨p,hp,hpn⟩:=hw.own q hq;obtain⟨D,D2,hF,hD,hD2⟩:=h.foc hw hp hq hpn (n:=n) (by rw[hpn,hqn]);subst hqt;have hqd:=h.sd q hq;have hql:=len_total hq;have hSq:∀k,(k=z∨k=q.s∨some k=q.v.ownBlock)→zblk z bn bb P Q k:=by
   rintro k (e|e|e)
   ·exact .inl e
   ·exact .inr (.inr (.inr (.inr ⟨q,hq,.inl e⟩)))
   ·exact .inr (.inr (.inr (.inr ⟨q,hq,.inr e⟩)))
  have hupd:∀{W:World},Foc W B z bn bb p.x p.bs q.s ap n q.t q.ttl (.slice none 0 0) [] (((total Q:Nat):Int) - q.ds.length) D D2 (cntP ap P) N N→Kept (fun b=>b=z∨b=q.s∨some b=q.v.ownBlock) w W→
   ZG W B z bn bb ap P (updS Q q.s {q with v:=.slice none 0 0,ds:=[]}) N:=fun{W} hW hKW=>
   (h.upd (w':=W) hq (q2:={q with v:=.slice none 0 0,ds:=[]}) rfl rfl rfl hKW (fun b e=>e) hD hW.zn (by show((total Q:Nat):Int) - (q.ds.length:Int)+(q.ds.length:Int)=((total Q:Nat):Int)+((0:Nat):Int);omega)
     ⟨hW.st.set,hW.st.row,hW.st.dat,hqd.h2⟩ (fun b e=>by cases e)).1
  have hzb:∀k,zblk z bn bb P (updS Q q.s {q with v:=.slice none 0 0,ds:=[]}) k→zblk z bn bb P Q k:=by
   rintro k (e|e|e|e|⟨r,hr,e⟩)
   ·exact .inl e
   ·exact .inr (.inl e)
   ·exact .inr (.inr (.inl e))
   ·exact .inr (.inr (.inr (.inl e)))
   ·rcases mem_updS hr with rfl|⟨hr,_⟩
    ·rcases e with e|e
     ·exact .inr (.inr (.inr (.inr ⟨q,hq,.inl e⟩)))
     ·cases e
    ·exact .inr (.inr (.inr (.inr ⟨r,hr,e⟩)))
  have hD2':=hD2;rw[hpn]at hD2';have hdel:=hD2'.del (.int .u16 q.t);rw[ent_delQ hw.kQ h.ds hq]at hdel;have hln:p.n.length=n.length:=by rw[hpn,hqn,lower_len]
  have hlo:lower p.n=lower n:=by rw[hpn,hqn,lower_idem]
  have hns:=hn.1;have hPb:zblk z bn bb P Q p.bs:=.inr (.inr (.inr (.inl ⟨p,hp,rfl⟩)));have htot:((total (updS Q q.s {q with v:=.slice none 0 0,ds:=[]}):Nat):Int)=((total Q:Nat):Int) - q.ds.length:=by
   have:=total_updS h.ds hq (q2:={q with v:=.slice none 0 0,ds:=[]});have e:({q with v:=.slice none 0 0,ds:=[]}:Sq).ds.length=0:=rfl;omega
  have hmem:({q with v:=.slice none 0 0,ds:=[]}:Sq)∈updS Q q.s {q with v:=.slice none 0 0,ds:=[]}:=List.mem_map.2 ⟨q,hq,if_pos rfl⟩;by_cases hl:setsOf (delQ Q q.s) q.n=[]
  ·have hsz:Maps.size (D2.del (.int .u16 q.t))=0:=by rw[hdel.size,hl];rfl
   refine(GDropAll w B z bn bb p.x p.bs q.s ap n q.t q.ttl q.v q.ds _ D D2 _ N N hF An cn hAn hn hwt (by omega) (by omega) (by omega)
    (fun W w'=>∃N',N'≤N+n.length+2∧N≤N'∧Zn w' B z bn bb ap (((total Q:Nat):Int) - q.ds.length) (D.del (.string (zkey n))) (cnt (cntP ap P) (lower n) (-1) (n.length - ap.length+1)) N'∧Kept (fun b=>b=p.bs∨b=bn∨b=bb) W w')
    (fun W hW hA=>GoneName W B z bn bb p.x p.bs q.s ap n q.t q.ttl _ _ D D2 _ N N hW hsz An n cn hA hn rfl hn hwt hap1 hapn (by omega) (fun m=>by
      have:=cntP_bound ap (fun p hp=>(hw.ok p hp).small.1) m;omega))).mono ?_
   rintro e w' ⟨rfl,W,hW,hKW,N',hN1,hN2,hzn,hKb⟩;have h1:=hupd hW hKW;have hDd:=hD.del (.string (zkey n));have hzk:zkey n=zkey p.n:=by rw[hpn,hqn,zkey_low]
   rw[hzk,ent_delP hw.ok hp]at hDd;have hcn:cnt (cntP ap P) (lower n) (-1) (n.length - ap.length+1)=cntP ap (delP P p.n):=by
    rw[cntP_delP hw.kP hp,←hln,show p.n=lower n from by rw[hpn,hqn]]
   rw[hcn,hzk,←htot]at hzn;have hd:=h1.delN (w':=w') (N':=N') hw.kP hp hmem hpn rfl (by rw[show({q with v:=.slice none 0 0,ds:=[]}:Sq).s=q.s from rfl,delQ_updS Q (s:=q.s) (q2:={q with v:=.slice none 0 0,ds:=[]}) rfl,hpn];exact hl) hKb hDd hzn hN2;rw[show({q with v:=.slice none 0 0,ds:=[]}:Sq).s=q.s from rfl,delQ_updS Q (s:=q.s) (q2:={q with v:=.slice none 0 0,ds:=[]}) rfl]at hd
   refine⟨delP P p.n,delQ Q q.s,N',q.ds.length,rfl,hd.1,by omega,(hKW.mono (fun b _ e=>hSq b e)).trans (hKb.mono (fun b _ e=> ?_)),fun b hb=>hzb b (hd.2 b hb),.inr ⟨q,hq,hqn,rfl,rfl,rfl,.inr ⟨hl,by rw[hpn]⟩⟩⟩;rcases e with e|e|e
   ·rw[e];exact hPb
   ·exact .inr (.inl e)
   ·exact .inr (.inr (.inl e))
  ·have hsz:Maps.size (D2.del (.int .u16 q.t))≠0:=by
    rw[hdel.size,List.length_map];exact fun e=>hl (List.eq_nil_of_length_eq_zero e)
   refine(GDropAll w B z bn bb p.x p.bs q.s ap n q.t q.ttl q.v q.ds _ D D2 _ N N hF An cn hAn hn hwt (by omega) (by omega) (by omega)
    (fun W w'=>Zn w' B z bn bb ap (((total Q:Nat):Int) - q.ds.length) D (cntP ap P) N∧NdG w' B p.x p.bs n N (D2.del (.int .u16 q.t))∧Kept (fun b=>b=p.bs) W w')
    (fun W hW hA=>GoneSet W B z bn bb p.x p.bs q.s ap n q.t q.ttl _ _ D D2 _ N N hW hsz An n cn hA hn rfl hn hwt)).mono ?_
   rintro e w' ⟨rfl,W,hW,hKW,hzn,hnd,hKb⟩;have h1:=hupd hW hKW;rw[←htot]at hzn;have hd:=h1.delS (w':=w') hw.kP hp hmem hpn rfl hKb hD hzn (hnd.to_n hln hlo) (by rw[show({q with v:=.slice none 0 0,ds:=[]}:Sq).s=q.s from rfl,delQ_updS Q (s:=q.s) (q2:={q with v:=.slice none 0 0,ds:=[]}) rfl,hpn];exact hdel)
   rw[show({q with v:=.slice none 0 0,ds:=[]}:Sq).s=q.s from rfl,delQ_updS Q (s:=q.s) (q2:={q with v:=.slice none 0 0,ds:=[]}) rfl]at hd;exact⟨P,delQ Q q.s,N,q.ds.length,rfl,hd.1,by omega,(hKW.mono (fun b _ e=>hSq b e)).trans (hKb.mono (fun b _ e=>by rw[e];exact hPb)),fun b hb=>hzb b (hd.2 b hb),.inr ⟨q,hq,hqn,rfl,rfl,rfl,.inl ⟨hl,rfl⟩⟩⟩
 ·have hq':∀q∈Q,¬(q.n=lower n∧q.t=t):=fun q hq1 h2=>hq ⟨q,hq1,h2⟩;refine(GDropZero w z n t An cn (h.atNone hw hn hne hwt hq' An cn (cs_own hAn).2)).mono ?_;rintro e w' ⟨rfl,hb⟩;exact⟨P,Q,N,0,rfl,h.ext hb,by omega,(Kept.of_ext hb).mono (fun _ _ h=>h.elim),fun k hk=>hk,.inl ⟨hq',rfl,rfl,rfl⟩⟩
theorem Wf.del{ap:List Lab}{P P':List Nq}{Q:List Sq}(h:Wf ap P Q)(hs:(Q.map (·.s)).Nodup){q:Sq}(hq:q∈Q)(hP:(setsOf (delQ Q q.s) q.n≠[]∧P'=P)∨(setsOf (delQ Q q.s) q.n=[]∧P'=delP P q.n)):Wf ap P' (delQ Q q.s):=by
 have hsub:∀p∈P',p∈P:=fun p hp=>by
  rcases hP with⟨_,rfl⟩|⟨_,rfl⟩
  ·exact hp
  ·exact(mem_delP.1 hp).1
 refine⟨fun p hp=>h.ok p (hsub p hp), ?_,h.kQ.sublist ((List.filter_sublist).map _),fun r hr=>h.wt r (mem_delQ.1 hr).1,fun r hr=> ?_,fun p hp=> ?_,fun r hr=>h.full r (mem_delQ.1 hr).1,fun r hr=>h.srt r (mem_delQ.1 hr).1⟩
 ·rcases hP with⟨_,rfl⟩|⟨_,rfl⟩
  ·exact h.kP
  ·exact h.kP.sublist ((List.filter_sublist).map _)
 ·obtain⟨p,hp,hpn⟩:=h.own r (mem_delQ.1 hr).1;rcases hP with⟨_,rfl⟩|⟨he,rfl⟩
  ·exact⟨p,hp,hpn⟩
  ·refine⟨p,mem_delP.2 ⟨hp,fun e=> ?_⟩,hpn⟩;have hm:r∈setsOf (delQ Q q.s) q.n:=mem_setsOf.2 ⟨hr,by rw[←hpn,e]⟩;rw[he]at hm;cases hm
 ·by_cases e:p.n=q.n
  ·rcases hP with⟨he,rfl⟩|⟨_,rfl⟩
   ·obtain⟨r,hr⟩:=List.exists_mem_of_ne_nil _ he;obtain⟨h1,h2⟩:=mem_setsOf.1 hr;exact⟨r,h1,by rw[h2,e]⟩
   ·exact absurd e (mem_delP.1 hp).2
  ·obtain⟨r,hr,hrn⟩:=h.has p (hsub p hp);refine⟨r,mem_delQ.2 ⟨hr,fun e2=> ?_⟩,hrn⟩;have:=uniq_s hs hr hq e2;subst this;exact e hrn.symm
theorem DelR.wf{ap n:List Lab}{t:Int}{P P':List Nq}{Q Q':List Sq}{k:Nat}(h:DelR n t P Q P' Q' k)(hw:Wf ap P Q)(hs:(Q.map (·.s)).Nodup):Wf ap P' Q':=by
 rcases h with⟨_,rfl,rfl,_⟩|⟨q,hq,_,_,_,rfl,hP⟩
 ·exact hw
 ·exact hw.del hs hq hP
theorem DropR.wf{ap n:List Lab}{t:Int}{c:Lab}{P P':List Nq}{Q Q':List Sq}{r:Bool}(h:DropR n t c P Q P' Q' r)(hw:Wf ap P Q)(hs:(Q.map (·.s)).Nodup):Wf ap P' Q':=by
 rcases h with⟨_,rfl,rfl,_⟩|⟨q,hq,_,_,_,i,v,_,_,⟨hne,rfl,rfl⟩|⟨_,hl,rfl,rfl⟩|⟨_,hl,rfl,rfl⟩⟩
 ·exact hw
 ·have hm:∀r∈updS Q q.s {q with v:=v,ds:=q.ds.eraseIdx i},r={q with v:=v,ds:=q.ds.eraseIdx i}∨r∈Q:=fun r hr=>(mem_updS hr).imp id (·.1);refine⟨hw.ok,hw.kP,by rw[nt_updS hs hq (q2:={q with v:=v,ds:=q.ds.eraseIdx i}) rfl rfl];exact hw.kQ,fun r hr=> ?_,fun r hr=> ?_,fun p hp=> ?_,fun r hr=> ?_,fun r hr=> ?_⟩
  ·rcases hm r hr with rfl|hr
   ·exact hw.wt q hq
   ·exact hw.wt r hr
  ·rcases hm r hr with rfl|hr
   ·exact hw.own q hq
   ·exact hw.own r hr
  ·obtain⟨r,hr,hrn⟩:=hw.has p hp;by_cases e:r.s=q.s
   ·have:=uniq_s hs hr hq e;subst this;exact⟨_,List.mem_map.2 ⟨r,hr,if_pos rfl⟩,hrn⟩
   ·exact⟨r,List.mem_map.2 ⟨r,hr,if_neg e⟩,hrn⟩
  ·rcases hm r hr with rfl|hr
   ·exact hne
   ·exact hw.full r hr
  ·rcases hm r hr with rfl|hr
   ·exact(hw.srt q hq).sublist (List.eraseIdx_sublist _ _)
   ·exact hw.srt r hr
 ·exact hw.del hs hq (.inl ⟨hl,rfl⟩)
 ·exact hw.del hs hq (.inr ⟨hl,rfl⟩)
theorem ZDropSetT(w:World)(B z bn bb:Nat)(ap n:List Lab)(P:List Nq)(Q:List Sq)(N:Nat)(h:ZG w B z bn bb ap P Q N)(hw:Wf ap P Q)(An:Option Addr)(cn:Nat)(t:Int)(hAn:w.ownsRow 0 9 1 (.slice An n.length cn) n.length (n.map strV))(hn:Small n)(hne:nameE n=0)(hwt:(Lit.int .u16 t).wf=true)
 (hap1:1≤ap.length) (hapn:ap.length≤n.length) (hN:N≤2000000000000) (ht:total Q≤900) (hPl:P.length≤900) (h255:¬t=255):
 Calls prog 56 #[.pointer (some ⟨z,0,none⟩),.slice An n.length cn,.int .u16 t] w fun e w'=>∃P' Q' N' k,e=.returned (.int .i64 ((k:Nat):Int))∧ZG w' B z bn bb ap P' Q' N'∧N'≤N+2000∧
  Kept (zblk z bn bb P Q) w w'∧(∀k,zblk z bn bb P' Q' k→zblk z bn bb P Q k)∧DelR n t P Q P' Q' k:=by
 have HD:=hid (ZDel w B z bn bb ap n P Q N h hw An cn t hAn hn hne hwt hap1 hapn hN ht hPl);clear h hAn;have h2:(t==255)=false:=by simpa using h255
 go_enter func56,ntmps56;go_wp2_with fail;refine HD.out.mono ?_;rintro e w' ⟨P',Q',N',k,rfl,rest⟩;have HR:=hid rest;clear rest HD;go_wp2_with fail;go_ret;exact⟨P',Q',N',k,rfl,HR.out⟩
theorem DelR.less{n:List Lab}{t:Int}{P P':List Nq}{Q Q':List Sq}{k:Nat}(h:DelR n t P Q P' Q' k)(hs:(Q.map (·.s)).Nodup):total Q'+k=total Q∧P'.length≤P.length:=by
 rcases h with⟨_,rfl,rfl,rfl⟩|⟨q,hq,_,_,rfl,rfl,hP⟩
 ·exact⟨rfl,Nat.le_refl _⟩
 ·refine⟨total_delQ hs hq, ?_⟩;rcases hP with⟨_,rfl⟩|⟨_,rfl⟩
  ·exact Nat.le_refl _
  ·exact List.length_filter_le _ _
structure PR where
 n:List Lab
 t:Int
 ttl:Int
 d:Lab
 c:Lab
abbrev Cont:=List Lab→Int→Option (Int×List (Lab×Lab))
def PR.says(x:PR):List Lab×Int×Int×Lab:=(x.n,x.t,x.ttl,x.d)
def ltP(a b:PR):Prop:=cmpN a.n b.n < 0∨(cmpN a.n b.n=0∧(a.t < b.t∨(a.t=b.t∧Lib.compareBytes a.c b.c < 0)))
theorem ltP.irr(a:PR):¬ltP a a:=by
 have h1:=(cmpN_zero a.n a.n).2 rfl;have h2:=(cb_zero a.c a.c).2 rfl;rintro(h|⟨_,h|⟨_,h⟩⟩) <;> omega
theorem ltP.trans{a b c:PR}(h1:ltP a b)(h2:ltP b c):ltP a c:=by
 rcases h1 with h1|⟨e1,h1⟩
 ·rcases h2 with h2|⟨e2,h2⟩
  ·exact .inl (cmpN_trans _ _ _ h1 h2)
  ·left;have:=cmpN_eq e2 a.n;have f1:=cmpN_flip a.n b.n;have f2:=cmpN_flip a.n c.n;have g:=cmpN_flip b.n a.n;have k:cmpN b.n a.n=cmpN c.n a.n:=by
    have h9:=cmpN_eq e2 a.n;exact h9
   omega
 ·have k:cmpN a.n c.n=cmpN b.n c.n:=cmpN_eq e1 c.n;rcases h2 with h2|⟨e2,h2⟩
  ·left;omega
  ·right;refine⟨by omega, ?_⟩;rcases h1 with h1|⟨t1,h1⟩
   ·rcases h2 with h2|⟨t2,h2⟩
    ·left;omega
    ·left;omega
   ·rcases h2 with h2|⟨t2,h2⟩
    ·left;omega
    ·right;exact⟨by omega,cb_trans _ _ _ h1 h2⟩
theorem ltP.asym{a b:PR}(h1:ltP a b)(h2:ltP b a):False:=ltP.irr a (h1.trans h2)
def InC(F:Cont)(x:PR):Prop:=∃ds,F x.n x.t=some (x.ttl,ds)∧(x.d,x.c)∈ds
structure LstP(F:Cont)(L:List PR):Prop where
 srt:L.Pairwise ltP
 mem:∀x,x∈L↔InC F x
theorem srt_nodup{L:List PR}(h:L.Pairwise ltP):L.Nodup:=h.imp (fun{a b} h e=>by subst e;exact ltP.irr a h)
theorem srt_uniq{L L':List PR}(h:L.Pairwise ltP)(h':L'.Pairwise ltP)(hm:∀x,x∈L↔x∈L'):L=L':=
 List.Perm.eq_of_pairwise (le:=ltP) (fun _ _ _ _ h1 h2=>(ltP.asym h1 h2).elim) h h' ((List.perm_ext_iff_of_nodup (srt_nodup h) (srt_nodup h')).2 hm)
theorem LstP.uniq{F:Cont}{L L':List PR}(h:LstP F L)(h':LstP F L'):L=L':=srt_uniq h.srt h'.srt fun x=>(h.mem x).trans (h'.mem x).symm
def Sq.pairs(q:Sq):List (Lab×Lab):=q.ds.map fun d=>(d.1.l,d.2.l)
def contQ(Q:List Sq):Cont:=fun n t=>(Q.find? fun q=>decide (q.n=n)&&decide (q.t=t)).map fun q=>(q.ttl,q.pairs)
theorem contQ_elim{Q:List Sq}{n:List Lab}{t:Int}{x:Int×List (Lab×Lab)}(h:contQ Q n t=some x):∃q∈Q,q.n=n∧q.t=t∧x=(q.ttl,q.pairs):=by
 unfold contQ at h;obtain⟨q,hq,e⟩:=Option.map_eq_some_iff.1 h;have h1:=List.find?_some hq;rw[Bool.and_eq_true,decide_eq_true_iff,decide_eq_true_iff]at h1;exact⟨q,List.mem_of_find?_eq_some hq,h1.1,h1.2,e.symm⟩
theorem contQ_some{Q:List Sq}(hk:(Q.map fun q=>(q.n,q.t)).Nodup){q:Sq}(hq:q∈Q):contQ Q q.n q.t=some (q.ttl,q.pairs):=by
 cases h:contQ Q q.n q.t with
 |none=>
  exfalso;unfold contQ at h;rw[Option.map_eq_none_iff,List.find?_eq_none]at h;have:=h q hq;simp at this
 |some x=>
  obtain⟨r,hr,e1,e2,rfl⟩:=contQ_elim h;have:r=q:=uniq_of (fun q:Sq=>(q.n,q.t)) hk hr hq (by show(r.n,r.t)=(q.n,q.t);rw[e1,e2]);rw[this]
theorem contQ_none{Q:List Sq}{n:List Lab}{t:Int}:contQ Q n t=none↔∀q∈Q,¬(q.n=n∧q.t=t):=by
 unfold contQ;rw[Option.map_eq_none_iff,List.find?_eq_none];simp
theorem contQ_ext{Q:List Sq}(hk:(Q.map fun q=>(q.n,q.t)).Nodup)(G:Cont)(h1:∀q∈Q,G q.n q.t=some (q.ttl,q.pairs))(h2:∀n t x,G n t=some x→∃q∈Q,q.n=n∧q.t=t):contQ Q=G:=by
 funext n t;cases h:G n t with
 |none=>
  rw[contQ_none];rintro q hq ⟨rfl,rfl⟩;rw[h1 q hq]at h;cases h
 |some x=>
  obtain⟨q,hq,rfl,rfl⟩:=h2 n t x h;rw[contQ_some hk hq,←h1 q hq,h]
def updC(F:Cont)(n:List Lab)(t:Int)(v:Option (Int×List (Lab×Lab))):Cont:=fun m s=>if m=n∧s=t then v else F m s
theorem updC_at(F:Cont)(n:List Lab)(t:Int)(v:Option (Int×List (Lab×Lab))):updC F n t v n t=v:=if_pos ⟨rfl,rfl⟩
theorem updC_ne(F:Cont){n m:List Lab}{t s:Int}(v:Option (Int×List (Lab×Lab)))(h:¬(m=n∧s=t)):updC F n t v m s=F m s:=if_neg h
theorem updC_self(F:Cont)(n:List Lab)(t:Int):updC F n t (F n t)=F:=by
 funext m s;unfold updC;split
 ·rename_i h;rw[h.1,h.2]
 ·rfl
theorem contQ_upd{Q:List Sq}(hk:(Q.map fun q=>(q.n,q.t)).Nodup)(hs:(Q.map (·.s)).Nodup){q q2:Sq}(hq:q∈Q)(hn:q2.n=q.n)(ht:q2.t=q.t):contQ (updS Q q.s q2)=updC (contQ Q) q.n q.t (some (q2.ttl,q2.pairs)):=by
 have hk':((updS Q q.s q2).map fun q=>(q.n,q.t)).Nodup:=by rw[nt_updS hs hq hn ht];exact hk
 refine contQ_ext hk' _ (fun r hr=> ?_) (fun n t x hx=> ?_)
 ·rcases(mem_updS2 hs hq r).1 hr with rfl|⟨hr,hne⟩
  ·rw[hn,ht,updC_at]
  ·rw[updC_ne _ _ (fun e=>hne (uniq_of (fun q:Sq=>(q.n,q.t)) hk hr hq (by show(r.n,r.t)=(q.n,q.t);rw[e.1,e.2]))),contQ_some hk hr]
 ·by_cases e:n=q.n∧t=q.t
  ·exact⟨q2,(mem_updS2 hs hq q2).2 (.inl rfl),by rw[hn,e.1],by rw[ht,e.2]⟩
  ·rw[updC_ne _ _ e]at hx;obtain⟨r,hr,e1,e2,_⟩:=contQ_elim hx;refine⟨r,(mem_updS2 hs hq r).2 (.inr ⟨hr,fun e3=>e ?_⟩),e1,e2⟩;rw[←e1,←e2,e3];exact⟨rfl,rfl⟩
theorem contQ_add{Q:List Sq}(hk:(Q.map fun q=>(q.n,q.t)).Nodup){q2:Sq}(hn:∀q∈Q,¬(q.n=q2.n∧q.t=q2.t)):contQ (Q++[q2])=updC (contQ Q) q2.n q2.t (some (q2.ttl,q2.pairs)):=by
 have hk':((Q++[q2]).map fun q=>(q.n,q.t)).Nodup:=by
  rw[List.map_append];refine List.nodup_append.2 ⟨hk,by simp,fun a ha b hb e=> ?_⟩;simp at hb;obtain⟨r,hr,rfl⟩:=List.mem_map.1 ha;rw[hb]at e;injection e with e1 e2;exact hn r hr ⟨e1,e2⟩
 refine contQ_ext hk' _ (fun r hr=> ?_) (fun n t x hx=> ?_)
 ·rcases List.mem_append.1 hr with hr|hr
  ·rw[updC_ne _ _ (hn r hr),contQ_some hk hr]
  ·simp at hr;subst hr;rw[updC_at]
 ·by_cases e:n=q2.n∧t=q2.t
  ·exact⟨q2,by simp,e.1.symm,e.2.symm⟩
  ·rw[updC_ne _ _ e]at hx;obtain⟨r,hr,e1,e2,_⟩:=contQ_elim hx;exact⟨r,by simp[hr],e1,e2⟩
theorem contQ_del{Q:List Sq}(hk:(Q.map fun q=>(q.n,q.t)).Nodup)(hs:(Q.map (·.s)).Nodup){q:Sq}(hq:q∈Q):contQ (delQ Q q.s)=updC (contQ Q) q.n q.t none:=by
 have hk':((delQ Q q.s).map fun q=>(q.n,q.t)).Nodup:=hk.sublist ((List.filter_sublist).map _);refine contQ_ext hk' _ (fun r hr=> ?_) (fun n t x hx=> ?_)
 ·obtain⟨hr,hne⟩:=mem_delQ.1 hr;rw[updC_ne _ _ (fun e=>hne (by rw[uniq_of (fun q:Sq=>(q.n,q.t)) hk hr hq (by show(r.n,r.t)=(q.n,q.t);rw[e.1,e.2])])),contQ_some hk hr]
 ·by_cases e:n=q.n∧t=q.t
  ·rw[e.1,e.2,updC_at]at hx;cases hx
  ·rw[updC_ne _ _ e]at hx;obtain⟨r,hr,e1,e2,_⟩:=contQ_elim hx;refine⟨r,mem_delQ.2 ⟨hr,fun e3=>e ?_⟩,e1,e2⟩;have:=uniq_s hs hr hq e3;subst this;exact⟨e1.symm,e2.symm⟩
def insA:List (Lab×Lab)→Lab→Lab→List (Lab×Lab)
 |[],d,c=>[(d,c)]
 |e::r,d,c=>if Lib.compareBytes e.2 c < 0 then e::insA r d c else(d,c)::e::r
def pairs(ds:List (Blob×Blob)):List (Lab×Lab):=ds.map fun d=>(d.1.l,d.2.l)
theorem pairs_ins:∀{ds:List (Blob×Blob)} {p:Nat} {d c:Lab} {b1 b2:Blob},FindAt ds c p→b1.l=d→b2.l=c→pairs (insD ds p (b1,b2))=insA (pairs ds) d c
 |[],p,d,c,b1,b2,h,h1,h2=>by
  have:p=0:=by have:=h.1;simpa using this
  subst this;simp[insD,pairs,insA,h1,h2]
 |e::ds,0,d,c,b1,b2,h,h1,h2=>by
  have h3:=h.2.2 0 (by simp) (Nat.le_refl _);simp only[List.getElem_cons_zero]at h3;simp[insD,pairs,insA,h1,h2,h3]
 |e::ds,p+1,d,c,b1,b2,h,h1,h2=>by
  have h3:=h.2.1 0 (by simp) (by omega);simp only[List.getElem_cons_zero]at h3;have h4:FindAt ds c p:=⟨by have:=h.1;simpa using this,fun j hj hjp=>by
   have:=h.2.1 (j+1) (by simpa using hj) (by omega);simpa using this,fun j hj hjp=>by
   have:=h.2.2 (j+1) (by simpa using hj) (by omega);simpa using this⟩
  have ih:=pairs_ins h4 h1 h2;have e1:insD (e::ds) (p+1) (b1,b2)=e::insD ds p (b1,b2):=by simp[insD]
  rw[e1];show(e.1.l,e.2.l)::pairs (insD ds p (b1,b2))=insA ((e.1.l,e.2.l)::pairs ds) d c;rw[ih];simp only[insA];rw[if_pos h3]
theorem pairs_erase:∀{ds:List (Blob×Blob)} {i:Nat} {c:Lab},SortD ds→(∃h:i < ds.length,(ds[i]).2.l=c)→pairs (ds.eraseIdx i)=(pairs ds).filter fun e=> !(e.2==c)
 |[],i,c,_,⟨h,_⟩=>by simp at h
 |e::ds,0,c,hs,⟨_,h⟩=>by
  obtain⟨h1,h2⟩:=List.pairwise_cons.1 hs;simp only[List.getElem_cons_zero]at h;have:(pairs ds).filter (fun e=> !(e.2==c))=pairs ds:=List.filter_eq_self.2 fun x hx=>by
   obtain⟨y,hy,rfl⟩:=List.mem_map.1 hx;have h3:=h1 y hy;have h4:¬y.2.l=c:=fun e2=>by
    rw[e2,h,(cb_zero c c).2 rfl]at h3;omega
   simpa using h4
  show pairs ds=_;rw[show pairs (e::ds)=(e.1.l,e.2.l)::pairs ds from rfl,List.filter_cons,if_neg (by simp[h]),this]
 |e::ds,i+1,c,hs,⟨hi,h⟩=>by
  obtain⟨h1,h2⟩:=List.pairwise_cons.1 hs;have hi':i < ds.length:=by simpa using hi
  simp only[List.getElem_cons_succ]at h;have ih:=pairs_erase h2 ⟨hi',h⟩;have h3:=h1 _ (List.getElem_mem hi');have h4:¬e.2.l=c:=fun e2=>by
   rw[h,e2,(cb_zero c c).2 rfl]at h3;omega
  show(e.1.l,e.2.l)::pairs (ds.eraseIdx i)=_;rw[ih,show pairs (e::ds)=(e.1.l,e.2.l)::pairs ds from rfl,List.filter_cons,if_pos (by simpa using h4)]
def putC(F:Cont)(n:List Lab)(t ttl:Int)(d c:Lab):Cont×Bool:=match F n t with
 |none=>(updC F n t (some (ttl,[(d,c)])),true)
 |some (t0,ds)=>if ds.any (fun e=>e.2==c)then(updC F n t (some (ttl,ds)),t0 !=ttl)else(updC F n t (some (ttl,insA ds d c)),true)
theorem any_pairs{q:Sq}{c:Lab}:(q.pairs.any fun e=>e.2==c)=true↔∃e∈q.ds,e.2.l=c:=by
 unfold Sq.pairs;rw[List.any_map,List.any_eq_true];simp
theorem PutR.cont{ap n:List Lab}{t ttl:Int}{d c:Lab}{P P':List Nq}{Q Q':List Sq}{r:Bool}(h:PutR n t ttl d c P Q P' Q' r)(hw:Wf ap P Q)(hs:(Q.map (·.s)).Nodup):putC (contQ Q) (lower n) t ttl d c=(contQ Q',r):=by
 have hk:=hw.kQ;rcases h with⟨q,hq,hqn,hqt,hit,e1,rfl,rfl,rfl⟩|⟨q,hq,hqn,hqt,hit,e1,rfl,rfl,rfl⟩|⟨q,hq,hqn,hqt,hno,rfl,rfl,v,b1,b2,p,e1,e2,hf,rfl⟩|⟨hno,hpe,rfl,rfl,s,v,b1,b2,e1,e2,rfl⟩|⟨hno,rfl,x,bs,s,v,b1,b2,e1,e2,rfl,rfl⟩
 ·have hc:=contQ_some hk hq;rw[hqn,hqt]at hc;unfold putC;rw[hc];simp only;rw[if_pos (any_pairs.2 hit),e1];refine Prod.ext ?_ (by simp);simp only;rw[←e1,←hc,updC_self]
 ·have hc:=contQ_some hk hq;rw[hqn,hqt]at hc;unfold putC;rw[hc];simp only;rw[if_pos (any_pairs.2 hit),contQ_upd hk hs hq (by rfl) (by rfl),hqn,hqt];refine Prod.ext rfl ?_;simpa using e1
 ·have hc:=contQ_some hk hq;rw[hqn,hqt]at hc;unfold putC;rw[hc];simp only;rw[if_neg (fun e=>by obtain⟨x,h1,h2⟩:=any_pairs.1 e;exact hno x h1 h2),contQ_upd hk hs hq (by rfl) (by rfl),hqn,hqt];refine Prod.ext ?_ rfl;have:=pairs_ins hf e1 e2;show updC _ _ _ (some (ttl,insA (pairs q.ds) d c))=updC _ _ _ (some (ttl,pairs (insD q.ds p (b1,b2))));rw[this]
 ·have hc:contQ Q (lower n) t=none:=contQ_none.2 hno;unfold putC;rw[hc];simp only;rw[contQ_add hk hno];refine Prod.ext ?_ rfl;simp[Sq.pairs,e1,e2]
 ·have hno':∀q∈Q,¬(q.n=lower n∧q.t=t):=fun q hq e=>by
   obtain⟨p,hp,hpn⟩:=hw.own q hq;exact hno p hp (hpn.trans e.1)
  have hc:contQ Q (lower n) t=none:=contQ_none.2 hno';unfold putC;rw[hc];simp only;rw[contQ_add hk hno'];refine Prod.ext ?_ rfl;simp[Sq.pairs,e1,e2]
def dropC(F:Cont)(n:List Lab)(t:Int)(c:Lab):Cont×Bool:=match F n t with
 |none=>(F,false)
 |some (t0,ds)=>if ds.any (fun e=>e.2==c)then(updC F n t (if(ds.filter fun e=> !(e.2==c))=[]then none else some (t0,ds.filter fun e=> !(e.2==c))),true)else(F,false)
theorem DropR.cont{ap n:List Lab}{t:Int}{c:Lab}{P P':List Nq}{Q Q':List Sq}{r:Bool}(h:DropR n t c P Q P' Q' r)(hw:Wf ap P Q)(hs:(Q.map (·.s)).Nodup):dropC (contQ Q) (lower n) t c=(contQ Q',r):=by
 have hk:=hw.kQ;rcases h with⟨hno,rfl,rfl,rfl⟩|⟨q,hq,hqn,hqt,rfl,i,v,hf,hit,hcase⟩
 ·unfold dropC;cases hc:contQ Q' (lower n) t with
  |none=>rfl
  |some x=>
   obtain⟨q,hq,e1,e2,rfl⟩:=contQ_elim hc;simp only;rw[if_neg (fun e=>by obtain⟨x,h1,h2⟩:=any_pairs.1 e;exact hno q hq e1 e2 x h1 h2)]
 ·have hc:=contQ_some hk hq;rw[hqn,hqt]at hc;have hp:=pairs_erase (hw.srt q hq) hit;have hany:(q.pairs.any fun e=>e.2==c)=true:=any_pairs.2 (by obtain⟨hi,e⟩:=hit;exact⟨_,List.getElem_mem hi,e⟩);unfold dropC;rw[hc];simp only;rw[if_pos hany];have hpe:q.pairs.filter (fun e=> !(e.2==c))=pairs (q.ds.eraseIdx i):=hp.symm;rw[hpe]
  have hnil:pairs (q.ds.eraseIdx i)=[]↔q.ds.eraseIdx i=[]:=List.map_eq_nil_iff;rcases hcase with⟨hne,rfl,rfl⟩|⟨he,_,rfl,rfl⟩|⟨he,_,rfl,rfl⟩
  ·rw[if_neg (fun e=>hne (hnil.1 e)),contQ_upd hk hs hq (by rfl) (by rfl),hqn,hqt];rfl
  ·rw[if_pos (hnil.2 he),contQ_del hk hs hq,hqn,hqt]
  ·rw[if_pos (hnil.2 he),contQ_del hk hs hq,hqn,hqt]
def lenC:Option (Int×List (Lab×Lab))→Nat
 |none=>0
 |some x=>x.2.length
theorem DelR.cont{ap n:List Lab}{t:Int}{P P':List Nq}{Q Q':List Sq}{k:Nat}(h:DelR n t P Q P' Q' k)(hw:Wf ap P Q)(hs:(Q.map (·.s)).Nodup):contQ Q'=updC (contQ Q) (lower n) t none∧k=lenC (contQ Q (lower n) t):=by
 have hk:=hw.kQ;rcases h with⟨hno,rfl,rfl,rfl⟩|⟨q,hq,hqn,hqt,rfl,rfl,_⟩
 ·have hc:contQ Q' (lower n) t=none:=contQ_none.2 hno;refine⟨?_,by rw[hc];rfl⟩;rw[←hc,updC_self]
 ·have hc:=contQ_some hk hq;rw[hqn,hqt]at hc;rw[contQ_del hk hs hq,hqn,hqt,hc];exact⟨rfl,by simp[lenC,Sq.pairs]⟩
def recsQ(Q:List Sq)(ns:List (List Lab)):List PR:=ns.flatMap fun n=>(secs Q n).flatMap fun q=>q.ds.map fun d=>⟨q.n,q.t,q.ttl,d.1.l,d.2.l⟩
theorem recsQ_says(Q:List Sq)(ns:List (List Lab)):(recsQ Q ns).map PR.says=ns.flatMap (saysN Q):=by
 unfold recsQ saysN saysQ;rw[List.map_flatMap];congr 1;funext n;rw[List.map_flatMap];congr 1;funext q;rw[List.map_map];rfl
theorem mem_recsQ{Q:List Sq}{ns:List (List Lab)}{x:PR}:x∈recsQ Q ns↔∃q∈Q,q.n∈ns∧∃d∈q.ds,x=⟨q.n,q.t,q.ttl,d.1.l,d.2.l⟩:=by
 unfold recsQ;constructor
 ·intro h;obtain⟨n,hn,h⟩:=List.mem_flatMap.1 h;obtain⟨q,hq,h⟩:=List.mem_flatMap.1 h;obtain⟨d,hd,h⟩:=List.mem_map.1 h;obtain⟨h1,h2⟩:=mem_setsOf.1 ((secs_perm Q n).mem_iff.1 hq);exact⟨q,h1,by rw[h2];exact hn,d,hd,h.symm⟩
 ·rintro⟨q,hq,hn,d,hd,rfl⟩;exact List.mem_flatMap.2 ⟨q.n,hn,List.mem_flatMap.2 ⟨q,(secs_perm Q q.n).mem_iff.2 (mem_setsOf.2 ⟨hq,rfl⟩),List.mem_map.2 ⟨d,hd,rfl⟩⟩⟩
theorem recsQ_lst{ap:List Lab}{P:List Nq}{Q:List Sq}(hw:Wf ap P Q){ns:List (List Lab)}(hp:ns.Perm (P.map (·.n)))(hs:ns.Pairwise fun a b=>¬cmpN b a < 0):LstP (contQ Q) (recsQ Q ns):=by
 have hlow:∀n∈ns,lower n=n:=fun n hn=>by
  obtain⟨p,hp,rfl⟩:=List.mem_map.1 (hp.mem_iff.1 hn);exact(hw.ok p hp).low
 have hin:∀q∈Q,q.n∈ns:=fun q hq=>by
  obtain⟨p,hpp,e⟩:=hw.own q hq;exact hp.mem_iff.2 (List.mem_map.2 ⟨p,hpp,e⟩)
 have hnd:ns.Nodup:=hp.nodup_iff.2 hw.kP;have hsn:∀n,∀q∈secs Q n,q∈Q∧q.n=n:=fun n q hq=>mem_setsOf.1 ((secs_perm Q n).mem_iff.1 hq);refine⟨?_,fun x=> ?_⟩
 ·unfold recsQ;rw[List.pairwise_flatMap];refine⟨fun n hn=> ?_,(hs.and hnd).imp_of_mem fun{a b} ha hb hab x hx y hy=> ?_⟩
  ·rw[List.pairwise_flatMap];have hnt:((secs Q n).map (·.t)).Nodup:=by
    have h1:((setsOf Q n).map fun q=>(q.n,q.t)).Nodup:=hw.kQ.sublist ((List.filter_sublist).map _);have h2:((secs Q n).map fun q=>(q.n,q.t)).Nodup:=((secs_perm Q n).map _).nodup_iff.2 h1;refine(List.pairwise_map.2 ((List.pairwise_map.1 h2).imp_of_mem fun{a b} ha hb hab e=>hab ?_));have e1:=(hsn n a ha).2;have e2:=(hsn n b hb).2;show(a.n,a.t)=(b.n,b.t)
    rw[e1,e2,e]
   refine⟨fun q hq=> ?_,((secs_sorted Q n).and (List.pairwise_map.1 hnt)).imp_of_mem fun{a b} ha hb hab x hx y hy=> ?_⟩
   ·rw[List.pairwise_map];exact(hw.srt q (hsn n q hq).1).imp fun{a b} hab=>.inr ⟨(cmpN_zero _ _).2 rfl,.inr ⟨rfl,hab⟩⟩
   ·obtain⟨_,_,rfl⟩:=List.mem_map.1 hx;obtain⟨_,_,rfl⟩:=List.mem_map.1 hy;refine .inr ⟨(cmpN_zero _ _).2 (by show lower a.n=lower b.n;rw[(hsn n a ha).2,(hsn n b hb).2]),.inl ?_⟩;show a.t < b.t;have h1:=hab.1;have h2:a.t≠b.t:=hab.2;omega
  ·obtain⟨qa,hqa,hx⟩:=List.mem_flatMap.1 hx;obtain⟨qb,hqb,hy⟩:=List.mem_flatMap.1 hy;obtain⟨_,_,rfl⟩:=List.mem_map.1 hx;obtain⟨_,_,rfl⟩:=List.mem_map.1 hy;left;show cmpN qa.n qb.n < 0;rw[(hsn a qa hqa).2,(hsn b qb hqb).2];have h1:=hab.1;have h2:=cmpN_flip a b;have h3:cmpN a b≠0:=fun e=>by
    have:=(cmpN_zero a b).1 e;rw[hlow a ha,hlow b hb]at this;exact hab.2 this
   omega
 ·rw[mem_recsQ];constructor
  ·rintro⟨q,hq,_,d,hd,rfl⟩;exact⟨q.pairs,contQ_some hw.kQ hq,List.mem_map.2 ⟨d,hd,rfl⟩⟩
  ·rintro⟨ds,h1,h2⟩;obtain⟨q,hq,e1,e2,e3⟩:=contQ_elim h1;injection e3 with e3 e4;rw[e4]at h2;obtain⟨d,hd,e5⟩:=List.mem_map.1 h2;injection e5 with e5 e6;refine⟨q,hq,hin q hq,d,hd, ?_⟩;cases x;simp only at e1 e2 e3 e5 e6;subst e1 e2 e3 e5 e6;rfl
theorem recsQ_len{ap:List Lab}{P:List Nq}{Q:List Sq}(hw:Wf ap P Q){ns:List (List Lab)}(hp:ns.Perm (P.map (·.n))):(recsQ Q ns).length=total Q:=by
 have h1:=congrArg List.length (recsQ_says Q ns);rw[List.length_map]at h1;rw[h1];exact all_total (hp.nodup_iff.2 hw.kP) fun q hq=>by
  obtain⟨p,hpp,e⟩:=hw.own q hq;exact hp.mem_iff.2 (List.mem_map.2 ⟨p,hpp,e⟩)
section
variable (w:World) (B z bn bb:Nat) (ap:List Lab) (c:Int) (f:Lab→Int) (N:Nat) (h:Zn w B z bn bb ap c (.map []) f N)

end
end Nm
namespace Nm
theorem wire_low_len(n:List Lab):(wire (lower n)).length=(wire n).length:=by
 unfold wire lower wires;simp[List.length_flatMap,Function.comp_def,wire1,low_len]
theorem inZ_low{ap n:List Lab}(h1:Small n)(h2:nameE n=0)(h3:within n ap=true):InZ ap (lower n):=by
 refine⟨lower_idem n,h1.lower, ?_, ?_⟩
 ·obtain⟨g1,g2⟩:=nameE_zero.1 h2;refine nameE_zero.2 ⟨fun l hl=> ?_,by rw[wire_low_len];exact g2⟩;unfold lower at hl;obtain⟨x,hx,rfl⟩:=List.mem_map.1 hl;rw[low_len];exact g1 x hx
 ·obtain⟨g1,g2⟩:=(within_iff n ap).1 h3;refine(within_iff _ _).2 ⟨by rw[lower_len];exact g1, ?_⟩;rw[lower_len,←g2];have:(lower n).drop (n.length - ap.length)=lower (n.drop (n.length - ap.length)):=by unfold lower;rw[List.map_drop]
  rw[this,lower_idem]
structure Zo(w:World)(B z:Nat)(S:Nat→Prop)(ap:List Lab)(F:Cont)(N T:Nat):Prop where
 ex:∃bn bb P Q,ZG w B z bn bb ap P Q N∧Wf ap P Q∧contQ Q=F∧total Q=T∧S=zblk z bn bb P Q
def Few12(F:Cont):Prop:=∀n,∃l:List Int,l.length≤12∧∀t,F n t≠none→t∈l
def ShortC(F:Cont):Prop:=∀n t ttl ds,F n t=some (ttl,ds)→∀e∈ds,e.1.length≤100000
theorem few_sets{ap:List Lab}{P:List Nq}{Q:List Sq}(hw:Wf ap P Q)(h:Few12 (contQ Q))(n:List Lab):(setsOf Q n).length≤12:=by
 obtain⟨l,h1,h2⟩:=h n;have hnd:((setsOf Q n).map (·.t)).Nodup:=by
  have h1:((setsOf Q n).map fun q=>(q.n,q.t)).Nodup:=hw.kQ.sublist ((List.filter_sublist).map _);refine List.pairwise_map.2 ((List.pairwise_map.1 h1).imp_of_mem fun{a b} ha hb hab e=>hab ?_);show(a.n,a.t)=(b.n,b.t)
  rw[(mem_setsOf.1 ha).2,(mem_setsOf.1 hb).2,e]
 have hsub:∀t∈(setsOf Q n).map (·.t),t∈l:=fun t ht=>by
  obtain⟨q,hq,rfl⟩:=List.mem_map.1 ht;obtain⟨h3,h4⟩:=mem_setsOf.1 hq;refine h2 _ ?_;rw[←h4,contQ_some hw.kQ h3];simp
 have:=List.Nodup.length_le_of_subset hnd hsub;rw[List.length_map]at this;omega
theorem lens_of{Q:List Sq}(hk:(Q.map fun q=>(q.n,q.t)).Nodup)(h:ShortC (contQ Q)):LensQ Q:=fun q hq d hd=>
 h _ _ _ _ (contQ_some hk hq) (d.1.l,d.2.l) (List.mem_map.2 ⟨d,hd,rfl⟩)
section
variable {w w':World} {B z:Nat} {S:Nat→Prop} {ap:List Lab} {F:Cont} {N T:Nat}
theorem Zo.ext(h:Zo w B z S ap F N T)(hb:Below w.heap.size w w'):Zo w' B z S ap F N T:=by
 obtain⟨bn,bb,P,Q,h1,h2⟩:=h.ex;exact⟨bn,bb,P,Q,h1.ext hb,h2⟩
theorem Zo.lt(h:Zo w B z S ap F N T){k:Nat}(hk:S k):k < w.heap.size∧B≤k:=by
 obtain⟨bn,bb,P,Q,h1,_,_,_,rfl⟩:=h.ex;exact h1.lt hk
theorem Zo.at_z(h:Zo w B z S ap F N T):S z:=by
 obtain⟨bn,bb,P,Q,h1,_,_,_,rfl⟩:=h.ex;exact .inl rfl
theorem Zo.zonal(h:Zo w B z S ap F N T):Zonal S w:=by
 obtain⟨bn,bb,P,Q,h1,_,_,_,rfl⟩:=h.ex;exact h1.zonal
theorem Zo.kept{S':Nat→Prop}(h:Zo w B z S ap F N T)(hk:Kept S' w w')(hZ:Zonal S' w)(hS:∀k,S' k→¬S k):Zo w' B z S ap F N T:=by
 obtain⟨bn,bb,P,Q,h1,h2,h3,h4,rfl⟩:=h.ex;exact⟨bn,bb,P,Q,h1.kept hk hZ hS,h2,h3,h4,rfl⟩
theorem Zo.lst(h:Zo w B z S ap F N T):∃L,LstP F L∧L.length=T:=by
 obtain⟨bn,bb,P,Q,h1,h2,rfl,rfl,rfl⟩:=h.ex;have hp:((P.map (·.n)).mergeSort fun a b=>decide (¬cmpN b a < 0)).Perm (P.map (·.n)):=List.mergeSort_perm _ _;refine⟨recsQ Q _,recsQ_lst h2 hp ?_,recsQ_len h2 hp⟩;refine(List.pairwise_mergeSort (le:=fun a b=>decide (¬cmpN b a < 0)) (fun a b c h1 h2=> ?_) (fun a b=> ?_) _).imp (fun h=>by simpa using h)
 ·simp only[decide_eq_true_eq]at h1 h2 ⊢;intro h3;have f1:=cmpN_flip a b;have f2:=cmpN_flip b c;by_cases e:cmpN a b=0
  ·have e1:cmpN b c=cmpN a c:=(cmpN_eq e c).symm;have:=cmpN_flip a c;omega
  ·have:=cmpN_trans c a b h3 (by omega);omega
 ·simp only[decide_eq_true_eq,Bool.or_eq_true];have:=cmpN_flip a b;omega
theorem Zo.total_eq(h:Zo w B z S ap F N T){L:List PR}(hL:LstP F L):L.length=T:=by
 obtain⟨L',h1,h2⟩:=h.lst;rw[hL.uniq h1,h2]
theorem Zo.good(h:Zo w B z S ap F N T){n:List Lab}{t ttl:Int}{ds:List (Lab×Lab)}(hf:F n t=some (ttl,ds)):InZ ap n∧(Lit.int .u16 t).wf=true∧ds≠[]∧ds.Pairwise (fun a b=>Lib.compareBytes a.2 b.2 < 0)∧ds.length≤T:=by
 obtain⟨bn,bb,P,Q,h1,h2,rfl,rfl,rfl⟩:=h.ex;obtain⟨q,hq,rfl,rfl,e⟩:=contQ_elim hf;injection e with e1 e2;subst e2;obtain⟨p,hp,e⟩:=h2.own q hq;refine⟨by rw[←e];exact h2.ok p hp,h2.wt q hq,fun e2=>h2.full q hq (List.map_eq_nil_iff.1 e2), ?_, ?_⟩
 ·unfold Sq.pairs;rw[List.pairwise_map];exact h2.srt q hq
 ·unfold Sq.pairs;rw[List.length_map];exact len_total hq
theorem Zo.size(h:Zo w B z S ap F N T):B≤w.heap.size:=by
 have:=h.lt h.at_z;omega
theorem Zo.len(h:Zo w B z S ap F N T):Calls prog 15 #[.pointer (some ⟨z,0,none⟩)] w fun e w'=>e=.returned (.int .i64 (T:Int))∧w=w':=by
 obtain⟨bn,bb,P,Q,h1,h2,rfl,rfl,rfl⟩:=h.ex;obtain⟨D,hz,_⟩:=h1.zn;exact ZLen w B z bn bb ap _ D _ N hz
theorem Zo.put(h:Zo w B z S ap F N T)(An:Option Addr)(n:List Lab)(cn:Nat)(Ad:Option Addr)(d:Lab)(cd:Nat)(t ttl:Int)(hAn:Cs w An (n.map strV))(hAd:w.ownsRow 0 5 1 (.slice Ad d.length cd) d.length (d.map byteV))(c:Lab)(hr:RecG n ap t d c cn cd)
 (hap:Small ap) (hap1:1≤ap.length) (hapl:lower ap=ap) (hN:N≤2000000000000) (ht:T≤900):
 Calls prog 50 #[.pointer (some ⟨z,0,none⟩),.agg #[.slice An n.length cn,.int .u16 t,.int .u16 1,.int .u32 ttl,.slice Ad d.length cd]] w fun e w'=>∃S' N' T',e=.returned (.tuple #[.bool (putC F (lower n) t ttl d c).2,.int .i64 0])∧Zo w' B z S' ap (putC F (lower n) t ttl d c).1 N' T'∧N'≤N+2000∧T'≤T+1∧
  Kept S w w'∧(∀k,S' k→S k∨w.heap.size≤k):=by
 obtain⟨bn,bb,P,Q,h1,h2,rfl,rfl,rfl⟩:=h.ex;have hPl:=h2.len_le;refine(ZPut w B z bn bb ap n P Q N h1 h2 An cn Ad d cd t ttl hAn hAd c hr hap hap1 hapl hN ht (by omega)).mono ?_;rintro e w' ⟨P',Q',N',r,rfl,g1,g2,g3,g4,g5⟩;have hw':=g5.wf h2 h1.ds hr.small hr.name hr.inn hr.wf (inZ_low hr.small hr.name hr.inn);have hc:=g5.cont h2 h1.ds;rw[hc]
 refine⟨_,N',total Q',rfl,⟨bn,bb,P',Q',g1,hw',rfl,rfl,rfl⟩,g2, ?_,g3,g4⟩;have hk:=hw'.total_le (l:=(lower n,t,c)::keysQ Q) fun k hk=>by
  rcases(g5.keys h1.ds k).1 hk with e|e
  ·exact List.mem_cons_of_mem _ e
  ·exact e▸List.mem_cons_self
 rw[List.length_cons,keysQ_len]at hk;exact hk
theorem Zo.dropSet(h:Zo w B z S ap F N T)(An:Option Addr)(n:List Lab)(cn:Nat)(t:Int)(hAn:w.ownsRow 0 9 1 (.slice An n.length cn) n.length (n.map strV))(hn:Small n)(hne:nameE n=0)(hwt:(Lit.int .u16 t).wf=true)
 (hap1:1≤ap.length) (hapn:ap.length≤n.length) (hN:N≤2000000000000) (ht:T≤900) (h255:¬t=255):
 Calls prog 56 #[.pointer (some ⟨z,0,none⟩),.slice An n.length cn,.int .u16 t] w fun e w'=>∃S' N' T',e=.returned (.int .i64 ((lenC (F (lower n) t):Nat):Int))∧Zo w' B z S' ap (updC F (lower n) t none) N' T'∧N'≤N+2000∧T'+lenC (F (lower n) t)=T∧
  Kept S w w'∧(∀k,S' k→S k):=by
 obtain⟨bn,bb,P,Q,h1,h2,rfl,rfl,rfl⟩:=h.ex;have hPl:=h2.len_le;refine(ZDropSetT w B z bn bb ap n P Q N h1 h2 An cn t hAn hn hne hwt hap1 hapn hN ht (by omega) h255).mono ?_;rintro e w' ⟨P',Q',N',k,rfl,g1,g2,g3,g4,g5⟩;obtain⟨c1,c2⟩:=g5.cont h2 h1.ds;subst c2;exact⟨_,N',total Q',rfl,⟨bn,bb,P',Q',g1,g5.wf h2 h1.ds,c1,rfl,rfl⟩,g2,(g5.less h1.ds).1,g3,g4⟩
theorem DropR.less{n:List Lab}{t:Int}{c:Lab}{P P':List Nq}{Q Q':List Sq}{r:Bool}(h:DropR n t c P Q P' Q' r)(hs:(Q.map (·.s)).Nodup):total Q'+(if r then 1 else 0)=total Q:=by
 rcases h with⟨hno,rfl,rfl,rfl⟩|⟨q,hq,hqn,hqt,rfl,i,v,hf,⟨hi,hit⟩,hcase⟩
 ·simp
 ·have hl:(q.ds.eraseIdx i).length+1=q.ds.length:=by rw[List.length_eraseIdx];rw[if_pos hi];omega
  rcases hcase with⟨hne,rfl,rfl⟩|⟨he,_,rfl,rfl⟩|⟨he,_,rfl,rfl⟩
  ·have:=total_updS hs hq (q2:={q with v:=v,ds:=q.ds.eraseIdx i});simp only[if_true];have e:({q with v:=v,ds:=q.ds.eraseIdx i}:Sq).ds.length=(q.ds.eraseIdx i).length:=rfl;omega
  ·have:=total_delQ hs hq;rw[he]at hl;simp at hl;simp only[if_true];omega
  ·have:=total_delQ hs hq;rw[he]at hl;simp at hl;simp only[if_true];omega
theorem Zo.drop(h:Zo w B z S ap F N T)(An:Option Addr)(n:List Lab)(cn:Nat)(Ad:Option Addr)(d:Lab)(cd:Nat)(t cl ttl:Int)(hAn:w.ownsRow 0 9 1 (.slice An n.length cn) n.length (n.map strV))(hAd:w.ownsRow 0 5 1 (.slice Ad d.length cd) d.length (d.map byteV))(c:Lab)(hr:RecG n ap t d c cn cd)
 (hap1:1≤ap.length) (hapn:ap.length≤n.length) (hN:N≤2000000000000) (ht:T≤900):
 Calls prog 54 #[.pointer (some ⟨z,0,none⟩),.agg #[.slice An n.length cn,.int .u16 t,.int .u16 cl,.int .u32 ttl,.slice Ad d.length cd]] w fun e w'=>∃S' N' T',e=.returned (.bool (dropC F (lower n) t c).2)∧Zo w' B z S' ap (dropC F (lower n) t c).1 N' T'∧N'≤N+2000∧T'+(if(dropC F (lower n) t c).2 then 1 else 0)=T∧
  Kept S w w'∧(∀k,S' k→S k∨w.heap.size≤k):=by
 obtain⟨bn,bb,P,Q,h1,h2,rfl,rfl,rfl⟩:=h.ex;have hPl:=h2.len_le;refine(ZDrop w B z bn bb ap n P Q N h1 h2 An cn Ad d cd t cl ttl hAn hAd c hr hap1 hapn hN ht (by omega)).mono ?_;rintro e w' ⟨P',Q',N',r,rfl,g1,g2,g3,g4,g5⟩;have hc:=g5.cont h2 h1.ds;rw[hc];exact⟨_,N',total Q',rfl,⟨bn,bb,P',Q',g1,g5.wf h2 h1.ds,rfl,rfl,rfl⟩,g2,g5.less h1.ds,g3,g4⟩
theorem Zo.set_some(h:Zo w B z S ap F N T)(An:Option Addr)(n:List Lab)(cn:Nat)(t:Int)(hAn:Cs w An (n.map strV))(hn:Small n)(ht:T≤100000){ttl:Int}{ds:List (Lab×Lab)}(hF:F (lower n) t=some (ttl,ds))(hdl:∀e∈ds,e.1.length≤100000):
 Calls prog 24 #[.pointer (some ⟨z,0,none⟩),.slice An n.length cn,.int .u16 t] w fun e w'=>Below w.heap.size w w'∧∃Am cm Ad cd,∃bl:List Blob,e=.returned (.tuple #[.agg #[.slice Am n.length cm,.int .u16 t,.int .u32 ttl,.slice Ad ds.length cd],.bool true])∧w'.ownsRow w.heap.size 9 1 (.slice Am n.length cm) n.length ((lower n).map strV)∧w'.ownsRow w.heap.size 37 1 (.slice Ad ds.length cd) ds.length (bl.map Blob.v)∧bl.map (·.l)=ds.map (·.1)∧∀y∈bl,BlobOwn w' w.heap.size y:=by
 obtain⟨bn,bb,P,Q,h1,h2,rfl,rfl,rfl⟩:=h.ex;obtain⟨q,hq,hqn,hqt,e⟩:=contQ_elim hF;injection e with e1 e2;subst hqt e1 e2;obtain⟨p,hp,hpn⟩:=h2.own q hq;obtain⟨D,D2,hFo,_,_⟩:=h1.foc h2 hp hq hpn (n:=n) (by rw[hpn,hqn]);have hl:=len_total hq;have hle:q.pairs.length=q.ds.length:=by simp[Sq.pairs]
 have hme:q.pairs.map (·.1)=q.ds.map (·.1.l):=by simp[Sq.pairs]
 rw[hle,hme];exact ZSetG w B z bn bb p.x p.bs q.s ap n q.t q.ttl q.v q.ds _ D D2 _ N N hFo An cn hAn hn (h2.wt q hq) (by omega) (fun d hd=>hdl (d.1.l,d.2.l) (List.mem_map.2 ⟨d,hd,rfl⟩))
end
theorem SetNone(w:World)(z:Nat)(An:Option Addr)(n:List Lab)(cn:Nat)(t:Int)
 (hAt:∀W,Below w.heap.size w W→Calls prog 62 #[.pointer (some ⟨z,0,none⟩),.slice An n.length cn,.int .u16 t] W fun e w'=>e=.returned (.pointer none)∧Below W.heap.size W w'):
 Calls prog 24 #[.pointer (some ⟨z,0,none⟩),.slice An n.length cn,.int .u16 t] w fun e w'=>e=.returned (.tuple #[.agg #[.slice none 0 0,.int .u16 0,.int .u32 0,.slice none 0 0],.bool false])∧Below w.heap.size w w':=by
 have hb1:Below w.heap.size w (w.alloc (.cells #[.slice none 0 0,.int .u16 0,.int .u32 0,.slice none 0 0] 54)):=bAl;have hq1:=heap_alloc_new w (.cells #[.slice none 0 0,.int .u16 0,.int .u32 0,.slice none 0 0] 54);have HA:=hid (hAt _ hb1);clear hAt;go_enter func24,ntmps24;go_wp2_with fail;refine HA.out.mono ?_;rintro e w2 ⟨rfl,hb2⟩
 have hq2:=(hb2.block _ (lt_block hq1)).trans hq1;obtain⟨q0,q1,q2,q3,qf⟩:=cells4 hq2;have hF:=hb1.trans (hb2.mono hb1.size);clear HA hq1 hb1 hb2;go_wp2_with fail;have g0:=heap_set (i:=0) (v:=.slice none 0 0) hq2;have g1:=heap_set (i:=1) (v:=.int .u16 0) g0;have g2:=heap_set (i:=2) (v:=.int .u32 0) g1;have g3:=heap_set (i:=3) (v:=.slice none 0 0) g2
 have hF5:=(((hF.setCell (p:=⟨w.heap.size,0,none⟩) (Nat.le_refl _) (.slice none 0 0)).setCell (p:=⟨w.heap.size,1,none⟩) (Nat.le_refl _) (.int .u16 0)).setCell (p:=⟨w.heap.size,2,none⟩) (Nat.le_refl _) (.int .u32 0)).setCell (p:=⟨w.heap.size,3,none⟩) (Nat.le_refl _) (.slice none 0 0)
 generalize(((w2.setCell ⟨w.heap.size,0,none⟩ (.slice none 0 0)).setCell ⟨w.heap.size,1,none⟩ (.int .u16 0)).setCell ⟨w.heap.size,2,none⟩ (.int .u32 0)).setCell ⟨w.heap.size,3,none⟩ (.slice none 0 0)=W5 at *;obtain⟨r0,r1,r2,r3,_⟩:=cells4 (c0:=.slice none 0 0) (c1:=.int .u16 0) (c2:=.int .u32 0) (c3:=.slice none 0 0) (g:=w.heap.size) (T:=54) (w:=W5) (by simpa using g3)
 refine bodyPost_ret (v:=.tuple #[.agg #[.slice none 0 0,.int .u16 0,.int .u32 0,.slice none 0 0],.bool false]) ?_ rfl ⟨rfl,hF5⟩;simp[results,results24,go_sem,r0,r1,r2,r3]
theorem TypesNone(w:World)(z bn:Nat)(D:DataW Unit)(N:Nat)(An:Option Addr)(n:List Lab)(cn:Nat)(hz1:w.cell? ⟨z,1,none⟩=some (.map (some bn)))(hzl:z < w.heap.size)(hM:w.ownsMap prog 9 ptrR bn N D)(hat:D.atKey (.string (zkey n)) .nil=.nil)(hAn:Cs w An (n.map strV))(hn:Small n):
 Calls prog 33 #[.pointer (some ⟨z,0,none⟩),.slice An n.length cn] w fun e w'=>e=.returned (.slice none 0 0)∧Below w.heap.size w w':=by
 go_enter func33,ntmps33;go_wp2_with fail;refine wp_region_mono mixed0 (by kernel_rfl) [.is (.pointer (some ⟨z,0,none⟩)),.is (.pointer (some ⟨z,0,none⟩)),.is (.pointer (some ⟨z,1,none⟩)),.is (.map (some bn)),.is (.slice An n.length cn),.is (strV (zkey n)),.is (.pointer none),.is (.pointer none)] rfl ?_ ?_
 ·intro i q hio vals W hE haf;have e1:=(bcl (o:=1) hE hzl).trans hz1;have hl:(Instr.lookup 100 (.map (some bn)) (strV (zkey n)) false).run prog W=.ok (.pointer none) W:=look_ptr (hM.kept (row:=none) ⟨hE.os,hE.tape,hE.output,hE.size,fun k hk _=>hE.block k hk⟩ (by simp)) keyS underlying100 rfl (keyOf_str _ (zkey_len hn)) (o:=none) hat;rcases i with _|_|_|_|_|_|_|_|i
  all_goals first
   |(exfalso;simp at hio;done)
   |(simp at hio;subst hio;simp[bindD,rdB,Region.binds,factAt]at haf;simp[opU,go_sem,haf,e1,hl,Ext.refl,factAt];done)
   |skip
  all_goals
   simp at hio;subst hio;simp[bindD,rdB,Region.binds,factAt]at haf
  ·simp[opU,go_sem,haf,factAt];refine(ZKey An n cn W (hAn.below hE) hn).mono fun e W' h=> ?_;exact⟨h.1,h.2⟩
 ·intro vals W hE hF;simp only[facts]at hF;obtain⟨_,_,_,_,_,_,_,h7,_⟩:=hF;have h7:vals 7=.pointer none:=h7;simp[relAct,dstAt,Act.put];rw[h7];have hE:Below w.heap.size w W:=hE;go_wp2_with fail;go_ret;exact⟨rfl,hE⟩
section
variable {w w':World} {B z:Nat} {S:Nat→Prop} {ap:List Lab} {F:Cont} {N T:Nat}
theorem Zo.set_none(h:Zo w B z S ap F N T)(An:Option Addr)(n:List Lab)(cn:Nat)(t:Int)(hAn:Cs w An (n.map strV))(hn:Small n)(hne:nameE n=0)(hwt:(Lit.int .u16 t).wf=true)(hF:F (lower n) t=none):
 Calls prog 24 #[.pointer (some ⟨z,0,none⟩),.slice An n.length cn,.int .u16 t] w fun e w'=>e=.returned (.tuple #[.agg #[.slice none 0 0,.int .u16 0,.int .u32 0,.slice none 0 0],.bool false])∧Below w.heap.size w w':=by
 obtain⟨bn,bb,P,Q,h1,h2,rfl,rfl,rfl⟩:=h.ex;exact SetNone w z An n cn t fun W hW=>(h1.ext hW).atNone h2 hn hne hwt (contQ_none.1 hF) An cn (hAn.below hW)
theorem Zo.types(h:Zo w B z S ap F N T)(An:Option Addr)(n:List Lab)(cn:Nat)(hAn:Cs w An (n.map strV))(hn:Small n)(hne:nameE n=0)(h12:Few12 F):
 Calls prog 33 #[.pointer (some ⟨z,0,none⟩),.slice An n.length cn] w fun e w'=>∃v,∃ys:List Nat,e=.returned v∧ys.Pairwise (· < ·)∧(∀t:Int,F (lower n) t≠none↔∃y∈ys,(y:Int)=t)∧ys.length≤12∧w'.ownsRow w.heap.size 36 1 v ys.length (ys.map u16V)∧Below w.heap.size w w':=by
 obtain⟨bn,bb,P,Q,h1,h2,rfl,rfl,rfl⟩:=h.ex;by_cases hp:∃p∈P,p.n=lower n
 ·obtain⟨p,hp,hpn⟩:=hp;have hf:=few_sets h2 h12 p.n;refine(ZTypesG w B z bn bb ap P Q N h1 h2 p hp hf An n cn hAn hn (by rw[hpn,zkey_low])).mono ?_;rintro e w' ⟨v,ys,rfl,hs,hpm,hr,hb⟩;have hnd:((setsOf Q p.n).map (·.t)).Nodup:=by
   have h1:((setsOf Q p.n).map fun q=>(q.n,q.t)).Nodup:=h2.kQ.sublist ((List.filter_sublist).map _);refine List.pairwise_map.2 ((List.pairwise_map.1 h1).imp_of_mem fun{a b} ha hb hab e=>hab ?_);show(a.n,a.t)=(b.n,b.t)
   rw[(mem_setsOf.1 ha).2,(mem_setsOf.1 hb).2,e]
  have hyn:=hpm.nodup_iff.2 hnd;refine⟨v,ys,rfl, ?_,fun t=> ?_,by have:=hpm.length_eq;simp at this;omega,hr,hb⟩
  ·have h3:=List.pairwise_map.1 hyn;exact(hs.and h3).imp fun{a b} hab=>by
    have h4:=hab.1;have h5:(a:Int)≠(b:Int):=hab.2;omega
  ·constructor
   ·intro ht;cases hc:contQ Q (lower n) t with
    |none=>exact absurd hc ht
    |some x=>
     obtain⟨q,hq,e1,e2,_⟩:=contQ_elim hc;have:t∈(setsOf Q p.n).map (·.t):=List.mem_map.2 ⟨q,mem_setsOf.2 ⟨hq,by rw[hpn,e1]⟩,e2⟩;obtain⟨y,hy,e⟩:=List.mem_map.1 (hpm.mem_iff.2 this);exact⟨y,hy,e⟩
   ·rintro⟨y,hy,rfl⟩ hc;have:(y:Int)∈(setsOf Q p.n).map (·.t):=hpm.mem_iff.1 (List.mem_map.2 ⟨y,hy,rfl⟩);obtain⟨q,hq,e⟩:=List.mem_map.1 this;obtain⟨h3,h4⟩:=mem_setsOf.1 hq;exact contQ_none.1 hc q h3 ⟨by rw[h4,hpn],e⟩
 ·have hp':∀p∈P,p.n≠lower n:=fun p hp1 h2=>hp ⟨p,hp1,h2⟩;have hkey:∀e∈P.map Nq.ent,e.1≠Lit.string (zkey n):=fun e he=>by
   obtain⟨p,hp1,rfl⟩:=List.mem_map.1 he;intro e3;have e3:Lit.string (zkey p.n)=Lit.string (zkey n):=e3;injection e3 with e3;have:=zkey_inj (h2.ok p hp1).ok hne e3;rw[(h2.ok p hp1).low]at this;exact hp' p hp1 this
  obtain⟨D,hz,hD⟩:=h1.zn;obtain⟨A,ca,g1,_⟩:=hz.blk;obtain⟨_,z1,_⟩:=cells4 g1;refine(TypesNone w z bn D N An n cn z1 (lt_block g1) hz.nodes (hD.at_not hkey _) hAn hn).mono ?_;rintro e w' ⟨rfl,hb⟩;refine⟨_,[],rfl,List.Pairwise.nil,fun t=>⟨fun ht=> ?_,fun⟨y,hy,_⟩=>(by cases hy)⟩,by simp,World.ownsRow_nil _ _ _ _,hb⟩;cases hc:contQ Q (lower n) t with
  |none=>exact absurd hc ht
  |some x=>
   obtain⟨q,hq,e1,e2,_⟩:=contQ_elim hc;obtain⟨p,hp2,e⟩:=h2.own q hq;exact absurd (e.trans e1) (hp' p hp2)
theorem Zo.records(h:Zo w B z S ap F N T)(hT:T≤2000)(h12:Few12 F)(hl:ShortC F):
 Calls prog 17 #[.pointer (some ⟨z,0,none⟩)] w fun e w'=>Below w.heap.size w w'∧∃v,∃rs:List RcB,∃L,e=.returned v∧RecsV w' w.heap.size v rs∧LstP F L∧rs.map RcB.says=L.map PR.says:=by
 obtain⟨bn,bb,P,Q,h1,h2,rfl,rfl,rfl⟩:=h.ex;have hPl:=h2.len_le;refine(ZRecsG w B z bn bb ap P Q N h1 h2 (by omega) hT (few_sets h2 h12) (lens_of h2.kQ hl)).mono ?_;rintro e w' ⟨hb,v,rs,ns,rfl,hr,hp,hs,hsay⟩;exact⟨hb,v,rs,recsQ Q ns,rfl,hr,recsQ_lst h2 hp hs,by rw[recsQ_says,hsay]⟩
end
end Nm
namespace Nm
def Sq.core(q:Sq):List Lab×Int×Int×List (Blob×Blob):=(q.n,q.t,q.ttl,q.ds)
theorem core_mem{Q QQ:List Sq}(h:(QQ.map Sq.core).Perm (Q.map Sq.core)){q:Sq}(hq:q∈QQ):∃r∈Q,q.n=r.n∧q.t=r.t∧q.ttl=r.ttl∧q.ds=r.ds:=by
 obtain⟨r,hr,e⟩:=List.mem_map.1 (h.mem_iff.1 (List.mem_map.2 ⟨q,hq,rfl⟩));injection e with e1 e;injection e with e2 e;injection e with e3 e4;exact⟨r,hr,e1.symm,e2.symm,e3.symm,e4.symm⟩
theorem Wf.core{ap:List Lab}{P PP:List Nq}{Q QQ:List Sq}(h:Wf ap P Q)(hP:(PP.map (·.n)).Perm (P.map (·.n)))(hQ:(QQ.map Sq.core).Perm (Q.map Sq.core)):Wf ap PP QQ:=by
 have hpm:∀p∈PP,∃r∈P,r.n=p.n:=fun p hp=>List.mem_map.1 (hP.mem_iff.1 (List.mem_map.2 ⟨p,hp,rfl⟩));have hpm':∀p∈P,∃r∈PP,r.n=p.n:=fun p hp=>List.mem_map.1 (hP.symm.mem_iff.1 (List.mem_map.2 ⟨p,hp,rfl⟩));refine⟨fun p hp=> ?_,hP.nodup_iff.2 h.kP, ?_,fun q hq=> ?_,fun q hq=> ?_,fun p hp=> ?_,fun q hq=> ?_,fun q hq=> ?_⟩
 ·obtain⟨r,hr,e⟩:=hpm p hp;rw[←e];exact h.ok r hr
 ·have h1:=(hQ.map (fun c:List Lab×Int×Int×List (Blob×Blob)=>(c.1,c.2.1)))
  rw[List.map_map,List.map_map]at h1;exact h1.nodup_iff.2 h.kQ
 ·obtain⟨r,hr,_,e,_⟩:=core_mem hQ hq;rw[e];exact h.wt r hr
 ·obtain⟨r,hr,e,_⟩:=core_mem hQ hq;obtain⟨p,hp,e2⟩:=h.own r hr;obtain⟨p',hp',e3⟩:=hpm' p hp;exact⟨p',hp',by rw[e3,e2,e]⟩
 ·obtain⟨r,hr,e⟩:=hpm p hp;obtain⟨q,hq,e2⟩:=h.has r hr;obtain⟨q',hq',e3,_⟩:=core_mem hQ.symm hq;exact⟨q',hq',by rw[←e3,e2,e]⟩
 ·obtain⟨r,hr,_,_,_,e⟩:=core_mem hQ hq;rw[e];exact h.full r hr
 ·obtain⟨r,hr,_,_,_,e⟩:=core_mem hQ hq;rw[e];exact h.srt r hr
theorem contQ_core{Q QQ:List Sq}(hk:(Q.map fun q=>(q.n,q.t)).Nodup)(hQ:(QQ.map Sq.core).Perm (Q.map Sq.core)):contQ QQ=contQ Q:=by
 have hk':(QQ.map fun q=>(q.n,q.t)).Nodup:=by
  have h1:=(hQ.map (fun c:List Lab×Int×Int×List (Blob×Blob)=>(c.1,c.2.1)))
  rw[List.map_map,List.map_map]at h1;exact h1.nodup_iff.2 hk
 refine contQ_ext hk' _ (fun q hq=> ?_) (fun n t x hx=> ?_)
 ·obtain⟨r,hr,e1,e2,e3,e4⟩:=core_mem hQ hq;rw[e1,e2,contQ_some hk hr,e3];unfold Sq.pairs;rw[e4]
 ·obtain⟨r,hr,e1,e2,_⟩:=contQ_elim hx;obtain⟨q,hq,e3,e4,_⟩:=core_mem hQ.symm hr;exact⟨q,hq,by rw[←e3,e1],by rw[←e4,e2]⟩
theorem total_core{Q QQ:List Sq}(hQ:(QQ.map Sq.core).Perm (Q.map Sq.core)):total QQ=total Q:=by
 have h1:=(hQ.map (fun c:List Lab×Int×Int×List (Blob×Blob)=>c.2.2.2.length)).sum_nat;rw[List.map_map,List.map_map]at h1;exact h1
theorem by_names{ap:List Lab}{P V:List Nq}{Q:List Sq}(h:Wf ap P Q)(hV:V.Perm P):(V.flatMap fun p=>setsOf Q p.n).Perm Q:=by
 have hn:(V.map (·.n)).Nodup:=(hV.map _).nodup_iff.2 h.kP;have hQn:Q.Nodup:=(List.pairwise_map.1 h.kQ).imp fun{a b} h e=>h (by rw[e]);refine(List.perm_ext_iff_of_nodup ?_ hQn).2 fun q=> ?_
 ·unfold List.Nodup;rw[List.pairwise_flatMap];refine⟨fun p _=>hQn.sublist List.filter_sublist,(List.pairwise_map.1 hn).imp fun{a b} hab x hx y hy e=>hab ?_⟩;rw[←(mem_setsOf.1 hx).2,e,(mem_setsOf.1 hy).2]
 ·rw[List.mem_flatMap];constructor
  ·rintro⟨p,_,hq⟩;exact(mem_setsOf.1 hq).1
  ·intro hq;obtain⟨p,hp,e⟩:=h.own q hq;exact⟨p,hV.mem_iff.2 hp,mem_setsOf.2 ⟨hq,e.symm⟩⟩
theorem setsOf_append(A B:List Sq)(n:List Lab):setsOf (A++B) n=setsOf A n++setsOf B n:=List.filter_append ..
structure CpS(lo:Nat)(W:World)(QQ:List Sq):Prop where
 sd:∀q∈QQ,W.heap[q.s]? =some (.cells #[.int .u32 q.ttl,q.v] 119 (0,0))∧W.ownsRow lo 121 2 q.v q.ds.length (datC q.ds)∧lo≤q.s
 ds:(QQ.map (·.s)).Nodup
 dv:QQ.Pairwise fun a b=>∀k,a.v.ownBlock=some k→b.v.ownBlock≠some k
theorem CpS.nil(lo:Nat)(W:World):CpS lo W []:=⟨fun q hq=>(by cases hq),List.nodup_nil,List.Pairwise.nil⟩
theorem CpS.kept{lo:Nat}{W W':World}{QQ:List Sq}{S:Nat→Prop}(h:CpS lo W QQ)(hk:Kept S W W')(hS:∀k,S k→k < W.heap.size→k < lo):CpS lo W' QQ:=by
 refine⟨fun q hq=> ?_,h.ds,h.dv⟩;obtain⟨h1,h2,h3⟩:=h.sd q hq;refine⟨(hk.block _ (lt_block h1) fun e=> ?_).trans h1,Kept.row h2 hk fun k hkb e=> ?_,h3⟩
 ·have:=hS _ e (lt_block h1);omega
 ·obtain⟨g1,g2⟩:=h2.lt k hkb;have:=hS _ e g2;omega
theorem CpS.add{lo m:Nat}{W:World}{QA QB:List Sq}(h:CpS lo W QA)(hm:∀q∈QA,q.s < m∧∀k,q.v.ownBlock=some k→k < m)(h2:CpS m W QB)(hl:lo≤m):CpS lo W (QA++QB):=by
 refine⟨fun q hq=> ?_, ?_, ?_⟩
 ·rcases List.mem_append.1 hq with hq|hq
  ·exact h.sd q hq
  ·obtain⟨g1,g2,g3⟩:=h2.sd q hq;exact⟨g1,own_base g2 hl,by omega⟩
 ·rw[List.map_append];refine List.nodup_append.2 ⟨h.ds,h2.ds,fun a ha b hb e=> ?_⟩;obtain⟨q,hq,rfl⟩:=List.mem_map.1 ha;obtain⟨r,hr,rfl⟩:=List.mem_map.1 hb;have:=(hm q hq).1;have:=(h2.sd r hr).2.2;omega
 ·refine List.pairwise_append.2 ⟨h.dv,h2.dv,fun a ha b hb k h3 h4=> ?_⟩;have:=(hm a ha).2 k h3;have:=((h2.sd b hb).2.1.lt k h4).1;omega
theorem CpS.base{lo lo':Nat}{W:World}{QQ:List Sq}(h:CpS lo W QQ)(hl:lo'≤lo):CpS lo' W QQ:=⟨fun q hq=>by
 obtain⟨h1,h2,h3⟩:=h.sd q hq;exact⟨h1,own_base h2 hl,by omega⟩,h.ds,h.dv⟩
theorem CpS.lt{lo:Nat}{W:World}{QQ:List Sq}(h:CpS lo W QQ):∀q∈QQ,q.s < W.heap.size∧∀k,q.v.ownBlock=some k→k < W.heap.size:=fun q hq=>by
 obtain⟨h1,h2,h3⟩:=h.sd q hq;exact⟨lt_block h1,fun k hk=>(h2.lt k hk).2⟩
theorem CpS.one{lo:Nat}{W:World}{q:Sq}(h1:W.heap[q.s]? =some (.cells #[.int .u32 q.ttl,q.v] 119 (0,0)))(h2:W.ownsRow lo 121 2 q.v q.ds.length (datC q.ds))(h3:lo≤q.s):CpS lo W [q]:=
 ⟨fun r hr=>by simp at hr;subst hr;exact⟨h1,h2,h3⟩,by simp,by simp⟩
structure CpN(lo B M:Nat)(w0 W:World)(PP:List Nq)(QQ:List Sq):Prop where
 nd:∀p∈PP,(∃A c,W.heap[p.x]? =some (.cells #[.slice A p.n.length c,.map (some p.bs)] 112 (0,0))∧w0.ownsRow B 9 1 (.slice A p.n.length c) p.n.length ((lower p.n).map strV))∧(∃D2,W.ownsMap prog 36 ptrR p.bs M D2∧Ents D2 ((setsOf QQ p.n).map Sq.ent))∧lo≤p.x∧lo≤p.bs
 dbs:(PP.map (·.bs)).Nodup
theorem CpN.nil(lo B M:Nat)(w0 W:World)(QQ:List Sq):CpN lo B M w0 W [] QQ:=⟨fun q hq=>(by cases hq),List.nodup_nil⟩
theorem CpN.kept{lo B M:Nat}{w0 W W':World}{PP:List Nq}{QQ:List Sq}{S:Nat→Prop}(h:CpN lo B M w0 W PP QQ)(hk:Kept S W W')(hS:∀k,S k→k < W.heap.size→k < lo):CpN lo B M w0 W' PP QQ:=by
 refine⟨fun p hp=> ?_,h.dbs⟩;obtain⟨⟨A,c,h1,h2⟩,⟨D2,h3,h4⟩,h5,h6⟩:=h.nd p hp;refine⟨⟨A,c,(hk.block _ (lt_block h1) fun e=> ?_).trans h1,h2⟩,⟨D2,ownsMap_block h3 (hk.block _ h3.lt fun e=> ?_),h4⟩,h5,h6⟩
 ·have:=hS _ e (lt_block h1);omega
 ·have:=hS _ e h3.lt;omega
theorem CpN.add{lo B M:Nat}{w0 W:World}{PP:List Nq}{QQ QI:List Sq}(h:CpN lo B M w0 W PP QQ){p:Nq}(hne:∀r∈PP,r.n≠p.n)(hQI:∀q∈QI,q.n=p.n)(hQQ:∀q∈QQ,q.n≠p.n)
 (hnd:∃A c,W.heap[p.x]? =some (.cells #[.slice A p.n.length c,.map (some p.bs)] 112 (0,0))∧w0.ownsRow B 9 1 (.slice A p.n.length c) p.n.length ((lower p.n).map strV)) (hst:∃D2,W.ownsMap prog 36 ptrR p.bs M D2∧Ents D2 (QI.map Sq.ent)) (h1:lo≤p.x) (h2:lo≤p.bs) (hlt:∀r∈PP,r.bs≠p.bs):
 CpN lo B M w0 W (PP++[p]) (QQ++QI):=by
 have hI:setsOf QI p.n=QI:=List.filter_eq_self.2 fun q hq=>by simpa using hQI q hq
 have hQ0:setsOf QQ p.n=[]:=List.filter_eq_nil_iff.2 fun q hq e=>hQQ q hq (by simpa using e);refine⟨fun r hr=> ?_, ?_⟩
 ·rcases List.mem_append.1 hr with hr|hr
  ·have hI0:setsOf QI r.n=[]:=List.filter_eq_nil_iff.2 fun q hq e=>hne r hr (by rw[←hQI q hq];symm;simpa using e);rw[setsOf_append,hI0,List.append_nil];exact h.nd r hr
  ·simp at hr;subst hr;rw[setsOf_append,hQ0,List.nil_append,hI];exact⟨hnd,hst,h1,h2⟩
 ·rw[List.map_append];refine List.nodup_append.2 ⟨h.dbs,by simp,fun a ha b hb e=> ?_⟩;simp at hb;obtain⟨r,hr,rfl⟩:=List.mem_map.1 ha;exact hlt r hr (by rw[e,hb])
theorem CloneD(A:Option Addr)(ds:List (Blob×Blob))(cap:Nat)(w:World)(hc:Cs w A (datC ds))(hn:ds.length≤1000000):
 Calls prog 72 #[.slice A ds.length cap] w fun e w'=>∃v,e=.returned v∧w'.ownsRow w.heap.size 121 2 v ds.length (datC ds)∧Below w.heap.size w w':=by
 cases A with
 |none=>
  have hl:datC ds=[]:=by simpa using hc.none_nil
  have hl0:ds.length=0:=by have:=datC_len ds;rw[hl]at this;simp at this;omega
  have hq:∀W,(binOp .eql 117 (.slice none ds.length cap) (.slice none 0 0)).run prog W=.ok (.bool true) W:=fun W=>Lib.run_eql_slice_nil (P:=prog) W 117 121 none ds.length cap 0 0 underlying117;have HL:Hid (∀w:World,w.ownsRow w.heap.size 121 2 (.slice none 0 0) ds.length (datC ds)):=hid (fun w=>by rw[hl,hl0];exact World.ownsRow_nil _ _ _ _);clear hl hl0
  generalize ds.length=m at *;go_enter func72,ntmps72;go_wp2_with fail;go_ret;exact⟨_,rfl,HL.out _,Below.refl _ _⟩
 |some a=>
  obtain⟨i0,hi0,hz0,hz1,hz2⟩:=info_parts info_datum;have hq:∀W,(binOp .eql 117 (.slice (some a) ds.length cap) (.slice none 0 0)).run prog W=.ok (.bool false) W:=fun W=>Lib.run_eql_slice_nil (P:=prog) W 117 121 (some a) ds.length cap 0 0 underlying117
  have hown:(w.alloc (.cells #[] 121)).ownsRow w.heap.size 121 2 (.slice (some ⟨w.heap.size,0,none⟩) 0 0) 0 []:=⟨by simp,.inr ⟨w.heap.size,0, #[],rfl,Nat.le_refl _,heap_alloc_new w _,Nat.zero_le _,by unfold maxLen;omega,by simp,by simp⟩⟩
  have hb0:Below w.heap.size w (w.alloc (.cells #[] 121)):=bAl;have hc1:=hc.below hb0;have HO:=hid hown;clear hown;go_enter func72,ntmps72
  go_wp2_with (first|(at_builtin;refine wpList_append_own _ rfl _ _ _ rfl w.heap.size 121 i0 _ 2 48 underlying117 hi0 hz0 hz1 hz2 rfl (by decide) _ 0 _ rfl HO.out a ds.length cap (datC ds) rfl (datC_len ds) hc1.cells (datC_one ds) (by unfold maxLen;omega) (by omega) hb0.size ?_;intro v4 w4 hown4 hg4 _;have hbw5:=hb0.trans ((Below.refl _ _).grown hg4 hb0.size (fun k hk=>(HO.out.lt k hk).1))))
  go_ret;exact⟨_,rfl,by simpa using hown4,hbw5⟩
end Nm
end Go.Proofs.YtmbdoacafhljkaaGreat
