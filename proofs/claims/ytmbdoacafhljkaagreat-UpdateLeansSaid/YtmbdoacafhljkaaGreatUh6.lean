/- Texts merged by a program: GPutA, GPutN, GPutS, Gz. -/
import Derived.Test.YtmbdoacafhljkaaGreatUh1
import Derived.Test.YtmbdoacafhljkaaGreatUh2
import Derived.Test.YtmbdoacafhljkaaGreatUh4
import Derived.Test.YtmbdoacafhljkaaGreatUh5
set_option linter.unusedSimpArgs false
set_option linter.unusedVariables false
set_option maxRecDepth 1000000
set_option maxHeartbeats 20000000
open Go.Proofs.Tryz
namespace Go.Proofs.YtmbdoacafhljkaaGreat
open Go.RowKit
namespace Nm
theorem GPutMore(w:World)(B z bn bb x bs s:Nat)(ap n:List Lab)(t ttl:Int)(v:Value)(ds:List (Blob×Blob))(cz:Int)(D D2:DataW Unit)(f:Lab→Int)(N N2:Nat)(h:Foc w B z bn bb x bs s ap n t ttl v ds cz D D2 f N N2)(An:Option Addr)(cn:Nat)(Ad:Option Addr)(d:Lab)(cd:Nat)(ttl2:Int)(hAn:Cs w An (n.map strV))(hAd:w.ownsRow 0 5 1 (.slice Ad d.length cd) d.length (d.map byteV))(c:Lab)(hr:RecG n ap t d c cn cd)(hap:Small ap)(p:Nat)(hp:FindAt ds c p)(hhit:hitB ds c p=false)(hds:ds.length≤100000)(hcz0:0≤cz)(hcz:cz < 2000):
 Calls prog 50 #[.pointer (some ⟨z,0,none⟩),.agg #[.slice An n.length cn,.int .u16 t,.int .u16 1,.int .u32 ttl2,.slice Ad d.length cd]] w fun e w'=>e=.returned (.tuple #[.bool true,.int .i64 0])∧∃v2 b1 b2,b1.l=d∧b2.l=c∧More w w' B z bn bb s ap (cz+1) D f N ttl2 v v2 (insD ds p (b1,b2)) (fun k=>k=z∨k=s∨some k=v.ownBlock):=by
 have hp1:=hp.1;have hb1:Below w.heap.size w (w.alloc (.cells #[.slice An n.length cn,.int .u16 t,.int .u16 1,.int .u32 ttl2,.slice Ad d.length cd] 39)):=bAl;have hblk:=heap_alloc_new w (.cells #[.slice An n.length cn,.int .u16 t,.int .u16 1,.int .u32 ttl2,.slice Ad d.length cd] 39);obtain⟨k0,k1,k2,k3,k4,kf⟩:=cells5 hblk
 have hsz:(w.alloc (.cells #[.slice An n.length cn,.int .u16 t,.int .u16 1,.int .u32 ttl2,.slice Ad d.length cd] 39)).heap.size=w.heap.size+1:=by simp
 have hO:=h.ext hb1;have hAn1:=hAn.below hb1;have hAd1:=own_below hAd hb1;go_enter func50,ntmps50;go_wp2_with fail;generalize w.alloc (.cells #[.slice An n.length cn,.int .u16 t,.int .u16 1,.int .u32 ttl2,.slice Ad d.length cd] 39)=w1 at *;have hrl:w.heap.size < w1.heap.size:=by omega
 obtain⟨Aa,ca,hzb,hza⟩:=hO.zn.blk;have hzl:=lt_block hzb;obtain⟨z0,z1,z2,z3,zf⟩:=cells4 hzb;have hcs_ap:=(cs_own hza).2;obtain⟨hr1,hr2,hr3,hr4,hr5,hr6,hr7,hr8,hr9,hr10,hr11⟩:=hr;have HCk:Hid (∀W,Below w1.heap.size w1 W→Calls prog 102 #[.slice An n.length cn] W fun e w'=>e=.returned (.int .i64 0)∧W=w'):=hid fun W hW=>by
  have:=Check An n cn W (hAn1.below hW) hr1.few;rw[hr2]at this;exact this
 have HWi:Hid (∀W,Below w1.heap.size w1 W→Calls prog 66 #[.slice An n.length cn,.slice Aa ap.length ca] W fun e w'=>Below W.heap.size W w'∧e=.returned (.bool true)):=hid fun W hW=>by
  have:=Within An Aa n ap cn ca W (hAn1.below hW) (hcs_ap.below hW) hr1.few hap.few hr8 hr9;rw[hr3]at this;exact this
 have HRc:Hid (∀W,Below w1.heap.size w1 W→Calls prog 81 #[.int .u16 t,.slice Ad d.length cd] W fun e w'=>Below W.heap.size W w'∧e=.returned (.int .i64 0)):=hid fun W hW=>hr4 Ad W ((cs_own hAd1).2.below hW)
 have HCa:Hid (∀W,Below w1.heap.size w1 W→Calls prog 103 #[.int .u16 t,.slice Ad d.length cd] W fun e w'=>Below W.heap.size W w'∧∃v,e=.returned v∧w'.ownsRow W.heap.size 5 1 v c.length (c.map byteV)):=hid fun W hW=>
  hr6 Ad W ((cs_own hAd1).2.below hW)
 have hsv:∃A c,v=.slice A ds.length c:=by
  obtain⟨A,c,hv,_⟩:=own_form hO.st.row;exact⟨A,c,hv⟩
 obtain⟨Av,cv,rfl⟩:=hsv;have hsl:=lt_block hO.st.set;obtain⟨s0,s1,sf⟩:=cells2 hO.st.set;obtain⟨An2,cn2,hxb,hxn⟩:=hO.st.node;have hxl:=lt_block hxb;obtain⟨x0,x1,xf⟩:=cells2 hxb
 have HAt:Hid (∀W,Below w1.heap.size w1 W→Calls prog 62 #[.pointer (some ⟨z,0,none⟩),.slice An n.length cn,.int .u16 t] W fun e w'=>e=.returned (.pointer (some ⟨s,0,none⟩))∧Below W.heap.size W w'):=hid fun W hW=>by
  have hOW:=hO.ext hW;have:=ZAt z bn An n cn t N N2 D D2 (some x) (some s) W ((bcl (o:=1) hW hzl).trans z1) (Nat.lt_of_lt_of_le hzl hW.size) hOW.zn.nodes (hAn1.below hW) hr1 hr5 hOW.hD (fun x' hx'=>by
   cases hx';exact⟨Nat.lt_of_lt_of_le hxl hW.size,bs,(bcl (o:=1) hW hxl).trans x1,hOW.st.sets,hOW.hD2⟩)
  exact this
 have HFi:Hid (∀A' c' W,Below w1.heap.size w1 W→Cs W A' (c.map byteV)→Calls prog 104 #[.pointer (some ⟨s,0,none⟩),.slice A' c.length c'] W fun e w'=>e=.returned (.tuple #[.int .i64 p,.bool (hitB ds c p)])∧Below W.heap.size W w'):=hid fun A' c' W hW hA'=>by
  have hOW:=hO.ext hW;exact ZFind s Av A' ds cv c c' p W ((bcl (o:=1) hW hsl).trans s1) (cs_own2 hOW.st.row) hOW.st.dat.ok hA' (by omega) hp
 have HK:Hid (∀W,Below w1.heap.size w1 W→Calls prog 68 #[.slice An n.length cn] W fun e w'=>e=.returned (strV (zkey n))∧Below W.heap.size W w'):=hid fun W hW=>ZKey An n cn W (hAn1.below hW) hr1;have hnl:=hr1.1;have HR:Hid (RecG n ap t d c cn cd):=hid ⟨hr1,hr2,hr3,hr4,hr5,hr6,hr7,hr8,hr9,hr10,hr11⟩;have HAn:=hid hAn1;have HAd:=hid hAd1;have HO:=hid hO
 have HB:Hid (B≤w1.heap.size):=hid (Nat.le_trans hO.st.h2 (Nat.le_of_lt hsl));have HTu:Hid (Turn B w w1):=hid (Turn.of_ext hb1 (Nat.le_trans h.st.h2 (Nat.le_of_lt (lt_block h.st.set))));have HAdo:=hid hAd1;have hnotR:¬zT 39:=zT_rec;clear h hAn hAd hAn1 hAd1 hza hcs_ap hr1 hr2 hr3 hr4 hr5 hr6 hap
 refine wp_region_mono mixed0 (by kernel_rfl) [.is (.pointer (some ⟨w.heap.size,0,none⟩)),.is (.slice An n.length cn),.is (.int .i64 0),.is (.bool false),.is (.bool false),.is (.pointer (some ⟨w.heap.size,0,none⟩)),.is (.slice An n.length cn),.is (.pointer (some ⟨z,0,none⟩)),.is (.pointer (some ⟨z,0,none⟩)),.is (.pointer (some ⟨z,0,none⟩)),.is (.slice Aa ap.length ca),.is (.bool true),.is (.bool false),.is (.bool false),.is (.bool false)] rfl ?_ ?_
 ·intro i q hio vals W hE haf;have e0:=(bcl (o:=0) hE hrl).trans k0;have y0:=(bcl (o:=0) hE hzl).trans z0;rcases i with _|_|_|_|_|_|_|_|_|_|_|_|_|_|_|i
  all_goals first
   |(exfalso;simp at hio;done)
   |(simp at hio;subst hio;simp[bindD,rdB,Region.binds,factAt]at haf;simp[opU,go_sem,haf,e0,y0,Ext.refl,factAt];done)
   |skip
  all_goals
   simp at hio;subst hio;simp[bindD,rdB,Region.binds,factAt]at haf
  ·simp[opU,go_sem,haf,factAt];refine(HCk.out W hE).mono fun e W' h=> ?_;obtain⟨h1,h2⟩:=h;subst h2;exact⟨h1,Below.refl _ _⟩
  ·simp[opU,go_sem,haf,factAt];refine(HWi.out W hE).mono fun e W' h=> ?_;exact⟨h.2,h.1⟩
 ·intro vals W hE hF;simp only[facts]at hF;obtain⟨_,_,_,_,_,_,_,_,_,_,_,_,_,_,h14,_⟩:=hF;have e14:vals 14=.bool false:=h14;simp[relAct,dstAt,Act.put];rw[e14];clear e14 h14;generalize vals 0=j0,vals 1=j1;generalize vals 2=j2,vals 3=j3;generalize vals 4=j4,vals 5=j5;generalize vals 6=j6,vals 7=j7;generalize vals 8=j8,vals 9=j9
  generalize vals 10=j10,vals 11=j11;generalize vals 12=j12,vals 13=j13;have hE:Below w1.heap.size w1 W:=hE;have e1:=(bcl (o:=1) hE hrl).trans k1;have e2:=(bcl (o:=2) hE hrl).trans k2;have e4:=(bcl (o:=4) hE hrl).trans k4;go_wp2_with fail;refine(HRc.out W hE).mono ?_;rintro e w2 ⟨hb2,rfl⟩;have hE2:=hE.trans (hb2.mono hE.size);clear e1 e2 e4 hb2 hE
  have e1:=(bcl (o:=1) hE2 hrl).trans k1;have e4:=(bcl (o:=4) hE2 hrl).trans k4;go_wp2_with fail;refine(HCa.out w2 hE2).mono ?_;rintro e w3 ⟨hb3,vc,rfl,hown3⟩;have hE3:=hE2.trans (hb3.mono hE2.size);have ho3:=own_base hown3 hE2.size;obtain⟨Ac,cc,rfl,_,hcc⟩:=Cs.of_own hown3;clear e1 e4 hb3 hE2 hown3 w2;have e0:=(bcl (o:=0) hE3 hrl).trans k0;have e1:=(bcl (o:=1) hE3 hrl).trans k1
  go_wp2_with fail;refine(HAt.out w3 hE3).mono ?_;rintro e w4 ⟨rfl,hb4⟩;have hE4:=hE3.trans (hb4.mono hE3.size);have ho4:=own_below ho3 hb4;have hc4:=hcc.below hb4;clear e0 e1 hb4 hE3 ho3 hcc w3;go_wp2_with fail;refine(HFi.out _ _ w4 hE4 hc4).mono ?_;rintro e w5 ⟨rfl,hb5⟩;have hE5:=hE4.trans (hb5.mono hE4.size);have ho5:=own_below ho4 hb5;have hc5:=hc4.below hb5;clear hb5 hE4 ho4 hc4 w4
  rw[hhit];go_wp2_with fail;refine wp_region_mono mixed0 (by kernel_rfl) [.is (.bool false),.is (.bool false),.is undef,.is undef,.is undef,.is undef,.is undef,.is undef,.is undef,.is (.bool false),.is (.bool false)] rfl ?_ ?_
  ·intro i q hio vals W hE haf;rcases i with _|_|_|_|_|_|_|_|_|_|_|i
   all_goals first
    |(exfalso;simp at hio;done)
    |(simp at hio;subst hio;simp[bindD,rdB,Region.binds,factAt]at haf;simp[opU,go_sem,haf,Ext.refl,factAt];done)
    |skip
  ·intro vals W hE hF;simp only[facts]at hF;obtain⟨_,_,_,_,_,_,_,_,_,_,h10,_⟩:=hF;have e10:vals 10=.bool false:=h10;simp[relAct,dstAt,Act.put];rw[e10];clear e10 h10;generalize vals 0=g0,vals 1=g1;generalize vals 2=g2,vals 3=g3;generalize vals 4=g4,vals 5=g5;generalize vals 6=g6,vals 7=g7;generalize vals 8=g8,vals 9=g9
   have hE6:=hE5.trans (hE.mono hE5.size);have ho6:=own_below ho5 hE;have y3:=(bcl (o:=3) hE6 hzl).trans z3;have e0:=(bcl (o:=0) hE6 hrl).trans k0;go_wp2_with fail;refine(HK.out W hE6).mono ?_;rintro e w7 ⟨rfl,hb7⟩;have hE7:=hE6.trans (hb7.mono hE6.size);have ho7:=own_below ho6 hb7;have hO7:=HO.out.ext hE7;have y1:=(bcl (o:=1) hE7 hzl).trans z1;have e3:=(bcl (o:=3) hE7 hrl).trans k3
   have q0:=(bcl (o:=0) hE7 hsl).trans s0;have qf:=(bfr (o:=0) hE7 hsl).trans (sf 0);have l7:(Instr.lookup 100 (.map (some bn)) (strV (zkey n)) false).run prog w7=.ok (.pointer (some ⟨x,0,none⟩)) w7:=look_ptr hO7.zn.nodes keyS underlying100 rfl (keyOf_str _ (zkey_len HR.out.small)) (o:=some x) hO7.hD;have had7:=own_below HAdo.out hE7;have hrb7:=(hE7.block _ hrl).trans hblk
   have hkp:Kept (fun k=>k=s) w7 (w7.setCell ⟨s,0,none⟩ (.int .u32 ttl2)):=(Kept.refl (fun k=>k=s) w7).setCell (fun _=>rfl) _;have hps:=hO7.put hkp (heap_set hO7.st.set);have hZ7:Zonal (fun k=>k=s) w7:=Zonal.cells hO7.st.set (.inr (.inl rfl));have ho8:=row_zonal ho7 hkp hZ7 zT_u8;have had8:=row_zonal had7 hkp hZ7 zT_u8;have hrb8:=cells_zonal hrb7 hkp hZ7 zT_rec;have HPS:=hid hps
   have HK8:Hid (Kept (fun k=>k=z∨k=s∨some k=(Value.slice Av ds.length cv).ownBlock) w (w7.setCell ⟨s,0,none⟩ (.int .u32 ttl2))):=hid (((Kept.of_ext (hb1.trans (hE7.mono (by omega)))).mono (fun _ _ h=>h.elim)).trans (hkp.mono (fun k _ e=>.inr (.inl e))));have HO8:=hid ho8;have HAD8:=hid had8;have HRB8:=hid hrb8;have HE7:=hid hE7
   clear hps hkp hO7 hZ7 ho8 ho7 had8 had7 hrb8 hrb7 hblk k0 k1 k2 k3 k4 kf y3 e0;go_wp2_with fail;generalize w7.setCell ⟨s,0,none⟩ (.int .u32 ttl2)=w8 at *;have H8:=hid HPS.out.1;obtain⟨k08,k18,k28,k38,k48,_⟩:=cells5 HRB8.out;have hsl8:=lt_block H8.out.st.set;have HLT:Hid (∀k,k=s∨some k=(Value.slice Av ds.length cv).ownBlock→k < w8.heap.size):=hid (by
    rintro k (e|e)
    ·rw[e];exact hsl8
    ·obtain⟨cs,e1,_⟩:=row_block H8.out.st.row e.symm;exact lt_block e1)
   have HNE:Hid (∀b,some b=(Value.slice Av ds.length cv).ownBlock→b≠s):=hid fun b e=>by
    obtain⟨cs,e1,_⟩:=row_block H8.out.st.row e.symm;exact ne_cells e1 H8.out.st.set (by decide)
   have HZ8:Hid (Zonal (fun k=>k=s∨some k=(Value.slice Av ds.length cv).ownBlock) w8):=hid (by
    intro k hk2;rcases hk2 with e|e
    ·exact Zonal.cells H8.out.st.set (.inr (.inl rfl)) k e
    ·exact Zonal.row H8.out.st.row k e)
   have HRL:Hid (w.heap.size < w8.heap.size∧¬(w.heap.size=s∨some w.heap.size=(Value.slice Av ds.length cv).ownBlock)):=hid ⟨lt_block HRB8.out,by
    rintro(e|e)
    ·exact ne_cells HRB8.out H8.out.st.set (by decide) e
    ·obtain⟨cs,e1,_⟩:=row_block H8.out.st.row e.symm;exact ne_cells HRB8.out e1 (by decide) rfl⟩
   refine wp_region_dep mixed0 (by kernel_rfl) (fun i j=>i==15&&j==12) (by kernel_rfl)
    (fun i W W'=>if i=12 then Kept (fun k=>some k=(Value.slice Av ds.length cv).ownBlock) W W' else if i=15 then Kept (fun k=>k=s) W W' else Ext W W')
    (fun W=>Kept (fun k=>k=s∨some k=(Value.slice Av ds.length cv).ownBlock) w8 W)
    (fun i vals W=>match i with
      |0=>vals 0=.pointer (some ⟨s,0,none⟩)
      |1=>vals 1=.pointer (some ⟨s,0,none⟩)
      |2=>vals 2=.pointer (some ⟨s,0,none⟩)
      |3=>vals 3=.pointer (some ⟨s,1,none⟩)
      |4=>vals 4=.slice Av ds.length cv
      |5=>vals 5=.int .i64 p
      |6=>vals 6=.pointer (some ⟨w.heap.size,4,none⟩)
      |7=>vals 7=.slice Ad d.length cd
      |8=>∃Ak ck,vals 8=.slice Ak d.length ck∧W.ownsRow w8.heap.size 5 1 (.slice Ak d.length ck) d.length (d.map byteV)
      |9=>vals 9=.slice Ac c.length cc
      |10=>∃Ak ck,vals 10=.agg #[.slice Ak d.length ck,.slice Ac c.length cc]∧W.ownsRow w8.heap.size 5 1 (.slice Ak d.length ck) d.length (d.map byteV)
      |11=>∃g Ak ck,vals 11=.slice (some ⟨g,0,none⟩) 1 1∧w8.heap.size≤g∧W.heap[g]? =some (.cells #[.slice Ak d.length ck,.slice Ac c.length cc] 121 (0,0))∧W.ownsRow w8.heap.size 5 1 (.slice Ak d.length ck) d.length (d.map byteV)
      |12=>∃Ak ck,W.ownsRow w8.heap.size 5 1 (.slice Ak d.length ck) d.length (d.map byteV)∧W.ownsRow B 121 2 (vals 12) (ds.length+1) (ins2 (datC ds) p (.slice Ak d.length ck) (.slice Ac c.length cc))∧(∀b,(vals 12).ownBlock=some b→some b=(Value.slice Av ds.length cv).ownBlock∨w8.heap.size≤b)∧W.heap[s]? =some (.cells #[.int .u32 ttl2,.slice Av ds.length cv] 119 (0,0))
      |13=>vals 13=.pointer (some ⟨s,0,none⟩)
      |14=>vals 14=.pointer (some ⟨s,1,none⟩)
      |15=>∃Ak ck v',W.ownsRow w8.heap.size 5 1 (.slice Ak d.length ck) d.length (d.map byteV)∧W.ownsRow B 121 2 v' (ds.length+1) (ins2 (datC ds) p (.slice Ak d.length ck) (.slice Ac c.length cc))∧(∀b,v'.ownBlock=some b→some b=(Value.slice Av ds.length cv).ownBlock∨w8.heap.size≤b)∧W.heap[s]? =some (.cells #[.int .u32 ttl2,v'] 119 (0,0))
      |_=>True) ?_ (fun W=>W.ownsRow B 121 2 (.slice Av ds.length cv) ds.length (datC ds)∧W.heap[s]? =some (.cells #[.int .u32 ttl2,.slice Av ds.length cv] 119 (0,0))) (fun i=>i==12||i==15) ⟨H8.out.st.row,H8.out.st.set⟩ ?_ ?_ ?_ ?_ ?_ ?_
   ·intro j vals i v W hij hw hR;have hwv:∀a b,waitsB _ a b=true→j=a→i=b→False:=fun a b hab ha hb=>by
     subst ha hb;rw[hab]at hw;cases hw
    rcases j with _|_|_|_|_|_|_|_|_|_|_|_|_|_|_|_|j
    all_goals first
     |exact trivial
     |exact hR
     |(simpa[hij,Ne.symm hij]using hR)
   ·intro i W W' hk hC hI hT;by_cases h12:i=12
    ·subst h12;cases hk
    ·by_cases h15:i=15
     ·subst h15;cases hk
     ·simp only[h12,h15,if_false]at hT;exact⟨own_below hI.1 hT,(hT.block _ (lt_block hI.2)).trans hI.2⟩
   ·exact(Kept.refl _ w8).drew
   ·intro i W W' hC hT;by_cases h12:i=12
    ·simp only[h12,if_true]at hT;exact hC.trans (hT.mono (fun k _ h=>.inr h))
    ·by_cases h15:i=15
     ·simp only[h15]at hT;exact hC.trans (Kept.mono hT (fun k _ h=>.inl h))
     ·simp only[h12,h15,if_false]at hT;exact hC.trans (Kept.mono (Kept.of_ext hT) (fun _ _ h=>h.elim))
   ·intro i j vals W W' hij hk hw hC hR hT;have hnew:∀{S:Nat→Prop} {e:TypeId} {size:Nat} {u:Value} {m:Nat} {xs:List Value},Kept S W W'→(∀k,S k→k < w8.heap.size)→W.ownsRow w8.heap.size e size u m xs→W'.ownsRow w8.heap.size e size u m xs:=fun hKk hS hr=>Kept.row hr hKk (fun k hk2 hs=>by have:=(hr.lt k hk2).1;have:=hS k hs;omega);by_cases h12:i=12
    ·simp only[h12,if_true]at hT;have hS:∀k,some k=(Value.slice Av ds.length cv).ownBlock→k < w8.heap.size:=fun k e=>HLT.out k (.inr e);subst h12;rcases j with _|_|_|_|_|_|_|_|_|_|_|_|_|_|_|_|j
     all_goals first
      |exact trivial
      |exact hR
      |(exfalso;exact hij rfl)
      |(exfalso;revert hw;decide)
      |skip
     ·obtain⟨Ak,ck,h1,h2⟩:=hR;exact⟨Ak,ck,h1,hnew hT hS h2⟩
     ·obtain⟨Ak,ck,h1,h2⟩:=hR;exact⟨Ak,ck,h1,hnew hT hS h2⟩
     ·obtain⟨g,Ak,ck,h1,h2,h3,h4⟩:=hR;exact⟨g,Ak,ck,h1,h2,(hT.block g (lt_block h3) (fun e=>by have:=hS g e;omega)).trans h3,hnew hT hS h4⟩
     ·exfalso;generalize hb:waitsB _ _ _=b at hw;have:b=true:=by rw[←hb];kernel_rfl
      rw[this]at hw;cases hw
    ·by_cases h15:i=15
     ·simp only[h15]at hT;have hT:Kept (fun k=>k=s) W W':=hT;have hS:∀k,k=s→k < w8.heap.size:=fun k e=>HLT.out k (.inl e);subst h15;rcases j with _|_|_|_|_|_|_|_|_|_|_|_|_|_|_|_|j
      all_goals first
       |exact trivial
       |exact hR
       |(exfalso;exact hij rfl)
       |(cases hk;done)
       |skip
      ·obtain⟨Ak,ck,h1,h2⟩:=hR;exact⟨Ak,ck,h1,hnew hT hS h2⟩
      ·obtain⟨Ak,ck,h1,h2⟩:=hR;exact⟨Ak,ck,h1,hnew hT hS h2⟩
      ·obtain⟨g,Ak,ck,h1,h2,h3,h4⟩:=hR;exact⟨g,Ak,ck,h1,h2,(hT.block g (lt_block h3) (fun e=>by have:=hS g e;omega)).trans h3,hnew hT hS h4⟩
     ·simp only[h12,h15,if_false]at hT;rcases j with _|_|_|_|_|_|_|_|_|_|_|_|_|_|_|_|j
      all_goals first
       |exact trivial
       |exact hR
       |skip
      ·obtain⟨Ak,ck,h1,h2⟩:=hR;exact⟨Ak,ck,h1,own_below h2 hT⟩
      ·obtain⟨Ak,ck,h1,h2⟩:=hR;exact⟨Ak,ck,h1,own_below h2 hT⟩
      ·obtain⟨g,Ak,ck,h1,h2,h3,h4⟩:=hR;exact⟨g,Ak,ck,h1,h2,(hT.block g (lt_block h3)).trans h3,own_below h4 hT⟩
      ·obtain⟨Ak,ck,h1,h2,h3,h4⟩:=hR;exact⟨Ak,ck,own_below h1 hT,own_below h2 hT,h3,(hT.block _ (lt_block h4)).trans h4⟩
      ·obtain⟨Ak,ck,v',h1,h2,h3,h4⟩:=hR;exact⟨Ak,ck,v',own_below h1 hT,own_below h2 hT,h3,(hT.block _ (lt_block h4)).trans h4⟩
   ·intro i o hio vals W hC haf hI0;have e4:=(hC.cell (o:=4) HRL.out.1 HRL.out.2).trans k48;rcases i with _|_|_|_|_|_|_|_|_|_|_|_|_|_|_|_|i
    all_goals first
     |(exfalso;simp at hio;done)
     |skip
    all_goals
     simp at hio;subst hio;simp[bindD,rdB,Region.binds]at haf
    all_goals first
     |(simp[opU,go_sem,haf,e4,Ext.refl];done)
     |skip
    ·have hI:=hI0 (fun k hk hk2=>by
      have h:k=12∨k=15:=by simpa using hk2
      rcases h with rfl|rfl
      ·exact .inr (by kernel_rfl)
      ·exact .inr (by kernel_rfl))
     have e1:=(cells2 hI.2).2.1;simp[opU,go_sem,haf,e1,Ext.refl]
    ·simp[opU,go_sem,haf];refine(CloneB Ad d cd W (cs_own (row_zonal HAD8.out hC HZ8.out zT_u8)).2 (by omega)).mono fun e W' h=> ?_;obtain⟨v,he,ho,hb⟩:=h;obtain⟨Ak,ck,rfl,_,_⟩:=Cs.of_own ho;exact⟨_,he,hb,Ak,ck,rfl,own_base ho hC.size⟩
    ·obtain⟨⟨Ak,ck,h1,h2⟩,h9⟩:=haf;simp[opU,go_sem,h1,h9,Ext.refl];exact⟨Ak,ck,⟨rfl,rfl⟩,h2⟩
    ·obtain⟨Ak,ck,h1,h2⟩:=haf;simp[opU,go_sem,h1,Ext.refl];exact⟨bAl,hC.size,Ak,ck,by simp only[World.alloc,Array.getElem_push_eq],own_below h2 bAl⟩
    ·obtain⟨h4,h5,g,h11,hg,Ak,ck,hgb,hgo⟩:=haf;have hI:=hI0 (fun k hk hk2=>by
      have h:k=12∨k=15:=by simpa using hk2
      rcases h with rfl|rfl
      ·exact .inl rfl
      ·exact .inr (by kernel_rfl))
     have hgh:W.heap[g]? =some (.cells #[.slice Ak d.length ck,.slice Ac c.length cc] 121 (0,0)):=by first|exact hgb|(rw[Array.getElem?_eq_some_iff];exact⟨_,hgb⟩)
     simp[opU,go_sem,h4,h5,h11];refine(InsertAt B (.slice Av ds.length cv) ds.length p (datC ds) g (.slice Ak d.length ck) (.slice Ac c.length cc) W hI.1 (Nat.le_trans H8.out.size hC.size) hgh (fun e=>by have:=HLT.out g (.inr e.symm);omega) rfl rfl (datC_one ds) hp1 (by omega)).mono fun e W' h=> ?_;obtain⟨v',he,ho,hm⟩:=h
     refine⟨v',he,hm.kept,Ak,ck,Kept.row hgo hm.kept (fun k hk2 hs=>by have:=(hgo.lt k hk2).1;have:=HLT.out k (.inr hs);omega),ho,fun b hb=> ?_,(hm.kept.block s (lt_block hI.2) (fun e=>HNE.out s e rfl)).trans hI.2⟩;rcases hm.at_ b hb with e|e
     ·exact .inl e.symm
     ·exact .inr (Nat.le_trans hC.size e)
    ·obtain⟨h14,Ak,ck,h1,h2,h3,h4⟩:=haf;obtain⟨A',c',hv,_⟩:=own_form h2;rw[hv]at h2;obtain⟨_,e1,f1⟩:=cells2 h4;have f1:=f1 1;simp[opU,go_sem,h14,hv,e1,f1];have hkk:Kept (fun k=>k=s) W (W.setCell ⟨s,1,none⟩ (.slice A' (ds.length+1) c')):=(Kept.refl (fun k=>k=s) W).setCell (fun _=>rfl) _
     refine⟨hkk,Ak,ck,Kept.row h1 hkk (fun k hk2 hs=>by have:=(h1.lt k hk2).1;subst hs;omega),.slice A' (ds.length+1) c',Kept.row h2 hkk (fun k hk2 hs=>by rcases h3 k (hv▸hk2)with e|e;exact HNE.out k e hs;have:=HLT.out k (.inl hs);omega),fun b hb=>h3 b (hv▸hb), ?_⟩;have:=heap_set (i:=1) (v:=.slice A' (ds.length+1) c') h4
     first|exact this|(simpa using this)
   ·intro vals W hC hR;have h15:=hR 15 (by show 15 < 16;omega) (fun i _=>by simp);obtain⟨Ak,ck,v',g1,g2,g4,g3⟩:=h15;obtain⟨Az,cz,hzb8,_⟩:=H8.out.zn.blk;have hzS:¬(z=s∨some z=(Value.slice Av ds.length cv).ownBlock):=by
     rintro(e|e)
     ·exact ne_cells hzb8 H8.out.st.set (by decide) e
     ·obtain⟨cs,e1,_⟩:=row_block H8.out.st.row e.symm;exact ne_cells hzb8 e1 (by decide) rfl
    obtain⟨_,_,_,y3,yf⟩:=cells4 ((hC.block z (lt_block hzb8) hzS).trans hzb8);have yf:=yf 3;have hm:=H8.out.more hC (b1:=⟨Ak,d,ck⟩) (b2:=⟨Ac,c,cc⟩) g3 p hp1 g2 (own_base g1 H8.out.size) (own_base (row_zonal HO8.out hC HZ8.out zT_u8) HB.out) g4;have HM:=hid hm;clear hR hm g1 g2 g3 g4;simp[relAct,dstAt,Act.put];generalize vals 0=w0x,vals 1=w1x;generalize vals 2=w2x,vals 3=w3x;generalize vals 4=w4x,vals 5=w5x;generalize vals 6=w6x,vals 7=w7x;generalize vals 8=w8x,vals 9=w9x;generalize vals 10=w10x,vals 11=w11x;generalize vals 12=w12x,vals 13=w13x;generalize vals 14=w14x,vals 15=w15x;go_wp2_with fail
    go_ret2
    exact⟨rfl,v',⟨Ak,d,ck⟩,⟨Ac,c,cc⟩,rfl,rfl,HM.out.before HK8.out (fun _ _ h=>h)⟩
structure NewN(w w':World)(B z bn bb x bs s:Nat)(ap n:List Lab)(t:Int)(c:Int)(D:DataW Unit)(f:Lab→Int)(N:Nat)(ttl:Int)(v2:Value)(d:Blob×Blob):Prop where
 more:More w w' B z bn bb s ap c D f N ttl (.slice none 0 0) v2 [d] (fun k=>k=z∨k=bn∨k=bb)
 nd:NdG w' B x bs n 1 (.map [(.int .u16 t,.lit (.int .i64 (s:Int)))])
 hs:w.heap.size≤s
 hb:w.heap.size≤bs
theorem GPutNew(w:World)(B z bn bb:Nat)(ap n:List Lab)(t:Int)(cq:Int)(hcz0:0≤cq)(hcz:cq < 2000)(D:DataW Unit)(f:Lab→Int)(N:Nat)(h:Zn w B z bn bb ap cq D f N)(hD:D.atKey (.string (zkey n)) .nil=ptrD none)(An:Option Addr)(cn:Nat)(Ad:Option Addr)(d:Lab)(cd:Nat)(ttl2:Int)(hAn:Cs w An (n.map strV))(hAd:w.ownsRow 0 5 1 (.slice Ad d.length cd) d.length (d.map byteV))(c:Lab)(hr:RecG n ap t d c cn cd)(hap:Small ap)(hap1:1≤ap.length)(hN:N≤3000000000000)(hf:∀m, -1000000≤f m∧f m≤1000000):
 Calls prog 50 #[.pointer (some ⟨z,0,none⟩),.agg #[.slice An n.length cn,.int .u16 t,.int .u16 1,.int .u32 ttl2,.slice Ad d.length cd]] w fun e w'=>e=.returned (.tuple #[.bool true,.int .i64 0])∧∃x bs s v2 b1 b2 N',b1.l=d∧b2.l=c∧N'≤N+2000∧NewN w w' B z bn bb x bs s ap n t (cq+1) (D.put (.string (zkey n)) (.lit (.int .i64 (x:Int)))) (cnt f (lower n) 1 (n.length - ap.length+1)) N' ttl2 v2 (b1,b2):=by
 have hmm:= @run_makeMap prog;have hb1:Below w.heap.size w (w.alloc (.cells #[.slice An n.length cn,.int .u16 t,.int .u16 1,.int .u32 ttl2,.slice Ad d.length cd] 39)):=bAl;have hblk:=heap_alloc_new w (.cells #[.slice An n.length cn,.int .u16 t,.int .u16 1,.int .u32 ttl2,.slice Ad d.length cd] 39);obtain⟨k0,k1,k2,k3,k4,kf⟩:=cells5 hblk
 have hsz:(w.alloc (.cells #[.slice An n.length cn,.int .u16 t,.int .u16 1,.int .u32 ttl2,.slice Ad d.length cd] 39)).heap.size=w.heap.size+1:=by simp
 have hO:=h.ext hb1;have hAn1:=hAn.below hb1;have hAd1:=own_below hAd hb1;go_enter func50,ntmps50;go_wp2_with fail;generalize w.alloc (.cells #[.slice An n.length cn,.int .u16 t,.int .u16 1,.int .u32 ttl2,.slice Ad d.length cd] 39)=w1 at *;have hrl:w.heap.size < w1.heap.size:=by omega
 obtain⟨Aa,ca,hzb,hza⟩:=hO.blk;have hzl:=lt_block hzb;obtain⟨z0,z1,z2,z3,zf⟩:=cells4 hzb;have hcs_ap:=(cs_own hza).2;obtain⟨hr1,hr2,hr3,hr4,hr5,hr6,hr7,hr8,hr9,hr10,hr11⟩:=hr;have HCk:Hid (∀W,Below w1.heap.size w1 W→Calls prog 102 #[.slice An n.length cn] W fun e w'=>e=.returned (.int .i64 0)∧W=w'):=hid fun W hW=>by
  have:=Check An n cn W (hAn1.below hW) hr1.few;rw[hr2]at this;exact this
 have HWi:Hid (∀W,Below w1.heap.size w1 W→Calls prog 66 #[.slice An n.length cn,.slice Aa ap.length ca] W fun e w'=>Below W.heap.size W w'∧e=.returned (.bool true)):=hid fun W hW=>by
  have:=Within An Aa n ap cn ca W (hAn1.below hW) (hcs_ap.below hW) hr1.few hap.few hr8 hr9;rw[hr3]at this;exact this
 have HRc:Hid (∀W,Below w1.heap.size w1 W→Calls prog 81 #[.int .u16 t,.slice Ad d.length cd] W fun e w'=>Below W.heap.size W w'∧e=.returned (.int .i64 0)):=hid fun W hW=>hr4 Ad W ((cs_own hAd1).2.below hW)
 have HCa:Hid (∀W,Below w1.heap.size w1 W→Calls prog 103 #[.int .u16 t,.slice Ad d.length cd] W fun e w'=>Below W.heap.size W w'∧∃v,e=.returned v∧w'.ownsRow W.heap.size 5 1 v c.length (c.map byteV)):=hid fun W hW=>
  hr6 Ad W ((cs_own hAd1).2.below hW)
 have HAt:Hid (∀W,Below w1.heap.size w1 W→Calls prog 62 #[.pointer (some ⟨z,0,none⟩),.slice An n.length cn,.int .u16 t] W fun e w'=>e=.returned (.pointer none)∧Below W.heap.size W w'):=hid fun W hW=>by
  have hOW:=hO.ext hW;exact ZAt z bn An n cn t N 9 D .nil none none W ((bcl (o:=1) hW hzl).trans z1) (Nat.lt_of_lt_of_le hzl hW.size) hOW.nodes (hAn1.below hW) hr1 hr5 hD (fun x' hx'=>by cases hx')
 have HK:Hid (∀W,Below w1.heap.size w1 W→Calls prog 68 #[.slice An n.length cn] W fun e w'=>e=.returned (strV (zkey n))∧Below W.heap.size W w'):=hid fun W hW=>ZKey An n cn W (hAn1.below hW) hr1;have hnl:=hr1.1;have HR:Hid (RecG n ap t d c cn cd):=hid ⟨hr1,hr2,hr3,hr4,hr5,hr6,hr7,hr8,hr9,hr10,hr11⟩;have HAn:=hid hAn1;have HAd:=hid hAd1;have HO:=hid hO
 have HB:Hid (B≤w1.heap.size):=hid (Nat.le_trans hO.h1 (Nat.le_of_lt hzl));have HTu:Hid (Kept (fun k=>k=bn∨k=bb) w w1):=hid ((Kept.of_ext hb1).mono (fun _ _ h=>h.elim));have HIM:=hid h.nodes.isMap;have HAdo:=hid hAd1;have hapl:=hr3;rw[within_iff]at hapl;have hapl:=hapl.1;have HF:=hid hf;clear h hAn hAd hAn1 hAd1 hza hcs_ap hr1 hr2 hr3 hr4 hr5 hr6 hap
 refine wp_region_mono mixed0 (by kernel_rfl) [.is (.pointer (some ⟨w.heap.size,0,none⟩)),.is (.slice An n.length cn),.is (.int .i64 0),.is (.bool false),.is (.bool false),.is (.pointer (some ⟨w.heap.size,0,none⟩)),.is (.slice An n.length cn),.is (.pointer (some ⟨z,0,none⟩)),.is (.pointer (some ⟨z,0,none⟩)),.is (.pointer (some ⟨z,0,none⟩)),.is (.slice Aa ap.length ca),.is (.bool true),.is (.bool false),.is (.bool false),.is (.bool false)] rfl ?_ ?_
 ·intro i q hio vals W hE haf;have e0:=(bcl (o:=0) hE hrl).trans k0;have y0:=(bcl (o:=0) hE hzl).trans z0;rcases i with _|_|_|_|_|_|_|_|_|_|_|_|_|_|_|i
  all_goals first
   |(exfalso;simp at hio;done)
   |(simp at hio;subst hio;simp[bindD,rdB,Region.binds,factAt]at haf;simp[opU,go_sem,haf,e0,y0,Ext.refl,factAt];done)
   |skip
  all_goals
   simp at hio;subst hio;simp[bindD,rdB,Region.binds,factAt]at haf
  ·simp[opU,go_sem,haf,factAt];refine(HCk.out W hE).mono fun e W' h=> ?_;obtain⟨h1,h2⟩:=h;subst h2;exact⟨h1,Below.refl _ _⟩
  ·simp[opU,go_sem,haf,factAt];refine(HWi.out W hE).mono fun e W' h=> ?_;exact⟨h.2,h.1⟩
 ·intro vals W hE hF;simp only[facts]at hF;obtain⟨_,_,_,_,_,_,_,_,_,_,_,_,_,_,h14,_⟩:=hF;have e14:vals 14=.bool false:=h14;simp[relAct,dstAt,Act.put];rw[e14];clear e14 h14;generalize vals 0=j0,vals 1=j1;generalize vals 2=j2,vals 3=j3;generalize vals 4=j4,vals 5=j5;generalize vals 6=j6,vals 7=j7;generalize vals 8=j8,vals 9=j9
  generalize vals 10=j10,vals 11=j11;generalize vals 12=j12,vals 13=j13;have hE:Below w1.heap.size w1 W:=hE;have e1:=(bcl (o:=1) hE hrl).trans k1;have e2:=(bcl (o:=2) hE hrl).trans k2;have e4:=(bcl (o:=4) hE hrl).trans k4;go_wp2_with fail;refine(HRc.out W hE).mono ?_;rintro e w2 ⟨hb2,rfl⟩;have hE2:=hE.trans (hb2.mono hE.size);clear e1 e2 e4 hb2 hE
  have e1:=(bcl (o:=1) hE2 hrl).trans k1;have e4:=(bcl (o:=4) hE2 hrl).trans k4;go_wp2_with fail;refine(HCa.out w2 hE2).mono ?_;rintro e w3 ⟨hb3,vc,rfl,hown3⟩;have hE3:=hE2.trans (hb3.mono hE2.size);have ho3:=own_base hown3 hE2.size;obtain⟨Ac,cc,rfl,_,hcc⟩:=Cs.of_own hown3;clear e1 e4 hb3 hE2 hown3 w2;have e0:=(bcl (o:=0) hE3 hrl).trans k0;have e1:=(bcl (o:=1) hE3 hrl).trans k1
  go_wp2_with fail;refine(HAt.out w3 hE3).mono ?_;rintro e w4 ⟨rfl,hb4⟩;have hE4:=hE3.trans (hb4.mono hE3.size);have ho4:=own_below ho3 hb4;have hc4:=hcc.below hb4;clear e0 e1 hb4 hE3 ho3 hcc w3;have w5d:True:=trivial;have hE5:=hE4;have ho5:=ho4;go_wp2_with fail
  refine wp_region_mono mixed0 (by kernel_rfl) [.is (.bool false),.is (.bool false),.is undef,.is undef,.is undef,.is undef,.is undef,.is undef,.is undef,.is (.bool false),.is (.bool false)] rfl ?_ ?_
  ·intro i q hio vals W hE haf;rcases i with _|_|_|_|_|_|_|_|_|_|_|i
   all_goals first
    |(exfalso;simp at hio;done)
    |(simp at hio;subst hio;simp[bindD,rdB,Region.binds,factAt]at haf;simp[opU,go_sem,haf,Ext.refl,factAt];done)
    |skip
  ·intro vals W hE hF;simp only[facts]at hF;obtain⟨_,_,_,_,_,_,_,_,_,_,h10,_⟩:=hF;have e10:vals 10=.bool false:=h10;simp[relAct,dstAt,Act.put];rw[e10];clear e10 h10;generalize vals 0=g0,vals 1=g1;generalize vals 2=g2,vals 3=g3;generalize vals 4=g4,vals 5=g5;generalize vals 6=g6,vals 7=g7;generalize vals 8=g8,vals 9=g9
   have hE6:=hE5.trans (hE.mono hE5.size);have ho6:=own_below ho5 hE;have y3:=(bcl (o:=3) hE6 hzl).trans z3;have e0:=(bcl (o:=0) hE6 hrl).trans k0;go_wp2_with fail;refine(HK.out W hE6).mono ?_;rintro e w7 ⟨rfl,hb7⟩;have hE7:=hE6.trans (hb7.mono hE6.size);have ho7:=own_below ho6 hb7;have hO7:=HO.out.ext hE7;have y1:=(bcl (o:=1) hE7 hzl).trans z1;have e0:=(bcl (o:=0) hE7 hrl).trans k0
   have l7:(Instr.lookup 100 (.map (some bn)) (strV (zkey n)) false).run prog w7=.ok (.pointer none) w7:=look_ptr hO7.nodes keyS underlying100 rfl (keyOf_str _ (zkey_len HR.out.small)) (o:=none) hD;go_wp2_with fail;refine(Lower An n cn w7 (HAn.out.below hE7) HR.out.small.few).mono ?_;rintro e w8 ⟨vl,rfl,hown8,hb8⟩;have hE8:=hE7.trans (hb8.mono hE7.size)
   obtain⟨Al,cl,rfl,hcl1,hcl2⟩:=own_form hown8;clear y1 e0 l7 y3;have y1:=(bcl (o:=1) hE8 hzl).trans z1;have k18:=(bcl (o:=1) hE8 hrl).trans k1;have hrb8:=(hE8.block _ hrl).trans hblk;have had8:=own_below HAdo.out hE8;have ho8:=own_below ho7 hb8;have hO8:=HO.out.ext hE8;have hsz8:=hE8.size;have HE8:=hid hE8
   go_upto_region 21 with fail
   have b8:Below w8.heap.size w8 (w8.alloc (.map #[] 0)):=bAl;have b9:Below (w8.alloc (.map #[] 0)).heap.size (w8.alloc (.map #[] 0)) ((w8.alloc (.map #[] 0)).alloc (.cells #[.slice Al n.length cl,.map (some w8.heap.size)] 112)):=bAl;have m8:=heap_alloc_new w8 (.map #[] 0);have m9:=(b9.block w8.heap.size (by simp)).trans m8
   have x9:=heap_alloc_new (w8.alloc (.map #[] 0)) (.cells #[.slice Al n.length cl,.map (some w8.heap.size)] 112);rw[World.size_alloc]at x9;have b89:=b8.trans (b9.mono b8.size);have s9:((w8.alloc (.map #[] 0)).alloc (.cells #[.slice Al n.length cl,.map (some w8.heap.size)] 112)).heap.size=w8.heap.size+2:=by simp
   clear b8 b9 m8;generalize hw9:(w8.alloc (.map #[] 0)).alloc (.cells #[.slice Al n.length cl,.map (some w8.heap.size)] 112)=w9 at *;obtain⟨bs,hbs⟩:∃bs,w8.heap.size=bs:=⟨_,rfl⟩
   obtain⟨x,hx⟩:∃x,bs+1=x:=⟨_,rfl⟩
   have hO9:=hO8.ext b89;have hal9:=own_below hown8 b89;have hrb9:=(b89.block _ (lt_block hrb8)).trans hrb8;have had9:=own_below had8 b89;have ho9:=own_below ho8 b89;have hT9:Kept (fun k=>k=bn∨k=bb) w w9:=HTu.out.trans ((Kept.of_ext (hE8.trans (b89.mono hsz8))).mono (fun _ _ h=>h.elim));have hws:w.heap.size≤bs:=by omega
   have hbm9:w9.ownsMap prog 36 ptrR bs 0 (.map []):=⟨#[],0,by rw[←hbs];exact m9,⟨by simp,MapKept.stamped_empty 0,by simp⟩,Nat.le_refl _,rfl⟩
   rw[hbs,hx]at x9;have y19:=(bcl (o:=1) b89 (Nat.lt_of_lt_of_le hzl hsz8)).trans y1;have hBbs:B≤bs:=by rw[←hbs];exact Nat.le_trans HB.out hsz8
   have hbsn:bs≠bn∧bs≠bb:=by
    have h1:=hO8.nodes.lt;obtain⟨_,g3,_⟩:=hO8.below;have h2:=g3.lt;rw[hbs]at h1 h2;omega
   have HO9:=hid hO9;have HAL9:=hid (own_base hal9 (Nat.le_trans HB.out hE7.size));have HRB9:=hid hrb9;have HAD9:=hid had9;have HOC9:=hid ho9;have HT9:=hid hT9;have HBM9:=hid hbm9;have HX9:=hid x9;have HBN:=hid hbsn;have hkl:=keyOf_str (zkey n) (zkey_len HR.out.small);have hKN:=HO9.out.nodes
   clear hO9 hal9 hrb9 had9 ho9 hT9 hbm9 x9 m9 b89 hO8 hrb8 had8 ho8 hown8 hE8 hE7 hE6 hE5 hE4 hb7 hb8 ho7 ho6 ho5 ho4 hO7 hbsn w5d k0 k1 k2 k3 k4 kf z0 z1 z2 z3 zf y1 k18 hblk hb1 hE;rw[hbs,hx]
   go_wp2_with (first
    |(at_mapUpdate;refine wpList_mapUpdate_own _ rfl _ _ _ 100 rfl 9 109 keyS underlying100 ptrR bn N D rfl hKN (by unfold maxLen;omega) (strV (zkey n)) (.pointer (some ⟨x,0,none⟩)) (.string (zkey n)) rfl rfl hkl (.lit (.int .i64 (x:Int))) [] (ptrR_at x) ?_;intro w10 hown10 hg10;have HP10:=hid (HO9.out.setNodes hg10 hown10 (Nat.le_succ N));have hx10:=cells_zonal HX9.out HP10.out.2.1 HP10.out.2.2.1 zT_node;obtain⟨xc0,xc1,_⟩:=cells2 hx10))
   obtain⟨A10,c10,hzb10,_⟩:=HP10.out.1.blk;obtain⟨E10,hE10,hs10⟩:=HP10.out.1.below;have hal10:=row_zonal HAL9.out HP10.out.2.1 HP10.out.2.2.1 zT_str
   have HCt:=hid (Counted z bn bb (0,0) A10 ap.length c10 cq Al (lower n) cl 1 (N+1) E10 f w10 hzb10 hE10 hs10 (by omega) HF.out (.inl rfl) (cs_own hal10).2 HR.out.small.lower (by rw[lower_len];exact hcl1) hcl2 (by rw[lower_len];exact hapl) hap1);rw[lower_len]at HCt;refine HCt.out.mono ?_;rintro e w11 ⟨rfl,hk11,E11,N11,hE11,hN11,hs11⟩
   have HP11:=hid (HP10.out.1.setBelow (N':=N+1+n.length+1) hk11 (hE11.mono hN11) hs11 (by omega));have hk1011:Kept (fun k=>k=bn∨k=bb) w9 w11:=(HP10.out.2.1.mono (fun k _ h=>.inl h)).trans (hk11.mono (fun k _ h=>.inr h));have hZ1011:Zonal (fun k=>k=bn∨k=bb) w9:=by
    intro k hk2;rcases hk2 with e|e
    ·exact HP10.out.2.2.1 k e
    ·obtain⟨E9,hE9,_⟩:=HO9.out.below;exact Zonal.map hE9 k e
   have hx11:=cells_zonal HX9.out hk1011 hZ1011 zT_node;have hal11:=row_zonal HAL9.out hk1011 hZ1011 zT_str;have hrb11:=cells_zonal HRB9.out hk1011 hZ1011 zT_rec;have had11:=row_zonal HAD9.out hk1011 hZ1011 zT_u8;have hoc11:=row_zonal HOC9.out hk1011 hZ1011 zT_u8;have hbm11:=ownsMap_block HBM9.out (hk1011.block bs HBM9.out.lt (by have:=HBN.out;omega))
   have hT11:Kept (fun k=>k=bn∨k=bb) w w11:=HT9.out.trans hk1011;have hO11:=HP11.out.1;have hs11':=hT11.size;clear HP11 HP10 HCt hE10 hs10 hzb10 hE11 hs11 hk11 hx10 xc0 xc1 hal10 hk1011 hZ1011 hown10 hg10 hKN;clear HX9 HAL9 HRB9 HAD9 HOC9 HBM9 HT9 HO9;go_wp2_with fail;have hb12:Below w11.heap.size w11 (w11.alloc (.cells #[.int .u32 0,.slice none 0 0] 119)):=bAl
   have hs12:=heap_alloc_new w11 (.cells #[.int .u32 0,.slice none 0 0] 119);have hBw11:B≤w11.heap.size:=Nat.le_trans hO11.h2 (Nat.le_of_lt hO11.nodes.lt);generalize w11.alloc (.cells #[.int .u32 0,.slice none 0 0] 119)=w12 at *;have hO12:=hO11.ext hb12;have hx12:=(hb12.block _ (lt_block hx11)).trans hx11;have hal12:=own_below hal11 hb12;have hrb12:=(hb12.block _ (lt_block hrb11)).trans hrb11
   have had12:=own_below had11 hb12;have hoc12:=own_below hoc11 hb12;have hbm12:=hbm11.kept (row:=none) ⟨hb12.os,hb12.tape,hb12.output,hb12.size,fun k hk _=>hb12.block k hk⟩ (by simp);have hT12:=hT11.trans ((Kept.of_ext hb12).mono (fun _ _ h=>h.elim));have hwss:w.heap.size≤w11.heap.size:=hT11.size;obtain⟨s,hs⟩:∃s,w11.heap.size=s:=⟨_,rfl⟩
   rw[hs]at hs12 hBw11 hwss;rw[hs];have HO12:=hid hO12;have HX12:=hid hx12;have HAL12:=hid hal12;have HRB12:=hid hrb12;have HAD12:=hid had12;have HOC12:=hid hoc12;have HBM12:=hid hbm12;have HT12:=hid hT12;have HS12:=hid hs12;have hku:=keyOf_u16 t HR.out.wf
   clear hO12 hx12 hal12 hrb12 had12 hoc12 hbm12 hT12 hs12 hO11 hx11 hal11 hrb11 had11 hoc11 hbm11 hT11 hb12 hs hs11';refine wp_region_dep mixed0 (by kernel_rfl) (fun i j=>false) (by kernel_rfl)
    (fun i W W'=>if i=7 then Kept (fun k=>k=bs) W W' else Ext W W')
    (fun W=>Kept (fun k=>k=bs) w12 W)
    (fun i vals W=>match i with
      |0=>vals 0=.pointer (some ⟨x,0,none⟩)
      |1=>vals 1=.pointer (some ⟨x,0,none⟩)
      |2=>vals 2=.pointer (some ⟨x,1,none⟩)
      |3=>vals 3=.map (some bs)
      |4=>vals 4=.pointer (some ⟨w.heap.size,1,none⟩)
      |5=>vals 5=.int .u16 t
      |6=>vals 6=.pointer (some ⟨s,0,none⟩)
      |7=>W.ownsMap prog 36 ptrR bs 1 (.map [(.int .u16 t,.lit (.int .i64 (s:Int)))])
      |_=>True) ?_ (fun W=>W.ownsMap prog 36 ptrR bs 0 (.map [])) (fun i=>i==7) HBM12.out.drew ?_ ?_ ?_ ?_ ?_ ?_
   ·intro j vals i v W hij hw hR;rcases j with _|_|_|_|_|_|_|_|j
    all_goals first
     |exact trivial
     |exact hR
     |(simpa[hij,Ne.symm hij]using hR)
   ·intro i W W' hk hC hI hT;by_cases h7:i=7
    ·subst h7;cases hk
    ·simp only[h7,if_false]at hT;exact hI.kept (row:=none) ⟨hT.os,hT.tape,hT.output,hT.size,fun k hk _=>hT.block k hk⟩ (by simp)
   ·exact(Kept.refl _ w12).drew
   ·intro i W W' hC hT;by_cases h7:i=7
    ·simp only[h7,if_true]at hT;exact hC.trans hT
    ·simp only[h7,if_false]at hT;exact hC.trans (Kept.mono (Kept.of_ext hT) (fun _ _ h=>h.elim))
   ·intro i j vals W W' hij hk hw hC hR hT;rcases j with _|_|_|_|_|_|_|_|j
    all_goals first
     |exact trivial
     |exact hR
     |skip
    have h7:¬i=7:=hij;simp only[h7,if_false]at hT;exact World.ownsMap.kept hR (row:=none) ⟨hT.os,hT.tape,hT.output,hT.size,fun k hk _=>hT.block k hk⟩ (by simp)
   ·intro i o hio vals W hC haf hI0;have hxW:=cells_zonal HX12.out hC (Zonal.map HBM12.out) zT_node;have hrW:=cells_zonal HRB12.out hC (Zonal.map HBM12.out) zT_rec;obtain⟨_,x1,_⟩:=cells2 hxW;obtain⟨_,k1,_⟩:=cells5 hrW;rcases i with _|_|_|_|_|_|_|_|i
    all_goals first
     |(exfalso;simp at hio;done)
     |skip
    all_goals
     simp at hio;subst hio;simp[bindD,rdB,Region.binds]at haf
    all_goals first
     |(simp[opU,go_sem,haf,x1,k1,Ext.refl];done)
     |skip
    have hI:=hI0 (fun k hk hk2=>.inl (by simpa using hk2));obtain⟨W',hrun,hm',hg'⟩:=hI.update keyT underlying110 (by unfold maxLen;omega) hku (ptrR_at s);simp[opU,go_sem,haf,hrun];exact⟨(Kept.of_grown hg').mono (fun k _ h=>by cases h;rfl),hm'⟩
   ·intro vals W hC hR;have h7:=hR 7 (by show 7 < 8;omega) (fun i _=>rfl);have hm13:W.ownsMap prog 36 ptrR bs 1 (.map [(.int .u16 t,.lit (.int .i64 (s:Int)))]):=h7;have hZb:Zonal (fun k=>k=bs) w12:=Zonal.map HBM12.out;obtain⟨Az,cz,hzb12,_⟩:=HO12.out.blk;have hO13:=HO12.out.kept hC hZb (Ne.symm (ne_map HBM12.out hzb12)) (by have:=HBN.out;omega) (by have:=HBN.out;omega)
    have hx13:=cells_zonal HX12.out hC hZb zT_node;have hal13:=row_zonal HAL12.out hC hZb zT_str;have hrb13:=cells_zonal HRB12.out hC hZb zT_rec;have had13:=row_zonal HAD12.out hC hZb zT_u8;have hoc13:=row_zonal HOC12.out hC hZb zT_u8;have hs13:=(hC.block s (lt_block HS12.out) (Ne.symm (ne_map HBM12.out HS12.out))).trans HS12.out
    have hT13:Kept (fun k=>k=bn∨k=bb) w W:=HT12.out.then hC (fun k hk e=>by omega);have hkp:Kept (fun k=>k=s) W (W.setCell ⟨s,0,none⟩ (.int .u32 ttl2)):=(Kept.refl (fun k=>k=s) W).setCell (fun _=>rfl) _;have hZs:Zonal (fun k=>k=s) W:=Zonal.cells hs13 (.inr (.inl rfl));obtain⟨Az3,cz3,hzb13,_⟩:=hO13.blk;obtain⟨E13,hE13,_⟩:=hO13.below;have hset:=heap_set (i:=0) (v:=.int .u32 ttl2) hs13
    have H8:Hid (Foc (W.setCell ⟨s,0,none⟩ (.int .u32 ttl2)) B z bn bb x bs s ap n t ttl2 (.slice none 0 0) [] cq (D.put (.string (zkey n)) (.lit (.int .i64 (x:Int)))) (.map [(.int .u16 t,.lit (.int .i64 (s:Int)))]) (cnt f (lower n) 1 (n.length - ap.length+1)) (N+1+n.length+1) 1):=hid
     ⟨hO13.kept hkp hZs (ne_cells hzb13 hs13 (by decide)) (ne_map hO13.nodes hs13) (ne_map hE13 hs13),
      ⟨⟨Al,cl,cells_zonal hx13 hkp hZs zT_node,row_zonal hal13 hkp hZs zT_str⟩,(ownsMap_block hm13 (hkp.block _ hm13.lt (ne_map hm13 hs13))).mono (by omega),hset,World.ownsRow_nil _ _ _ _,fun d hd=>by(cases hd),hBbs,hBw11⟩,HBN.out.1,HBN.out.2,Maps.atKey_put_same HIM.out (key_lit _) _ _,at_one _ (key_int _ _) _ _⟩
    have HO8:=hid (row_zonal hoc13 hkp hZs zT_u8);have HAD8:=hid (row_zonal had13 hkp hZs zT_u8);have HRB8:=hid (cells_zonal hrb13 hkp hZs zT_rec);have HT14:=hid (hT13.then hkp (fun k hk e=>by omega));obtain⟨_,_,_,k3,_⟩:=cells5 hrb13;obtain⟨q0,_,qf⟩:=cells2 hs13;have qf:=qf 0;clear hR h7 hm13 hZb hO13 hx13 hal13 hrb13 had13 hoc13 hT13 hkp hZs hzb13 hE13 hset hs13 hzb12
    simp[relAct,dstAt,Act.put];generalize vals 0=p0x,vals 1=p1x;generalize vals 2=p2x,vals 3=p3x;generalize vals 4=p4x,vals 5=p5x;generalize vals 6=p6x,vals 7=p7x;go_wp2_with fail;generalize W.setCell ⟨s,0,none⟩ (.int .u32 ttl2)=w14 at *;obtain⟨k08,k18,k28,k38,k48,_⟩:=cells5 HRB8.out;have hsl8:=lt_block H8.out.st.set
    have HLT:Hid (∀k,k=s∨some k=(Value.slice none 0 0).ownBlock→k < w14.heap.size):=hid (by
     rintro k (e|e)
     ·rw[e];exact hsl8
     ·cases e)
    have HNE:Hid (∀b,some b=(Value.slice none 0 0).ownBlock→b≠s):=hid fun b e=>by cases e
    have HZ8:Hid (Zonal (fun k=>k=s∨some k=(Value.slice none 0 0).ownBlock) w14):=hid (by
     intro k hk2;rcases hk2 with e|e
     ·exact Zonal.cells H8.out.st.set (.inr (.inl rfl)) k e
     ·cases e)
    have HRL:Hid (w.heap.size < w14.heap.size∧¬(w.heap.size=s∨some w.heap.size=(Value.slice none 0 0).ownBlock)):=hid ⟨lt_block HRB8.out,by
     rintro(e|e)
     ·exact ne_cells HRB8.out H8.out.st.set (by decide) e
     ·cases e⟩
    refine wp_region_dep mixed0 (by kernel_rfl) (fun i j=>i==15&&j==12) (by kernel_rfl)
     (fun i W W'=>if i=12 then Kept (fun k=>some k=(Value.slice none 0 0).ownBlock) W W' else if i=15 then Kept (fun k=>k=s) W W' else Ext W W')
     (fun W=>Kept (fun k=>k=s∨some k=(Value.slice none 0 0).ownBlock) w14 W)
     (fun i vals W=>match i with
       |0=>vals 0=.pointer (some ⟨s,0,none⟩)
       |1=>vals 1=.pointer (some ⟨s,0,none⟩)
       |2=>vals 2=.pointer (some ⟨s,0,none⟩)
       |3=>vals 3=.pointer (some ⟨s,1,none⟩)
       |4=>vals 4=.slice none 0 0
       |5=>vals 5=.int .i64 0
       |6=>vals 6=.pointer (some ⟨w.heap.size,4,none⟩)
       |7=>vals 7=.slice Ad d.length cd
       |8=>∃Ak ck,vals 8=.slice Ak d.length ck∧W.ownsRow w14.heap.size 5 1 (.slice Ak d.length ck) d.length (d.map byteV)
       |9=>vals 9=.slice Ac c.length cc
       |10=>∃Ak ck,vals 10=.agg #[.slice Ak d.length ck,.slice Ac c.length cc]∧W.ownsRow w14.heap.size 5 1 (.slice Ak d.length ck) d.length (d.map byteV)
       |11=>∃g Ak ck,vals 11=.slice (some ⟨g,0,none⟩) 1 1∧w14.heap.size≤g∧W.heap[g]? =some (.cells #[.slice Ak d.length ck,.slice Ac c.length cc] 121 (0,0))∧W.ownsRow w14.heap.size 5 1 (.slice Ak d.length ck) d.length (d.map byteV)
       |12=>∃Ak ck,W.ownsRow w14.heap.size 5 1 (.slice Ak d.length ck) d.length (d.map byteV)∧W.ownsRow B 121 2 (vals 12) 1 ([.slice Ak d.length ck,.slice Ac c.length cc])∧(∀b,(vals 12).ownBlock=some b→some b=(Value.slice none 0 0).ownBlock∨w14.heap.size≤b)∧W.heap[s]? =some (.cells #[.int .u32 ttl2,.slice none 0 0] 119 (0,0))
       |13=>vals 13=.pointer (some ⟨s,0,none⟩)
       |14=>vals 14=.pointer (some ⟨s,1,none⟩)
       |15=>∃Ak ck v',W.ownsRow w14.heap.size 5 1 (.slice Ak d.length ck) d.length (d.map byteV)∧W.ownsRow B 121 2 v' 1 ([.slice Ak d.length ck,.slice Ac c.length cc])∧(∀b,v'.ownBlock=some b→some b=(Value.slice none 0 0).ownBlock∨w14.heap.size≤b)∧W.heap[s]? =some (.cells #[.int .u32 ttl2,v'] 119 (0,0))
       |_=>True) ?_ (fun W=>W.ownsRow B 121 2 (.slice none 0 0) 0 ([])∧W.heap[s]? =some (.cells #[.int .u32 ttl2,.slice none 0 0] 119 (0,0))) (fun i=>i==12||i==15) ⟨H8.out.st.row,H8.out.st.set⟩ ?_ ?_ ?_ ?_ ?_ ?_
    ·intro j vals i v W hij hw hR;have hwv:∀a b,waitsB _ a b=true→j=a→i=b→False:=fun a b hab ha hb=>by
      subst ha hb;rw[hab]at hw;cases hw
     rcases j with _|_|_|_|_|_|_|_|_|_|_|_|_|_|_|_|j
     all_goals first
      |exact trivial
      |exact hR
      |(simpa[hij,Ne.symm hij]using hR)
    ·intro i W W' hk hC hI hT;by_cases h12:i=12
     ·subst h12;cases hk
     ·by_cases h15:i=15
      ·subst h15;cases hk
      ·simp only[h12,h15,if_false]at hT;exact⟨own_below hI.1 hT,(hT.block _ (lt_block hI.2)).trans hI.2⟩
    ·exact(Kept.refl _ w14).drew
    ·intro i W W' hC hT;by_cases h12:i=12
     ·simp only[h12,if_true]at hT;exact hC.trans (hT.mono (fun k _ h=>.inr h))
     ·by_cases h15:i=15
      ·simp only[h15]at hT;exact hC.trans (Kept.mono hT (fun k _ h=>.inl h))
      ·simp only[h12,h15,if_false]at hT;exact hC.trans (Kept.mono (Kept.of_ext hT) (fun _ _ h=>h.elim))
    ·intro i j vals W W' hij hk hw hC hR hT;have hnew:∀{S:Nat→Prop} {e:TypeId} {size:Nat} {u:Value} {m:Nat} {xs:List Value},Kept S W W'→(∀k,S k→k < w14.heap.size)→W.ownsRow w14.heap.size e size u m xs→W'.ownsRow w14.heap.size e size u m xs:=fun hKk hS hr=>Kept.row hr hKk (fun k hk2 hs=>by have:=(hr.lt k hk2).1;have:=hS k hs;omega);by_cases h12:i=12
     ·simp only[h12,if_true]at hT;have hS:∀k,some k=(Value.slice none 0 0).ownBlock→k < w14.heap.size:=fun k e=>HLT.out k (.inr e);subst h12;rcases j with _|_|_|_|_|_|_|_|_|_|_|_|_|_|_|_|j
      all_goals first
       |exact trivial
       |exact hR
       |(exfalso;exact hij rfl)
       |(exfalso;revert hw;decide)
       |skip
      ·obtain⟨Ak,ck,h1,h2⟩:=hR;exact⟨Ak,ck,h1,hnew hT hS h2⟩
      ·obtain⟨Ak,ck,h1,h2⟩:=hR;exact⟨Ak,ck,h1,hnew hT hS h2⟩
      ·obtain⟨g,Ak,ck,h1,h2,h3,h4⟩:=hR;exact⟨g,Ak,ck,h1,h2,(hT.block g (lt_block h3) (fun e=>by have:=hS g e;omega)).trans h3,hnew hT hS h4⟩
      ·exfalso;generalize hb:waitsB _ _ _=b at hw;have:b=true:=by rw[←hb];kernel_rfl
       rw[this]at hw;cases hw
     ·by_cases h15:i=15
      ·simp only[h15]at hT;have hT:Kept (fun k=>k=s) W W':=hT;have hS:∀k,k=s→k < w14.heap.size:=fun k e=>HLT.out k (.inl e);subst h15;rcases j with _|_|_|_|_|_|_|_|_|_|_|_|_|_|_|_|j
       all_goals first
        |exact trivial
        |exact hR
        |(exfalso;exact hij rfl)
        |(cases hk;done)
        |skip
       ·obtain⟨Ak,ck,h1,h2⟩:=hR;exact⟨Ak,ck,h1,hnew hT hS h2⟩
       ·obtain⟨Ak,ck,h1,h2⟩:=hR;exact⟨Ak,ck,h1,hnew hT hS h2⟩
       ·obtain⟨g,Ak,ck,h1,h2,h3,h4⟩:=hR;exact⟨g,Ak,ck,h1,h2,(hT.block g (lt_block h3) (fun e=>by have:=hS g e;omega)).trans h3,hnew hT hS h4⟩
      ·simp only[h12,h15,if_false]at hT;rcases j with _|_|_|_|_|_|_|_|_|_|_|_|_|_|_|_|j
       all_goals first
        |exact trivial
        |exact hR
        |skip
       ·obtain⟨Ak,ck,h1,h2⟩:=hR;exact⟨Ak,ck,h1,own_below h2 hT⟩
       ·obtain⟨Ak,ck,h1,h2⟩:=hR;exact⟨Ak,ck,h1,own_below h2 hT⟩
       ·obtain⟨g,Ak,ck,h1,h2,h3,h4⟩:=hR;exact⟨g,Ak,ck,h1,h2,(hT.block g (lt_block h3)).trans h3,own_below h4 hT⟩
       ·obtain⟨Ak,ck,h1,h2,h3,h4⟩:=hR;exact⟨Ak,ck,own_below h1 hT,own_below h2 hT,h3,(hT.block _ (lt_block h4)).trans h4⟩
       ·obtain⟨Ak,ck,v',h1,h2,h3,h4⟩:=hR;exact⟨Ak,ck,v',own_below h1 hT,own_below h2 hT,h3,(hT.block _ (lt_block h4)).trans h4⟩
    ·intro i o hio vals W hC haf hI0;have e4:=(hC.cell (o:=4) HRL.out.1 HRL.out.2).trans k48;rcases i with _|_|_|_|_|_|_|_|_|_|_|_|_|_|_|_|i
     all_goals first
      |(exfalso;simp at hio;done)
      |skip
     all_goals
      simp at hio;subst hio;simp[bindD,rdB,Region.binds]at haf
     all_goals first
      |(simp[opU,go_sem,haf,e4,Ext.refl];done)
      |skip
     ·have hI:=hI0 (fun k hk hk2=>by
       have h:k=12∨k=15:=by simpa using hk2
       rcases h with rfl|rfl
       ·exact .inr (by kernel_rfl)
       ·exact .inr (by kernel_rfl))
      have e1:=(cells2 hI.2).2.1;simp[opU,go_sem,haf,e1,Ext.refl]
     ·simp[opU,go_sem,haf];refine(CloneB Ad d cd W (cs_own (row_zonal HAD8.out hC HZ8.out zT_u8)).2 (by omega)).mono fun e W' h=> ?_;obtain⟨v,he,ho,hb⟩:=h;obtain⟨Ak,ck,rfl,_,_⟩:=Cs.of_own ho;exact⟨_,he,hb,Ak,ck,rfl,own_base ho hC.size⟩
     ·obtain⟨⟨Ak,ck,h1,h2⟩,h9⟩:=haf;simp[opU,go_sem,h1,h9,Ext.refl];exact⟨Ak,ck,⟨rfl,rfl⟩,h2⟩
     ·obtain⟨Ak,ck,h1,h2⟩:=haf;simp[opU,go_sem,h1,Ext.refl];exact⟨bAl,hC.size,Ak,ck,by simp only[World.alloc,Array.getElem_push_eq],own_below h2 bAl⟩
     ·obtain⟨h4,h5,g,h11,hg,Ak,ck,hgb,hgo⟩:=haf;have hI:=hI0 (fun k hk hk2=>by
       have h:k=12∨k=15:=by simpa using hk2
       rcases h with rfl|rfl
       ·exact .inl rfl
       ·exact .inr (by kernel_rfl))
      have hgh:W.heap[g]? =some (.cells #[.slice Ak d.length ck,.slice Ac c.length cc] 121 (0,0)):=by first|exact hgb|(rw[Array.getElem?_eq_some_iff];exact⟨_,hgb⟩)
      simp[opU,go_sem,h4,h5,h11];refine(InsertEnd B (.slice none 0 0) 0 ([]) g (.slice Ak d.length ck) (.slice Ac c.length cc) (0,0) W hI.1 (Nat.le_trans H8.out.size hC.size) hgh (fun e=>by have:=HLT.out g (.inr e.symm);omega) rfl rfl (by omega)).mono fun e W' h=> ?_;obtain⟨v',he,ho,hm⟩:=h
      refine⟨v',he,hm.kept,Ak,ck,Kept.row hgo hm.kept (fun k hk2 hs=>by have:=(hgo.lt k hk2).1;have:=HLT.out k (.inr hs);omega),ho,fun b hb=> ?_,(hm.kept.block s (lt_block hI.2) (fun e=>HNE.out s e rfl)).trans hI.2⟩;rcases hm.at_ b hb with e|e
      ·exact .inl e.symm
      ·exact .inr (Nat.le_trans hC.size e)
     ·obtain⟨h14,Ak,ck,h1,h2,h3,h4⟩:=haf;obtain⟨A',c',hv,_⟩:=own_form h2;rw[hv]at h2;obtain⟨_,e1,f1⟩:=cells2 h4;have f1:=f1 1;simp[opU,go_sem,h14,hv,e1,f1];have hkk:Kept (fun k=>k=s) W (W.setCell ⟨s,1,none⟩ (.slice A' 1 c')):=(Kept.refl (fun k=>k=s) W).setCell (fun _=>rfl) _
      refine⟨hkk,Ak,ck,Kept.row h1 hkk (fun k hk2 hs=>by have:=(h1.lt k hk2).1;subst hs;omega),.slice A' 1 c',Kept.row h2 hkk (fun k hk2 hs=>by rcases h3 k (hv▸hk2)with e|e;exact HNE.out k e hs;have:=HLT.out k (.inl hs);omega),fun b hb=>h3 b (hv▸hb), ?_⟩;have:=heap_set (i:=1) (v:=.slice A' 1 c') h4
      first|exact this|(simpa using this)
    ·intro vals W hC hR;have h15:=hR 15 (by show 15 < 16;omega) (fun i _=>by simp);obtain⟨Ak,ck,v',g1,g2,g4,g3⟩:=h15;obtain⟨Az,cz,hzb8,_⟩:=H8.out.zn.blk;have hzS:¬(z=s∨some z=(Value.slice none 0 0).ownBlock):=by
      rintro(e|e)
      ·exact ne_cells hzb8 H8.out.st.set (by decide) e
      ·obtain⟨cs,e1,_⟩:=row_block H8.out.st.row e.symm;exact ne_cells hzb8 e1 (by decide) rfl
     obtain⟨_,_,_,y3,yf⟩:=cells4 ((hC.block z (lt_block hzb8) hzS).trans hzb8);have yf:=yf 3;have hm:=H8.out.more hC (b1:=⟨Ak,d,ck⟩) (b2:=⟨Ac,c,cc⟩) g3 0 (Nat.le_refl _) g2 (own_base g1 H8.out.size) (own_base (row_zonal HO8.out hC HZ8.out zT_u8) HB.out) g4;have hnd:=H8.out.nd_more hm.kept;have HM:=hid hm;have HND:=hid hnd;clear hR hm hnd g1 g2 g3 g4;simp[relAct,dstAt,Act.put]
     generalize vals 0=w0x,vals 1=w1x;generalize vals 2=w2x,vals 3=w3x;generalize vals 4=w4x,vals 5=w5x;generalize vals 6=w6x,vals 7=w7x;generalize vals 8=w14x,vals 9=w9x;generalize vals 10=w10x,vals 11=w11x;generalize vals 12=w12x,vals 13=w13x;generalize vals 14=w14x,vals 15=w15x;go_wp2_with fail
     go_ret2
     exact⟨rfl,x,bs,s,v',⟨Ak,d,ck⟩,⟨Ac,c,cc⟩,_,rfl,rfl,by omega,HM.out.before (HT14.out.mono (fun k _ h=>.inr h)) (fun k hk e=>by rcases e with e|e|e;exact .inl e;omega;cases e),HND.out,hwss,hws⟩
structure NewS(w w':World)(B z bn bb x bs s:Nat)(ap n:List Lab)(t:Int)(c:Int)(D:DataW Unit)(f:Lab→Int)(N:Nat)(ttl:Int)(v2:Value)(d:Blob×Blob)(N2:Nat)(D2:DataW Unit):Prop where
 more:More w w' B z bn bb s ap c D f N ttl (.slice none 0 0) v2 [d] (fun k=>k=z∨k=bs)
 nd:NdG w' B x bs n N2 D2
 hs:w.heap.size≤s
theorem GPutSet(w:World)(B z bn bb:Nat)(ap n:List Lab)(t:Int)(cq:Int)(hcz0:0≤cq)(hcz:cq < 2000)(D:DataW Unit)(f:Lab→Int)(N:Nat)(h:Zn w B z bn bb ap cq D f N)(x bs N2:Nat)(D2:DataW Unit)(hnd:NdG w B x bs n N2 D2)(hbsn:bs≠bn∧bs≠bb)(hD:D.atKey (.string (zkey n)) .nil=ptrD (some x))(hD2:D2.atKey (.int .u16 t) .nil=ptrD none)(hN2:N2≤3000000000000)(An:Option Addr)(cn:Nat)(Ad:Option Addr)(d:Lab)(cd:Nat)(ttl2:Int)(hAn:Cs w An (n.map strV))(hAd:w.ownsRow 0 5 1 (.slice Ad d.length cd) d.length (d.map byteV))(c:Lab)(hr:RecG n ap t d c cn cd)(hap:Small ap):
 Calls prog 50 #[.pointer (some ⟨z,0,none⟩),.agg #[.slice An n.length cn,.int .u16 t,.int .u16 1,.int .u32 ttl2,.slice Ad d.length cd]] w fun e w'=>e=.returned (.tuple #[.bool true,.int .i64 0])∧∃s v2 b1 b2,b1.l=d∧b2.l=c∧NewS w w' B z bn bb x bs s ap n t (cq+1) D f N ttl2 v2 (b1,b2) (N2+1) (D2.put (.int .u16 t) (.lit (.int .i64 (s:Int)))):=by
 have hmm:= @run_makeMap prog;have hb1:Below w.heap.size w (w.alloc (.cells #[.slice An n.length cn,.int .u16 t,.int .u16 1,.int .u32 ttl2,.slice Ad d.length cd] 39)):=bAl;have hblk:=heap_alloc_new w (.cells #[.slice An n.length cn,.int .u16 t,.int .u16 1,.int .u32 ttl2,.slice Ad d.length cd] 39);obtain⟨k0,k1,k2,k3,k4,kf⟩:=cells5 hblk
 have hsz:(w.alloc (.cells #[.slice An n.length cn,.int .u16 t,.int .u16 1,.int .u32 ttl2,.slice Ad d.length cd] 39)).heap.size=w.heap.size+1:=by simp
 have hO:=h.ext hb1;obtain⟨An2,cn2,hxb0,hxn0⟩:=hnd.node;have hxl0:=lt_block hxb0;have hbl0:=hnd.sets.lt;have hxb1:=(hb1.block _ hxl0).trans hxb0;have hxn1:=own_below hxn0 hb1;have hst1:=hnd.sets.kept (row:=none) ⟨hb1.os,hb1.tape,hb1.output,hb1.size,fun k hk _=>hb1.block k hk⟩ (by simp);have hBbs:=hnd.h1;have hAn1:=hAn.below hb1;have hAd1:=own_below hAd hb1;go_enter func50,ntmps50
 go_wp2_with fail;generalize w.alloc (.cells #[.slice An n.length cn,.int .u16 t,.int .u16 1,.int .u32 ttl2,.slice Ad d.length cd] 39)=w1 at *;have hrl:w.heap.size < w1.heap.size:=by omega
 obtain⟨Aa,ca,hzb,hza⟩:=hO.blk;have hzl:=lt_block hzb;obtain⟨z0,z1,z2,z3,zf⟩:=cells4 hzb;have hcs_ap:=(cs_own hza).2;obtain⟨hr1,hr2,hr3,hr4,hr5,hr6,hr7,hr8,hr9,hr10,hr11⟩:=hr;have HCk:Hid (∀W,Below w1.heap.size w1 W→Calls prog 102 #[.slice An n.length cn] W fun e w'=>e=.returned (.int .i64 0)∧W=w'):=hid fun W hW=>by
  have:=Check An n cn W (hAn1.below hW) hr1.few;rw[hr2]at this;exact this
 have HWi:Hid (∀W,Below w1.heap.size w1 W→Calls prog 66 #[.slice An n.length cn,.slice Aa ap.length ca] W fun e w'=>Below W.heap.size W w'∧e=.returned (.bool true)):=hid fun W hW=>by
  have:=Within An Aa n ap cn ca W (hAn1.below hW) (hcs_ap.below hW) hr1.few hap.few hr8 hr9;rw[hr3]at this;exact this
 have HRc:Hid (∀W,Below w1.heap.size w1 W→Calls prog 81 #[.int .u16 t,.slice Ad d.length cd] W fun e w'=>Below W.heap.size W w'∧e=.returned (.int .i64 0)):=hid fun W hW=>hr4 Ad W ((cs_own hAd1).2.below hW)
 have HCa:Hid (∀W,Below w1.heap.size w1 W→Calls prog 103 #[.int .u16 t,.slice Ad d.length cd] W fun e w'=>Below W.heap.size W w'∧∃v,e=.returned v∧w'.ownsRow W.heap.size 5 1 v c.length (c.map byteV)):=hid fun W hW=>
  hr6 Ad W ((cs_own hAd1).2.below hW)
 have hxl1:=lt_block hxb1;obtain⟨_,hxc1,_⟩:=cells2 hxb1;have HAt:Hid (∀W,Below w1.heap.size w1 W→Calls prog 62 #[.pointer (some ⟨z,0,none⟩),.slice An n.length cn,.int .u16 t] W fun e w'=>e=.returned (.pointer none)∧Below W.heap.size W w'):=hid fun W hW=>by
  have hOW:=hO.ext hW;exact ZAt z bn An n cn t N N2 D D2 (some x) none W ((bcl (o:=1) hW hzl).trans z1) (Nat.lt_of_lt_of_le hzl hW.size) hOW.nodes (hAn1.below hW) hr1 hr5 hD (fun x' hx'=>by
   cases hx';exact⟨Nat.lt_of_lt_of_le hxl1 hW.size,bs,(bcl (o:=1) hW hxl1).trans hxc1,hst1.kept (row:=none) ⟨hW.os,hW.tape,hW.output,hW.size,fun k hk _=>hW.block k hk⟩ (by simp),hD2⟩)
 have HX1:=hid hxb1;have HXN1:=hid hxn1;have HST1:=hid hst1;have HK:Hid (∀W,Below w1.heap.size w1 W→Calls prog 68 #[.slice An n.length cn] W fun e w'=>e=.returned (strV (zkey n))∧Below W.heap.size W w'):=hid fun W hW=>ZKey An n cn W (hAn1.below hW) hr1;have hnl:=hr1.1;have HR:Hid (RecG n ap t d c cn cd):=hid ⟨hr1,hr2,hr3,hr4,hr5,hr6,hr7,hr8,hr9,hr10,hr11⟩
 have HAn:=hid hAn1;have HAd:=hid hAd1;have HO:=hid hO;have HB:Hid (B≤w1.heap.size):=hid (Nat.le_trans hO.h1 (Nat.le_of_lt hzl));have HTu:Hid (Kept (fun k=>k=bs) w w1):=hid ((Kept.of_ext hb1).mono (fun _ _ h=>h.elim));have HIM:=hid h.nodes.isMap;have HAdo:=hid hAd1;clear h hnd hxb0 hxn0 hxb1 hxn1 hst1 hAn hAd hAn1 hAd1 hza hcs_ap hr1 hr2 hr3 hr4 hr5 hr6 hap
 refine wp_region_mono mixed0 (by kernel_rfl) [.is (.pointer (some ⟨w.heap.size,0,none⟩)),.is (.slice An n.length cn),.is (.int .i64 0),.is (.bool false),.is (.bool false),.is (.pointer (some ⟨w.heap.size,0,none⟩)),.is (.slice An n.length cn),.is (.pointer (some ⟨z,0,none⟩)),.is (.pointer (some ⟨z,0,none⟩)),.is (.pointer (some ⟨z,0,none⟩)),.is (.slice Aa ap.length ca),.is (.bool true),.is (.bool false),.is (.bool false),.is (.bool false)] rfl ?_ ?_
 ·intro i q hio vals W hE haf;have e0:=(bcl (o:=0) hE hrl).trans k0;have y0:=(bcl (o:=0) hE hzl).trans z0;rcases i with _|_|_|_|_|_|_|_|_|_|_|_|_|_|_|i
  all_goals first
   |(exfalso;simp at hio;done)
   |(simp at hio;subst hio;simp[bindD,rdB,Region.binds,factAt]at haf;simp[opU,go_sem,haf,e0,y0,Ext.refl,factAt];done)
   |skip
  all_goals
   simp at hio;subst hio;simp[bindD,rdB,Region.binds,factAt]at haf
  ·simp[opU,go_sem,haf,factAt];refine(HCk.out W hE).mono fun e W' h=> ?_;obtain⟨h1,h2⟩:=h;subst h2;exact⟨h1,Below.refl _ _⟩
  ·simp[opU,go_sem,haf,factAt];refine(HWi.out W hE).mono fun e W' h=> ?_;exact⟨h.2,h.1⟩
 ·intro vals W hE hF;simp only[facts]at hF;obtain⟨_,_,_,_,_,_,_,_,_,_,_,_,_,_,h14,_⟩:=hF;have e14:vals 14=.bool false:=h14;simp[relAct,dstAt,Act.put];rw[e14];clear e14 h14;generalize vals 0=j0,vals 1=j1;generalize vals 2=j2,vals 3=j3;generalize vals 4=j4,vals 5=j5;generalize vals 6=j6,vals 7=j7;generalize vals 8=j8,vals 9=j9
  generalize vals 10=j10,vals 11=j11;generalize vals 12=j12,vals 13=j13;have hE:Below w1.heap.size w1 W:=hE;have e1:=(bcl (o:=1) hE hrl).trans k1;have e2:=(bcl (o:=2) hE hrl).trans k2;have e4:=(bcl (o:=4) hE hrl).trans k4;go_wp2_with fail;refine(HRc.out W hE).mono ?_;rintro e w2 ⟨hb2,rfl⟩;have hE2:=hE.trans (hb2.mono hE.size);clear e1 e2 e4 hb2 hE
  have e1:=(bcl (o:=1) hE2 hrl).trans k1;have e4:=(bcl (o:=4) hE2 hrl).trans k4;go_wp2_with fail;refine(HCa.out w2 hE2).mono ?_;rintro e w3 ⟨hb3,vc,rfl,hown3⟩;have hE3:=hE2.trans (hb3.mono hE2.size);have ho3:=own_base hown3 hE2.size;obtain⟨Ac,cc,rfl,_,hcc⟩:=Cs.of_own hown3;clear e1 e4 hb3 hE2 hown3 w2;have e0:=(bcl (o:=0) hE3 hrl).trans k0;have e1:=(bcl (o:=1) hE3 hrl).trans k1
  go_wp2_with fail;refine(HAt.out w3 hE3).mono ?_;rintro e w4 ⟨rfl,hb4⟩;have hE4:=hE3.trans (hb4.mono hE3.size);have ho4:=own_below ho3 hb4;have hc4:=hcc.below hb4;clear e0 e1 hb4 hE3 ho3 hcc w3;have w5d:True:=trivial;have hE5:=hE4;have ho5:=ho4;go_wp2_with fail
  refine wp_region_mono mixed0 (by kernel_rfl) [.is (.bool false),.is (.bool false),.is undef,.is undef,.is undef,.is undef,.is undef,.is undef,.is undef,.is (.bool false),.is (.bool false)] rfl ?_ ?_
  ·intro i q hio vals W hE haf;rcases i with _|_|_|_|_|_|_|_|_|_|_|i
   all_goals first
    |(exfalso;simp at hio;done)
    |(simp at hio;subst hio;simp[bindD,rdB,Region.binds,factAt]at haf;simp[opU,go_sem,haf,Ext.refl,factAt];done)
    |skip
  ·intro vals W hE hF;simp only[facts]at hF;obtain⟨_,_,_,_,_,_,_,_,_,_,h10,_⟩:=hF;have e10:vals 10=.bool false:=h10;simp[relAct,dstAt,Act.put];rw[e10];clear e10 h10;generalize vals 0=g0,vals 1=g1;generalize vals 2=g2,vals 3=g3;generalize vals 4=g4,vals 5=g5;generalize vals 6=g6,vals 7=g7;generalize vals 8=g8,vals 9=g9
   have hE6:=hE5.trans (hE.mono hE5.size);have ho6:=own_below ho5 hE;have y3:=(bcl (o:=3) hE6 hzl).trans z3;have e0:=(bcl (o:=0) hE6 hrl).trans k0;go_wp2_with fail;refine(HK.out W hE6).mono ?_;rintro e w7 ⟨rfl,hb7⟩;have hE7:=hE6.trans (hb7.mono hE6.size);have ho7:=own_below ho6 hb7;have hO7:=HO.out.ext hE7;have y1:=(bcl (o:=1) hE7 hzl).trans z1;have e0:=(bcl (o:=0) hE7 hrl).trans k0
   have l7:(Instr.lookup 100 (.map (some bn)) (strV (zkey n)) false).run prog w7=.ok (.pointer (some ⟨x,0,none⟩)) w7:=look_ptr hO7.nodes keyS underlying100 rfl (keyOf_str _ (zkey_len HR.out.small)) (o:=some x) hD;go_wp2_with fail;have hx11:=(hE7.block _ hxl1).trans HX1.out;have hal11:=own_below HXN1.out hE7;have hrb11:=(hE7.block _ hrl).trans hblk;have had11:=own_below HAdo.out hE7
   have hoc11:=ho7;have hbm11:=HST1.out.kept (row:=none) ⟨hE7.os,hE7.tape,hE7.output,hE7.size,fun k hk _=>hE7.block k hk⟩ (by simp);have hT11:Kept (fun k=>k=bs) w w7:=HTu.out.trans ((Kept.of_ext hE7).mono (fun _ _ h=>h.elim));have hO11:=hO7;have hs11':=hT11.size;clear hE7 hE6 hE5 hE4 hb7 ho7 ho6 ho5 ho4 hO7 w5d k0 k1 k2 k3 k4 kf z0 z1 z2 z3 zf y1 hblk hb1 hE l7 e0 y3 HX1 HXN1 HST1
   generalize w7=w11 at *;have hb12:Below w11.heap.size w11 (w11.alloc (.cells #[.int .u32 0,.slice none 0 0] 119)):=bAl;have hs12:=heap_alloc_new w11 (.cells #[.int .u32 0,.slice none 0 0] 119);have hBw11:B≤w11.heap.size:=Nat.le_trans hO11.h2 (Nat.le_of_lt hO11.nodes.lt);generalize w11.alloc (.cells #[.int .u32 0,.slice none 0 0] 119)=w12 at *
   have hO12:=hO11.ext hb12;have hx12:=(hb12.block _ (lt_block hx11)).trans hx11;have hal12:=own_below hal11 hb12;have hrb12:=(hb12.block _ (lt_block hrb11)).trans hrb11;have had12:=own_below had11 hb12;have hoc12:=own_below hoc11 hb12;have hbm12:=hbm11.kept (row:=none) ⟨hb12.os,hb12.tape,hb12.output,hb12.size,fun k hk _=>hb12.block k hk⟩ (by simp)
   have hT12:=hT11.trans ((Kept.of_ext hb12).mono (fun _ _ h=>h.elim));have hwss:w.heap.size≤w11.heap.size:=hT11.size;obtain⟨s,hs⟩:∃s,w11.heap.size=s:=⟨_,rfl⟩
   rw[hs]at hs12 hBw11 hwss;rw[hs];have HO12:=hid hO12;have HX12:=hid hx12;have HAL12:=hid hal12;have HRB12:=hid hrb12;have HAD12:=hid had12;have HOC12:=hid hoc12;have HBM12:=hid hbm12;have HT12:=hid hT12;have HS12:=hid hs12;have hku:=keyOf_u16 t HR.out.wf;have HBN:=hid hbsn
   clear hO12 hx12 hal12 hrb12 had12 hoc12 hbm12 hT12 hs12 hO11 hx11 hal11 hrb11 had11 hoc11 hbm11 hT11 hb12 hs hs11';refine wp_region_dep mixed0 (by kernel_rfl) (fun i j=>false) (by kernel_rfl)
    (fun i W W'=>if i=7 then Kept (fun k=>k=bs) W W' else Ext W W')
    (fun W=>Kept (fun k=>k=bs) w12 W)
    (fun i vals W=>match i with
      |0=>vals 0=.pointer (some ⟨x,0,none⟩)
      |1=>vals 1=.pointer (some ⟨x,0,none⟩)
      |2=>vals 2=.pointer (some ⟨x,1,none⟩)
      |3=>vals 3=.map (some bs)
      |4=>vals 4=.pointer (some ⟨w.heap.size,1,none⟩)
      |5=>vals 5=.int .u16 t
      |6=>vals 6=.pointer (some ⟨s,0,none⟩)
      |7=>W.ownsMap prog 36 ptrR bs (N2+1) (D2.put (.int .u16 t) (.lit (.int .i64 (s:Int))))
      |_=>True) ?_ (fun W=>W.ownsMap prog 36 ptrR bs N2 D2) (fun i=>i==7) HBM12.out.drew ?_ ?_ ?_ ?_ ?_ ?_
   ·intro j vals i v W hij hw hR;rcases j with _|_|_|_|_|_|_|_|j
    all_goals first
     |exact trivial
     |exact hR
     |(simpa[hij,Ne.symm hij]using hR)
   ·intro i W W' hk hC hI hT;by_cases h7:i=7
    ·subst h7;cases hk
    ·simp only[h7,if_false]at hT;exact hI.kept (row:=none) ⟨hT.os,hT.tape,hT.output,hT.size,fun k hk _=>hT.block k hk⟩ (by simp)
   ·exact(Kept.refl _ w12).drew
   ·intro i W W' hC hT;by_cases h7:i=7
    ·simp only[h7,if_true]at hT;exact hC.trans hT
    ·simp only[h7,if_false]at hT;exact hC.trans (Kept.mono (Kept.of_ext hT) (fun _ _ h=>h.elim))
   ·intro i j vals W W' hij hk hw hC hR hT;rcases j with _|_|_|_|_|_|_|_|j
    all_goals first
     |exact trivial
     |exact hR
     |skip
    have h7:¬i=7:=hij;simp only[h7,if_false]at hT;exact World.ownsMap.kept hR (row:=none) ⟨hT.os,hT.tape,hT.output,hT.size,fun k hk _=>hT.block k hk⟩ (by simp)
   ·intro i o hio vals W hC haf hI0;have hxW:=cells_zonal HX12.out hC (Zonal.map HBM12.out) zT_node;have hrW:=cells_zonal HRB12.out hC (Zonal.map HBM12.out) zT_rec;obtain⟨_,x1,_⟩:=cells2 hxW;obtain⟨_,k1,_⟩:=cells5 hrW;rcases i with _|_|_|_|_|_|_|_|i
    all_goals first
     |(exfalso;simp at hio;done)
     |skip
    all_goals
     simp at hio;subst hio;simp[bindD,rdB,Region.binds]at haf
    all_goals first
     |(simp[opU,go_sem,haf,x1,k1,Ext.refl];done)
     |skip
    have hI:=hI0 (fun k hk hk2=>.inl (by simpa using hk2));obtain⟨W',hrun,hm',hg'⟩:=hI.update keyT underlying110 (by unfold maxLen;omega) hku (ptrR_at s);simp[opU,go_sem,haf,hrun];exact⟨(Kept.of_grown hg').mono (fun k _ h=>by cases h;rfl),hm'⟩
   ·intro vals W hC hR;have h7:=hR 7 (by show 7 < 8;omega) (fun i _=>rfl);have hm13:W.ownsMap prog 36 ptrR bs (N2+1) (D2.put (.int .u16 t) (.lit (.int .i64 (s:Int)))):=h7;have hZb:Zonal (fun k=>k=bs) w12:=Zonal.map HBM12.out;obtain⟨Az,cz,hzb12,_⟩:=HO12.out.blk;have hO13:=HO12.out.kept hC hZb (Ne.symm (ne_map HBM12.out hzb12)) (by have:=HBN.out;omega) (by have:=HBN.out;omega)
    have hx13:=cells_zonal HX12.out hC hZb zT_node;have hal13:=row_zonal HAL12.out hC hZb zT_str;have hrb13:=cells_zonal HRB12.out hC hZb zT_rec;have had13:=row_zonal HAD12.out hC hZb zT_u8;have hoc13:=row_zonal HOC12.out hC hZb zT_u8;have hs13:=(hC.block s (lt_block HS12.out) (Ne.symm (ne_map HBM12.out HS12.out))).trans HS12.out;have hT13:Kept (fun k=>k=bs) w W:=HT12.out.trans hC
    have hkp:Kept (fun k=>k=s) W (W.setCell ⟨s,0,none⟩ (.int .u32 ttl2)):=(Kept.refl (fun k=>k=s) W).setCell (fun _=>rfl) _;have hZs:Zonal (fun k=>k=s) W:=Zonal.cells hs13 (.inr (.inl rfl));obtain⟨Az3,cz3,hzb13,_⟩:=hO13.blk;obtain⟨E13,hE13,_⟩:=hO13.below;have hset:=heap_set (i:=0) (v:=.int .u32 ttl2) hs13
    have H8:Hid (Foc (W.setCell ⟨s,0,none⟩ (.int .u32 ttl2)) B z bn bb x bs s ap n t ttl2 (.slice none 0 0) [] cq D (D2.put (.int .u16 t) (.lit (.int .i64 (s:Int)))) f N (N2+1)):=hid
     ⟨hO13.kept hkp hZs (ne_cells hzb13 hs13 (by decide)) (ne_map hO13.nodes hs13) (ne_map hE13 hs13),
      ⟨⟨An2,cn2,cells_zonal hx13 hkp hZs zT_node,row_zonal hal13 hkp hZs zT_str⟩,(ownsMap_block hm13 (hkp.block _ hm13.lt (ne_map hm13 hs13))).mono (by omega),hset,World.ownsRow_nil _ _ _ _,fun d hd=>by(cases hd),hBbs,hBw11⟩,HBN.out.1,HBN.out.2,hD,Maps.atKey_put_same HBM12.out.isMap (key_int _ _) _ _⟩
    have HO8:=hid (row_zonal hoc13 hkp hZs zT_u8);have HAD8:=hid (row_zonal had13 hkp hZs zT_u8);have HRB8:=hid (cells_zonal hrb13 hkp hZs zT_rec);have HT14:=hid (hT13.then hkp (fun k hk e=>by omega));obtain⟨_,_,_,k3,_⟩:=cells5 hrb13;obtain⟨q0,_,qf⟩:=cells2 hs13;have qf:=qf 0;clear hR h7 hm13 hZb hO13 hx13 hal13 hrb13 had13 hoc13 hT13 hkp hZs hzb13 hE13 hset hs13 hzb12
    simp[relAct,dstAt,Act.put];generalize vals 0=p0x,vals 1=p1x;generalize vals 2=p2x,vals 3=p3x;generalize vals 4=p4x,vals 5=p5x;generalize vals 6=p6x,vals 7=p7x;go_wp2_with fail;generalize W.setCell ⟨s,0,none⟩ (.int .u32 ttl2)=w14 at *;obtain⟨k08,k18,k28,k38,k48,_⟩:=cells5 HRB8.out;have hsl8:=lt_block H8.out.st.set
    have HLT:Hid (∀k,k=s∨some k=(Value.slice none 0 0).ownBlock→k < w14.heap.size):=hid (by
     rintro k (e|e)
     ·rw[e];exact hsl8
     ·cases e)
    have HNE:Hid (∀b,some b=(Value.slice none 0 0).ownBlock→b≠s):=hid fun b e=>by cases e
    have HZ8:Hid (Zonal (fun k=>k=s∨some k=(Value.slice none 0 0).ownBlock) w14):=hid (by
     intro k hk2;rcases hk2 with e|e
     ·exact Zonal.cells H8.out.st.set (.inr (.inl rfl)) k e
     ·cases e)
    have HRL:Hid (w.heap.size < w14.heap.size∧¬(w.heap.size=s∨some w.heap.size=(Value.slice none 0 0).ownBlock)):=hid ⟨lt_block HRB8.out,by
     rintro(e|e)
     ·exact ne_cells HRB8.out H8.out.st.set (by decide) e
     ·cases e⟩
    refine wp_region_dep mixed0 (by kernel_rfl) (fun i j=>i==15&&j==12) (by kernel_rfl)
     (fun i W W'=>if i=12 then Kept (fun k=>some k=(Value.slice none 0 0).ownBlock) W W' else if i=15 then Kept (fun k=>k=s) W W' else Ext W W')
     (fun W=>Kept (fun k=>k=s∨some k=(Value.slice none 0 0).ownBlock) w14 W)
     (fun i vals W=>match i with
       |0=>vals 0=.pointer (some ⟨s,0,none⟩)
       |1=>vals 1=.pointer (some ⟨s,0,none⟩)
       |2=>vals 2=.pointer (some ⟨s,0,none⟩)
       |3=>vals 3=.pointer (some ⟨s,1,none⟩)
       |4=>vals 4=.slice none 0 0
       |5=>vals 5=.int .i64 0
       |6=>vals 6=.pointer (some ⟨w.heap.size,4,none⟩)
       |7=>vals 7=.slice Ad d.length cd
       |8=>∃Ak ck,vals 8=.slice Ak d.length ck∧W.ownsRow w14.heap.size 5 1 (.slice Ak d.length ck) d.length (d.map byteV)
       |9=>vals 9=.slice Ac c.length cc
       |10=>∃Ak ck,vals 10=.agg #[.slice Ak d.length ck,.slice Ac c.length cc]∧W.ownsRow w14.heap.size 5 1 (.slice Ak d.length ck) d.length (d.map byteV)
       |11=>∃g Ak ck,vals 11=.slice (some ⟨g,0,none⟩) 1 1∧w14.heap.size≤g∧W.heap[g]? =some (.cells #[.slice Ak d.length ck,.slice Ac c.length cc] 121 (0,0))∧W.ownsRow w14.heap.size 5 1 (.slice Ak d.length ck) d.length (d.map byteV)
       |12=>∃Ak ck,W.ownsRow w14.heap.size 5 1 (.slice Ak d.length ck) d.length (d.map byteV)∧W.ownsRow B 121 2 (vals 12) 1 ([.slice Ak d.length ck,.slice Ac c.length cc])∧(∀b,(vals 12).ownBlock=some b→some b=(Value.slice none 0 0).ownBlock∨w14.heap.size≤b)∧W.heap[s]? =some (.cells #[.int .u32 ttl2,.slice none 0 0] 119 (0,0))
       |13=>vals 13=.pointer (some ⟨s,0,none⟩)
       |14=>vals 14=.pointer (some ⟨s,1,none⟩)
       |15=>∃Ak ck v',W.ownsRow w14.heap.size 5 1 (.slice Ak d.length ck) d.length (d.map byteV)∧W.ownsRow B 121 2 v' 1 ([.slice Ak d.length ck,.slice Ac c.length cc])∧(∀b,v'.ownBlock=some b→some b=(Value.slice none 0 0).ownBlock∨w14.heap.size≤b)∧W.heap[s]? =some (.cells #[.int .u32 ttl2,v'] 119 (0,0))
       |_=>True) ?_ (fun W=>W.ownsRow B 121 2 (.slice none 0 0) 0 ([])∧W.heap[s]? =some (.cells #[.int .u32 ttl2,.slice none 0 0] 119 (0,0))) (fun i=>i==12||i==15) ⟨H8.out.st.row,H8.out.st.set⟩ ?_ ?_ ?_ ?_ ?_ ?_
    ·intro j vals i v W hij hw hR;have hwv:∀a b,waitsB _ a b=true→j=a→i=b→False:=fun a b hab ha hb=>by
      subst ha hb;rw[hab]at hw;cases hw
     rcases j with _|_|_|_|_|_|_|_|_|_|_|_|_|_|_|_|j
     all_goals first
      |exact trivial
      |exact hR
      |(simpa[hij,Ne.symm hij]using hR)
    ·intro i W W' hk hC hI hT;by_cases h12:i=12
     ·subst h12;cases hk
     ·by_cases h15:i=15
      ·subst h15;cases hk
      ·simp only[h12,h15,if_false]at hT;exact⟨own_below hI.1 hT,(hT.block _ (lt_block hI.2)).trans hI.2⟩
    ·exact(Kept.refl _ w14).drew
    ·intro i W W' hC hT;by_cases h12:i=12
     ·simp only[h12,if_true]at hT;exact hC.trans (hT.mono (fun k _ h=>.inr h))
     ·by_cases h15:i=15
      ·simp only[h15]at hT;exact hC.trans (Kept.mono hT (fun k _ h=>.inl h))
      ·simp only[h12,h15,if_false]at hT;exact hC.trans (Kept.mono (Kept.of_ext hT) (fun _ _ h=>h.elim))
    ·intro i j vals W W' hij hk hw hC hR hT;have hnew:∀{S:Nat→Prop} {e:TypeId} {size:Nat} {u:Value} {m:Nat} {xs:List Value},Kept S W W'→(∀k,S k→k < w14.heap.size)→W.ownsRow w14.heap.size e size u m xs→W'.ownsRow w14.heap.size e size u m xs:=fun hKk hS hr=>Kept.row hr hKk (fun k hk2 hs=>by have:=(hr.lt k hk2).1;have:=hS k hs;omega);by_cases h12:i=12
     ·simp only[h12,if_true]at hT;have hS:∀k,some k=(Value.slice none 0 0).ownBlock→k < w14.heap.size:=fun k e=>HLT.out k (.inr e);subst h12;rcases j with _|_|_|_|_|_|_|_|_|_|_|_|_|_|_|_|j
      all_goals first
       |exact trivial
       |exact hR
       |(exfalso;exact hij rfl)
       |(exfalso;revert hw;decide)
       |skip
      ·obtain⟨Ak,ck,h1,h2⟩:=hR;exact⟨Ak,ck,h1,hnew hT hS h2⟩
      ·obtain⟨Ak,ck,h1,h2⟩:=hR;exact⟨Ak,ck,h1,hnew hT hS h2⟩
      ·obtain⟨g,Ak,ck,h1,h2,h3,h4⟩:=hR;exact⟨g,Ak,ck,h1,h2,(hT.block g (lt_block h3) (fun e=>by have:=hS g e;omega)).trans h3,hnew hT hS h4⟩
      ·exfalso;generalize hb:waitsB _ _ _=b at hw;have:b=true:=by rw[←hb];kernel_rfl
       rw[this]at hw;cases hw
     ·by_cases h15:i=15
      ·simp only[h15]at hT;have hT:Kept (fun k=>k=s) W W':=hT;have hS:∀k,k=s→k < w14.heap.size:=fun k e=>HLT.out k (.inl e);subst h15;rcases j with _|_|_|_|_|_|_|_|_|_|_|_|_|_|_|_|j
       all_goals first
        |exact trivial
        |exact hR
        |(exfalso;exact hij rfl)
        |(cases hk;done)
        |skip
       ·obtain⟨Ak,ck,h1,h2⟩:=hR;exact⟨Ak,ck,h1,hnew hT hS h2⟩
       ·obtain⟨Ak,ck,h1,h2⟩:=hR;exact⟨Ak,ck,h1,hnew hT hS h2⟩
       ·obtain⟨g,Ak,ck,h1,h2,h3,h4⟩:=hR;exact⟨g,Ak,ck,h1,h2,(hT.block g (lt_block h3) (fun e=>by have:=hS g e;omega)).trans h3,hnew hT hS h4⟩
      ·simp only[h12,h15,if_false]at hT;rcases j with _|_|_|_|_|_|_|_|_|_|_|_|_|_|_|_|j
       all_goals first
        |exact trivial
        |exact hR
        |skip
       ·obtain⟨Ak,ck,h1,h2⟩:=hR;exact⟨Ak,ck,h1,own_below h2 hT⟩
       ·obtain⟨Ak,ck,h1,h2⟩:=hR;exact⟨Ak,ck,h1,own_below h2 hT⟩
       ·obtain⟨g,Ak,ck,h1,h2,h3,h4⟩:=hR;exact⟨g,Ak,ck,h1,h2,(hT.block g (lt_block h3)).trans h3,own_below h4 hT⟩
       ·obtain⟨Ak,ck,h1,h2,h3,h4⟩:=hR;exact⟨Ak,ck,own_below h1 hT,own_below h2 hT,h3,(hT.block _ (lt_block h4)).trans h4⟩
       ·obtain⟨Ak,ck,v',h1,h2,h3,h4⟩:=hR;exact⟨Ak,ck,v',own_below h1 hT,own_below h2 hT,h3,(hT.block _ (lt_block h4)).trans h4⟩
    ·intro i o hio vals W hC haf hI0;have e4:=(hC.cell (o:=4) HRL.out.1 HRL.out.2).trans k48;rcases i with _|_|_|_|_|_|_|_|_|_|_|_|_|_|_|_|i
     all_goals first
      |(exfalso;simp at hio;done)
      |skip
     all_goals
      simp at hio;subst hio;simp[bindD,rdB,Region.binds]at haf
     all_goals first
      |(simp[opU,go_sem,haf,e4,Ext.refl];done)
      |skip
     ·have hI:=hI0 (fun k hk hk2=>by
       have h:k=12∨k=15:=by simpa using hk2
       rcases h with rfl|rfl
       ·exact .inr (by kernel_rfl)
       ·exact .inr (by kernel_rfl))
      have e1:=(cells2 hI.2).2.1;simp[opU,go_sem,haf,e1,Ext.refl]
     ·simp[opU,go_sem,haf];refine(CloneB Ad d cd W (cs_own (row_zonal HAD8.out hC HZ8.out zT_u8)).2 (by omega)).mono fun e W' h=> ?_;obtain⟨v,he,ho,hb⟩:=h;obtain⟨Ak,ck,rfl,_,_⟩:=Cs.of_own ho;exact⟨_,he,hb,Ak,ck,rfl,own_base ho hC.size⟩
     ·obtain⟨⟨Ak,ck,h1,h2⟩,h9⟩:=haf;simp[opU,go_sem,h1,h9,Ext.refl];exact⟨Ak,ck,⟨rfl,rfl⟩,h2⟩
     ·obtain⟨Ak,ck,h1,h2⟩:=haf;simp[opU,go_sem,h1,Ext.refl];exact⟨bAl,hC.size,Ak,ck,by simp only[World.alloc,Array.getElem_push_eq],own_below h2 bAl⟩
     ·obtain⟨h4,h5,g,h11,hg,Ak,ck,hgb,hgo⟩:=haf;have hI:=hI0 (fun k hk hk2=>by
       have h:k=12∨k=15:=by simpa using hk2
       rcases h with rfl|rfl
       ·exact .inl rfl
       ·exact .inr (by kernel_rfl))
      have hgh:W.heap[g]? =some (.cells #[.slice Ak d.length ck,.slice Ac c.length cc] 121 (0,0)):=by first|exact hgb|(rw[Array.getElem?_eq_some_iff];exact⟨_,hgb⟩)
      simp[opU,go_sem,h4,h5,h11];refine(InsertEnd B (.slice none 0 0) 0 ([]) g (.slice Ak d.length ck) (.slice Ac c.length cc) (0,0) W hI.1 (Nat.le_trans H8.out.size hC.size) hgh (fun e=>by have:=HLT.out g (.inr e.symm);omega) rfl rfl (by omega)).mono fun e W' h=> ?_;obtain⟨v',he,ho,hm⟩:=h
      refine⟨v',he,hm.kept,Ak,ck,Kept.row hgo hm.kept (fun k hk2 hs=>by have:=(hgo.lt k hk2).1;have:=HLT.out k (.inr hs);omega),ho,fun b hb=> ?_,(hm.kept.block s (lt_block hI.2) (fun e=>HNE.out s e rfl)).trans hI.2⟩;rcases hm.at_ b hb with e|e
      ·exact .inl e.symm
      ·exact .inr (Nat.le_trans hC.size e)
     ·obtain⟨h14,Ak,ck,h1,h2,h3,h4⟩:=haf;obtain⟨A',c',hv,_⟩:=own_form h2;rw[hv]at h2;obtain⟨_,e1,f1⟩:=cells2 h4;have f1:=f1 1;simp[opU,go_sem,h14,hv,e1,f1];have hkk:Kept (fun k=>k=s) W (W.setCell ⟨s,1,none⟩ (.slice A' 1 c')):=(Kept.refl (fun k=>k=s) W).setCell (fun _=>rfl) _
      refine⟨hkk,Ak,ck,Kept.row h1 hkk (fun k hk2 hs=>by have:=(h1.lt k hk2).1;subst hs;omega),.slice A' 1 c',Kept.row h2 hkk (fun k hk2 hs=>by rcases h3 k (hv▸hk2)with e|e;exact HNE.out k e hs;have:=HLT.out k (.inl hs);omega),fun b hb=>h3 b (hv▸hb), ?_⟩;have:=heap_set (i:=1) (v:=.slice A' 1 c') h4
      first|exact this|(simpa using this)
    ·intro vals W hC hR;have h15:=hR 15 (by show 15 < 16;omega) (fun i _=>by simp);obtain⟨Ak,ck,v',g1,g2,g4,g3⟩:=h15;obtain⟨Az,cz,hzb8,_⟩:=H8.out.zn.blk;have hzS:¬(z=s∨some z=(Value.slice none 0 0).ownBlock):=by
      rintro(e|e)
      ·exact ne_cells hzb8 H8.out.st.set (by decide) e
      ·obtain⟨cs,e1,_⟩:=row_block H8.out.st.row e.symm;exact ne_cells hzb8 e1 (by decide) rfl
     obtain⟨_,_,_,y3,yf⟩:=cells4 ((hC.block z (lt_block hzb8) hzS).trans hzb8);have yf:=yf 3;have hm:=H8.out.more hC (b1:=⟨Ak,d,ck⟩) (b2:=⟨Ac,c,cc⟩) g3 0 (Nat.le_refl _) g2 (own_base g1 H8.out.size) (own_base (row_zonal HO8.out hC HZ8.out zT_u8) HB.out) g4;have hnd:=H8.out.nd_more hm.kept;have HM:=hid hm;have HND:=hid hnd;clear hR hm hnd g1 g2 g3 g4;simp[relAct,dstAt,Act.put]
     generalize vals 0=w0x,vals 1=w1x;generalize vals 2=w2x,vals 3=w3x;generalize vals 4=w4x,vals 5=w5x;generalize vals 6=w6x,vals 7=w7x;generalize vals 8=w14x,vals 9=w9x;generalize vals 10=w10x,vals 11=w11x;generalize vals 12=w12x,vals 13=w13x;generalize vals 14=w14x,vals 15=w15x;go_wp2_with fail
     go_ret2
     exact⟨rfl,s,v',⟨Ak,d,ck⟩,⟨Ac,c,cc⟩,rfl,rfl,HM.out.before (HT14.out.mono (fun k _ h=>.inr h)) (fun k hk e=>by rcases e with e|e|e;exact .inl e;omega;cases e),HND.out,hwss⟩
structure Nq where
 n:List Lab
 x:Nat
 bs:Nat
structure Sq where
 n:List Lab
 t:Int
 ttl:Int
 s:Nat
 v:Value
 ds:List (Blob×Blob)
def Nq.ent(p:Nq):Lit×DataW Unit:=(.string (zkey p.n),.lit (.int .i64 (p.x:Int)))
def Sq.ent(q:Sq):Lit×DataW Unit:=(.int .u16 q.t,.lit (.int .i64 (q.s:Int)))
def setsOf(Q:List Sq)(n:List Lab):List Sq:=Q.filter fun q=>decide (q.n=n)
def total(Q:List Sq):Nat:=(Q.map fun q=>q.ds.length).sum
def cntP(ap:List Lab)(P:List Nq):Lab→Int:=fun m=>(P.map fun p=>occ p.n (p.n.length - ap.length+1) m).sum
def zblk(z bn bb:Nat)(P:List Nq)(Q:List Sq)(k:Nat):Prop:=k=z∨k=bn∨k=bb∨(∃p∈P,k=p.bs)∨∃q∈Q,k=q.s∨some k=q.v.ownBlock
def SortD(ds:List (Blob×Blob)):Prop:=ds.Pairwise fun a b=>Lib.compareBytes a.2.l b.2.l < 0
structure SdG(w:World)(B s:Nat)(ttl:Int)(v:Value)(ds:List (Blob×Blob)):Prop where
 set:w.heap[s]? =some (.cells #[.int .u32 ttl,v] 119 (0,0))
 row:w.ownsRow B 121 2 v ds.length (datC ds)
 dat:DatOwn w B ds
 h2:B≤s
structure InZ(ap n:List Lab):Prop where
 low:lower n=n
 small:Small n
 ok:nameE n=0
 inn:within n ap=true
structure Wf(ap:List Lab)(P:List Nq)(Q:List Sq):Prop where
 ok:∀p∈P,InZ ap p.n
 kP:(P.map (·.n)).Nodup
 kQ:(Q.map fun q=>(q.n,q.t)).Nodup
 wt:∀q∈Q,(Lit.int .u16 q.t).wf=true
 own:∀q∈Q,∃p∈P,p.n=q.n
 has:∀p∈P,∃q∈Q,q.n=p.n
 full:∀q∈Q,q.ds≠[]
 srt:∀q∈Q,SortD q.ds
structure ZG(w:World)(B z bn bb:Nat)(ap:List Lab)(P:List Nq)(Q:List Sq)(N:Nat):Prop where
 zn:∃D,Zn w B z bn bb ap (total Q) D (cntP ap P) N∧Ents D (P.map Nq.ent)
 nd:∀p∈P,∃D2,NdG w B p.x p.bs p.n N D2∧Ents D2 ((setsOf Q p.n).map Sq.ent)
 sd:∀q∈Q,SdG w B q.s q.ttl q.v q.ds
 dbs:(bn::bb::P.map (·.bs)).Nodup
 ds:(Q.map (·.s)).Nodup
 dv:Q.Pairwise fun a b=>∀k,a.v.ownBlock=some k→b.v.ownBlock≠some k
theorem zkey_inj{n m:List Lab}(hn:nameE n=0)(hm:nameE m=0)(h:zkey n=zkey m):lower n=lower m:=by
 have h1:=(nameE_zero.1 hn).1;have h2:=(nameE_zero.1 hm).1;have:∀{k:List Lab},(∀l∈k,1≤l.length∧l.length≤63)→∀l∈lower k,1≤l.length∧l.length≤63:=by
  intro k hk l hl;unfold lower at hl;obtain⟨x,hx,rfl⟩:=List.mem_map.1 hl;have:=hk x hx;have e:(low x).length=x.length:=by simp[low]
  omega
 exact wire_inj (this h1) (this h2) h
theorem zkey_low(n:List Lab):zkey (lower n)=zkey n:=by unfold zkey;rw[lower_idem]
theorem Wf.apartP{ap:List Lab}{P:List Nq}{Q:List Sq}(h:Wf ap P Q):KApart (P.map Nq.ent):=by
 have h1:=h.kP;have h2:=h.ok;clear h
 induction P with
 |nil=>exact List.Pairwise.nil
 |cons p P ih=>
  rw[List.map_cons,List.nodup_cons]at h1;refine List.pairwise_cons.2 ⟨fun e he hk=> ?_,ih h1.2 (fun q hq=>h2 q (by simp[hq]))⟩;obtain⟨q,hq,rfl⟩:=List.mem_map.1 he;have hk:Lit.string (zkey p.n)=Lit.string (zkey q.n):=hk;injection hk with hk;have:=zkey_inj (h2 p (by simp)).ok (h2 q (by simp[hq])).ok hk;rw[(h2 p (by simp)).low,(h2 q (by simp[hq])).low]at this
  exact h1.1 (List.mem_map.2 ⟨q,hq,this.symm⟩)
theorem Wf.apartQ{ap:List Lab}{P:List Nq}{Q:List Sq}(h:Wf ap P Q)(n:List Lab):KApart ((setsOf Q n).map Sq.ent):=by
 have h1:=h.kQ;clear h
 induction Q with
 |nil=>exact List.Pairwise.nil
 |cons q Q ih=>
  rw[List.map_cons,List.nodup_cons]at h1;unfold setsOf at ih ⊢;rw[List.filter_cons];split
  ·rename_i hq;have hq:q.n=n:=by simpa using hq
   refine List.pairwise_cons.2 ⟨fun e he hk=> ?_,ih h1.2⟩;obtain⟨r,hr,rfl⟩:=List.mem_map.1 he;obtain⟨hr1,hr2⟩:=List.mem_filter.1 hr;have hr2:r.n=n:=by simpa using hr2
   have hk:Lit.int .u16 q.t=Lit.int .u16 r.t:=hk;injection hk with _ hk;exact h1.1 (List.mem_map.2 ⟨r,hr1,by rw[hq,hr2,hk]⟩)
  ·exact ih h1.2
theorem mem_setsOf{Q:List Sq}{n:List Lab}{q:Sq}:q∈setsOf Q n↔q∈Q∧q.n=n:=by simp[setsOf]
section
variable {w w':World} {B z bn bb:Nat} {ap:List Lab} {P:List Nq} {Q:List Sq} {N:Nat}
theorem SdG.kept{S:Nat→Prop}{s:Nat}{ttl:Int}{v:Value}{ds:List (Blob×Blob)}(h:SdG w B s ttl v ds)(hk:Kept S w w')(hZ:Zonal S w)(h1:¬S s)(h3:∀b,v.ownBlock=some b→¬S b):SdG w' B s ttl v ds:=
 ⟨(hk.block _ (lt_block h.set) h1).trans h.set,Kept.row h.row hk h3,h.dat.zonal hk hZ,h.h2⟩
theorem Zonal.none:Zonal (fun _=>False) w:=fun k h=>h.elim
theorem ZG.kept{S:Nat→Prop}(h:ZG w B z bn bb ap P Q N)(hk:Kept S w w')(hZ:Zonal S w)(hS:∀k,S k→¬zblk z bn bb P Q k):ZG w' B z bn bb ap P Q N:=by
 obtain⟨D,h1,h2⟩:=h.zn;refine⟨⟨D,h1.kept hk hZ (fun e=>hS _ e (.inl rfl)) (fun e=>hS _ e (.inr (.inl rfl))) (fun e=>hS _ e (.inr (.inr (.inl rfl)))),h2⟩,fun p hp=> ?_,fun q hq=> ?_,h.dbs,h.ds,h.dv⟩
 ·obtain⟨D2,h3,h4⟩:=h.nd p hp;exact⟨D2,h3.kept hk hZ (fun e=>hS _ e (.inr (.inr (.inr (.inl ⟨p,hp,rfl⟩))))),h4⟩
 ·exact(h.sd q hq).kept hk hZ (fun e=>hS _ e (.inr (.inr (.inr (.inr ⟨q,hq,.inl rfl⟩))))) (fun b hb e=>hS _ e (.inr (.inr (.inr (.inr ⟨q,hq,.inr hb.symm⟩)))))
theorem ZG.ext(h:ZG w B z bn bb ap P Q N)(hb:Below w.heap.size w w'):ZG w' B z bn bb ap P Q N:=h.kept (Kept.of_ext hb) Zonal.none (fun k h=>h.elim)
theorem ZG.lt(h:ZG w B z bn bb ap P Q N){k:Nat}(hk:zblk z bn bb P Q k):k < w.heap.size∧B≤k:=by
 obtain⟨D,h1,h2⟩:=h.zn;obtain⟨A,ca,g1,g2⟩:=h1.blk;obtain⟨E,g3,g4⟩:=h1.below;rcases hk with rfl|rfl|rfl|⟨p,hp,rfl⟩|⟨q,hq,rfl|e⟩
 ·exact⟨lt_block g1,h1.h1⟩
 ·exact⟨h1.nodes.lt,h1.h2⟩
 ·exact⟨g3.lt,h1.h3⟩
 ·obtain⟨D2,h3,h4⟩:=h.nd p hp;exact⟨h3.sets.lt,h3.h1⟩
 ·exact⟨lt_block (h.sd q hq).set,(h.sd q hq).h2⟩
 ·exact⟨((h.sd q hq).row.lt k e.symm).2,((h.sd q hq).row.lt k e.symm).1⟩
theorem ZG.zonal(h:ZG w B z bn bb ap P Q N):Zonal (zblk z bn bb P Q) w:=by
 obtain⟨D,h1,h2⟩:=h.zn;obtain⟨A,ca,g1,g2⟩:=h1.blk;obtain⟨E,g3,g4⟩:=h1.below;rintro k (e|e|e|⟨p,hp,e⟩|⟨q,hq,e|e⟩)
 ·exact Zonal.cells g1 (.inl rfl) k e
 ·exact Zonal.map h1.nodes k e
 ·exact Zonal.map g3 k e
 ·obtain⟨D2,h3,h4⟩:=h.nd p hp;exact Zonal.map h3.sets k e
 ·exact Zonal.cells (h.sd q hq).set (.inr (.inl rfl)) k e
 ·exact Zonal.row (h.sd q hq).row k e
end
end Nm
end Go.Proofs.YtmbdoacafhljkaaGreat
