/- Texts merged by a program: UScan, UScan2, UPre, UTold, UWith, UChg, UPrq, RelM4. -/
import Derived.Test.YtmbdoacafhljkaaGreatUh1
import Derived.Test.YtmbdoacafhljkaaGreatUh2
import Derived.Test.YtmbdoacafhljkaaGreatUh8
import Derived.Test.YtmbdoacafhljkaaGreatUh9
import Derived.Test.YtmbdoacafhljkaaGreatUh11
set_option linter.unusedSimpArgs false
set_option linter.unusedVariables false
set_option maxRecDepth 1000000
set_option maxHeartbeats 20000000
open Go.Proofs.Tryz
namespace Go.Proofs.YtmbdoacafhljkaaGreat
open Go.RowKit
namespace Nm
def gF:Bool→Fact→Fact
 |true,f=>f
 |false,_=>Fact.any
def gV:Bool→Value→Fact
 |true,v=>.is v
 |false,_=>.is undef
def namesF(n:List Lab):Fact:=⟨fun v W=>∃A c,v=.slice A n.length c∧Cs W A (n.map strV)∧n.length≤c∧c≤maxLen,by
 rintro v W W' hE ⟨A,c,h1,h2,h3⟩;exact⟨A,c,h1,h2.below hE,h3⟩⟩
theorem namesF_own{W:World}{B m:Nat}{v:Value}{n:List Lab}(h:W.ownsRow B 9 1 v m (n.map strV)):(namesF n).p v W:=by
 obtain⟨A,c,rfl,h1,h2⟩:=own_form h;have hm:m=n.length:=by have:=h.1;simp at this;omega
 subst hm;exact⟨A,c,rfl,(cs_own h).2,h1,h2⟩
theorem UScan1(w:World)(B z:Nat)(S:Nat→Prop)(ap:List Lab)(F:Cont)(N T:Nat)(h:Zo w B z S ap F N T)(hap:Small ap)(bl bz bm:Nat)(A:Option Addr)(us:List UcB)(cap:Nat)(Bu:Nat)(most:Int)
 (hbl:w.heap[bl]? =some (.cells #[.slice A us.length cap] 31 (0,0))) (hbz:w.heap[bz]? =some (.cells #[.pointer (some ⟨z,0,none⟩)] 25 (0,0))) (hbm:w.heap[bm]? =some (.cells #[.int .u32 most] 35 (0,0)))
 (hu:UcV w Bu (.slice A us.length cap) us) (hul:us.length≤100000) (hok:∀r∈us,UOk r.says):
 Calls prog 88 #[.pointer (some ⟨bl,0,none⟩),.pointer (some ⟨bz,0,none⟩),.pointer (some ⟨bm,0,none⟩)] w fun e w'=>Below w.heap.size w w'∧((firstC (scan1 ap most) (us.map UcB.says)=0∧e=.returned (.tuple #[]))∨(firstC (scan1 ap most) (us.map UcB.says)≠0∧e=.panicked (refP (firstC (scan1 ap most) (us.map UcB.says))))):=by
 obtain⟨l0,_⟩:=cells1 hbl;obtain⟨zz0,_⟩:=cells1 hbz;obtain⟨m0,_⟩:=cells1 hbm;have hbll:=lt_block hbl;have hbzl:=lt_block hbz;have hbml:=lt_block hbm;have HZ:=hid h;have HU:=hid hu;have HOK:=hid hok;clear h hu hok hbl hbz hbm;go_enter func88,ntmps88;go_wp2_with fail
 go_loopw [7] (fun i wr=>∃k:Nat,k≤us.length∧i=.int .i64 (k:Int)∧Below w.heap.size w wr∧∀j (h:j < us.length),j < k→scan1 ap most us[j].says=0) (fun i _=>us.length - (intOf i).toNat)
 case atStart=>exact⟨0,Nat.zero_le _,rfl,Below.refl _ _,fun j h hj=>by omega⟩
 case round=>
  obtain⟨k,hk,rfl,hb,hpre⟩:=hrel;by_cases hlt:k < us.length
  ·obtain⟨bu,off,rfl,hbu,r0,r1,r2,r3,r4⟩:=(HU.out.below hb).at hlt;have hro:=HU.out.own _ (List.getElem_mem hlt);have hrk:=HOK.out _ (List.getElem_mem hlt);have HPRE:Hid (∀r:UcB,us[k]=r→(scan1 ap most r.says=0→∀j (h:j < us.length),j < k+1→scan1 ap most us[j].says=0)∧(scan1 ap most r.says≠0→firstC (scan1 ap most) (us.map UcB.says)=scan1 ap most r.says)):=hid (by
    rintro r rfl;refine⟨fun h0 j h hj=> ?_,fun h0=> ?_⟩
    ·by_cases e:j=k
     ·subst e;exact h0
     ·exact hpre j h (by omega)
    ·have:=firstC_at (f:=scan1 ap most) (l:=us.map UcB.says) (k:=k) (by simpa using hlt) (fun i hi hik=>by rw[List.getElem_map];exact hpre i (by simpa using hi) hik) (by rw[List.getElem_map];exact h0);rw[List.getElem_map]at this;exact this)
   have HPR:=hid (HPRE.out _ rfl);generalize us[k]=r at *;obtain⟨⟨An,n,cn⟩,t,cl,ttl,⟨Ad,d,cd⟩⟩:=r;simp only[UcB.says,NmB.v,Blob.v]at r0 r1 r2 r3 r4 hrk;have HPR:Hid ((scan1 ap most ⟨n,t,cl,ttl,d⟩=0→∀j (h:j < us.length),j < k+1→scan1 ap most us[j].says=0)∧(scan1 ap most ⟨n,t,cl,ttl,d⟩≠0→firstC (scan1 ap most) (us.map UcB.says)=scan1 ap most ⟨n,t,cl,ttl,d⟩)):=HPR
   have hnr:w.ownsRow Bu 9 1 (.slice An n.length cn) n.length (n.map strV):=hro.1;have hdr:w.ownsRow Bu 5 1 (.slice Ad d.length cd) d.length (d.map byteV):=hro.2;have HND:=hid (And.intro hnr hdr);have HRK:=hid hrk;have l0r:=(bcl (o:=0) hb hbll).trans l0;have zz0r:=(bcl (o:=0) hb hbzl).trans zz0;have m0r:=(bcl (o:=0) hb hbml).trans m0;have hbs:=hb.size;have hbzr:bz < wr.heap.size:=by omega
   have hbmr:bm < wr.heap.size:=by omega
   clear hro hnr hdr hrk hpre HPRE
   go_upto_region 3 with fail
   have hb1:Below w.heap.size w (wr.alloc (.cells #[.slice An n.length cn,.int .u16 t,.int .u16 cl,.int .u32 ttl,.slice Ad d.length cd] 39)):=hb.trans ((Below.refl _ _).alloc hbs _);have hg1:=heap_alloc_new wr (.cells #[.slice An n.length cn,.int .u16 t,.int .u16 cl,.int .u32 ttl,.slice Ad d.length cd] 39)
   have hE1:Below wr.heap.size wr (wr.alloc (.cells #[.slice An n.length cn,.int .u16 t,.int .u16 cl,.int .u32 ttl,.slice Ad d.length cd] 39)):=bAl;have zz1:=(bcl (o:=0) hE1 hbzr).trans zz0r;have m1:=(bcl (o:=0) hE1 hbmr).trans m0r;have hbz1:=Nat.lt_of_lt_of_le hbzr hE1.size;have hbm1:=Nat.lt_of_lt_of_le hbmr hE1.size
   generalize wr.alloc (.cells #[.slice An n.length cn,.int .u16 t,.int .u16 cl,.int .u32 ttl,.slice Ad d.length cd] 39)=w1 at *;generalize wr.heap.size=g at *;obtain⟨g0,g1,g2,g3,g4,_⟩:=cells5 hg1;have hgl:=lt_block hg1;clear l0r zz0r m0r hE1 hg1 r0 r1 r2 r3 r4
   refine wp_region_m3p mixed0 (by kernel_rfl) 5 (by kernel_rfl) [.is (.pointer (some ⟨g,0,none⟩)),.is (.slice An n.length cn),.is (.pointer (some ⟨z,0,none⟩)),namesF ap,.is (.bool (within n ap))] (fun _ _ _ _=>True) ?_ ?_
   ·intro i o hio hil L vals W lo hi hJ hd;have hE:=hJ.C;have haf:=fun(e:Edge) (he:e∈o.after) (hb:Region.binds .any e=true)=>hJ.f e.on (hd e he hb);have e0:=(bcl (o:=0) hE hgl).trans g0;have e1:=(bcl (o:=0) hE hbz1).trans zz1;have hbW:Below w.heap.size w W:=hb1.trans (hE.mono hb1.size);rcases i with _|_|_|_|_|_|i
    all_goals first
     |(exfalso;omega)
     |(exfalso;simp at hio;done)
     |(simp at hio;subst hio;simp[Region.binds,factAt]at haf;simp[opU,go_sem,haf,e0,e1,Ext.refl,factAt];done)
     |skip
    all_goals
     simp at hio;subst hio;simp[Region.binds,factAt]at haf
    ·simp[opU,go_sem,haf,e0,e1,Ext.refl,factAt];refine((HZ.out.ext hbW).apex (by have:=hap.1;omega)).mono fun e W' h=> ?_;obtain⟨v,h1,h2,h3⟩:=h;exact⟨v,h1,h3,namesF_own h2⟩
    ·obtain⟨h1,Aa,ca,h3,hca,hcb,hcc⟩:=haf;simp[opU,go_sem,h1,h3,factAt];exact(Within An Aa n ap cn ca W ((cs_own HND.out.1).2.below hbW) hca HRK.out.small.few hap.few (own_caps HND.out.1).1 (own_caps HND.out.1).2).mono fun e W' h=>⟨h.2,h.1⟩
   ·intro o hio vals W lo hi hD;simp at hio;subst hio;have f4:vals 4=.bool (within n ap):=hD.f 4 (by decide);have hE:Below w1.heap.size w1 W:=hD.C;clear hD;simp[relAct,dstAt,Act.put];rw[f4];have hbW:=hb1.trans (hE.mono hb1.size);have G0:=(bcl (o:=0) hE hgl).trans g0;have G1:=(bcl (o:=1) hE hgl).trans g1;have G2:=(bcl (o:=2) hE hgl).trans g2;have G3:=(bcl (o:=3) hE hgl).trans g3
    have G4:=(bcl (o:=4) hE hgl).trans g4;have ZZ:=(bcl (o:=0) hE hbz1).trans zz1;have MM:=(bcl (o:=0) hE hbm1).trans m1;have hglW:=Nat.lt_of_lt_of_le hgl hE.size;have hbzW:=Nat.lt_of_lt_of_le hbz1 hE.size;have hbmW:=Nat.lt_of_lt_of_le hbm1 hE.size;clear hE f4 g0 g1 g2 g3 g4 zz1 m1 hgl hbz1 hbm1;cases hwi:within n ap with
    |false=>
     have hs:scan1 ap most ⟨n,t,cl,ttl,d⟩=10:=by
      unfold scan1;rw[if_pos hwi]
     have HS:=hid (HPR.out.2 (by rw[hs];decide));rw[hs]at HS;clear hs;go_wp2_with fail;refine(umust_no 10 W).mono ?_;rintro e w' ⟨rfl,rfl⟩;go_wp2_with fail;exact⟨rfl,hbW,.inr ⟨by rw[HS.out];decide,by rw[HS.out]⟩⟩
    |true=>
     go_wp2_with fail;refine(umust_yes 10 W).mono ?_;rintro e w' ⟨rfl,rfl⟩;by_cases hc1:cl=1
     ·subst hc1;by_cases h2:t=255
      ·subst h2;have hs:scan1 ap most ⟨n,255,1,ttl,d⟩=1:=by rw[scan1_in hwi];simp
       have HS:=hid (HPR.out.2 (by rw[hs];decide));rw[hs]at HS;clear hs;go_wp2_with fail;refine(umust_no 1 _).mono ?_;rintro e w' ⟨rfl,rfl⟩;go_wp2_with fail;exact⟨rfl,hbW,.inr ⟨by rw[HS.out];decide,by rw[HS.out]⟩⟩
      have h2b:(t !=255)=true:=by simpa using h2
      by_cases h3:t=41
      ·subst h3;have hs:scan1 ap most ⟨n,41,1,ttl,d⟩=1:=by rw[scan1_in hwi];simp
       have HS:=hid (HPR.out.2 (by rw[hs];decide));rw[hs]at HS;clear hs;go_wp2_with fail;refine(umust_no 1 _).mono ?_;rintro e w' ⟨rfl,rfl⟩;go_wp2_with fail;exact⟨rfl,hbW,.inr ⟨by rw[HS.out];decide,by rw[HS.out]⟩⟩
      have h3b:(t !=41)=true:=by simpa using h3
      go_wp2_with fail;refine(CheckE t HRK.out.easy Ad d cd W ((cs_own HND.out.2).2.below hbW) HRK.out.len (own_caps HND.out.2).1 (own_caps HND.out.2).2).mono ?_;rintro e W2 ⟨hb2,rfl⟩;have hbV:=hbW.trans (hb2.mono hbW.size);have K0:=(bcl (o:=0) hb2 hglW).trans G0;have K1:=(bcl (o:=1) hb2 hglW).trans G1;have K3:=(bcl (o:=3) hb2 hglW).trans G3;have KZ:=(bcl (o:=0) hb2 hbzW).trans ZZ
      have KM:=(bcl (o:=0) hb2 hbmW).trans MM;have hglV:=Nat.lt_of_lt_of_le hglW hb2.size;have hbzV:=Nat.lt_of_lt_of_le hbzW hb2.size;have hbmV:=Nat.lt_of_lt_of_le hbmW hb2.size;clear G0 G1 G2 G3 G4 ZZ MM hglW hbzW hbmW hb2;unfold code50;cases hck:chk t d with
      |false=>
       have hs:scan1 ap most ⟨n,t,1,ttl,d⟩=1:=by rw[scan1_in hwi];simp[hck]
       have HS:=hid (HPR.out.2 (by rw[hs];decide));rw[hs]at HS;clear hs;go_wp2_with fail;refine(umust_no 1 _).mono ?_;rintro e w' ⟨rfl,rfl⟩;go_wp2_with fail;exact⟨rfl,hbV,.inr ⟨by rw[HS.out];decide,by rw[HS.out]⟩⟩
      |true=>
       have HCK:=hid hck;clear hck;go_wp2_with fail;refine(umust_yes 1 _).mono ?_;rintro e w' ⟨rfl,rfl⟩
       go_upto_region 8 with fail
       obtain⟨p4,hp4⟩:∃b,decide (ttl≤most)=b:=⟨_,rfl⟩
       obtain⟨p8,hp8⟩:∃b,(t !=43)=b:=⟨_,rfl⟩
       obtain⟨sm,hsm⟩:∃b,same n ap=b:=⟨_,rfl⟩
       obtain⟨p17,hp17⟩:∃b,(p4&&(p8|| !sm))=b:=⟨_,rfl⟩
       obtain⟨p21,hp21⟩:∃b,(t !=2)=b:=⟨_,rfl⟩
       obtain⟨wl,hwl⟩:∃b,wild n=b:=⟨_,rfl⟩
       have HP:=hid (And.intro hp4 (And.intro hp8 (And.intro hsm (And.intro hp17 (And.intro hp21 hwl)))));clear hp4 hp8 hsm hp17 hp21 hwl
       refine wp_region_m3p mixed0 (by kernel_rfl) 28 (by kernel_rfl) [.is (.pointer (some ⟨g,3,none⟩)),.is (.int .u32 ttl),.is (.int .u32 most),.is (.bool p4),.is (.bool p4),gV (p4) (.pointer (some ⟨g,1,none⟩)),gV (p4) (.int .u16 t),gV (p4) (.bool p8),gV (p4) (.bool p8),gV (p4&& !p8) (.pointer (some ⟨g,0,none⟩)),gV (p4&& !p8) (.slice An n.length cn),gV (p4&& !p8) (.pointer (some ⟨z,0,none⟩)),gF (p4&& !p8) (namesF ap),gV (p4&& !p8) (.bool sm),gV (p4&& !p8) (.bool (!sm)),gV (p4) (.bool (p8|| !sm)),.is (.bool (p4&&(p8|| !sm))),.is (.bool p17),gV (p17) (.pointer (some ⟨g,1,none⟩)),gV (p17) (.int .u16 t),gV (p17) (.bool p21),gV (p17) (.bool p21),gV (p17&& !p21) (.pointer (some ⟨g,0,none⟩)),gV (p17&& !p21) (.slice An n.length cn),gV (p17&& !p21) (.bool wl),gV (p17&& !p21) (.bool (!wl)),gV (p17) (.bool (p21|| !wl)),.is (.bool (p17&&(p21|| !wl)))] (fun _ _ _ _=>True) ?_ ?_
       ·intro i o hio hil L vals W lo hi hJ hd;have hE:=hJ.C;have haf:=fun(e:Edge) (he:e∈o.after) (hb:Region.binds .any e=true)=>hJ.f e.on (hd e he hb);have e0:=(bcl (o:=0) hE hglV).trans K0;have e1:=(bcl (o:=1) hE hglV).trans K1;have e3:=(bcl (o:=3) hE hglV).trans K3;have eZ:=(bcl (o:=0) hE hbzV).trans KZ;have eM:=(bcl (o:=0) hE hbmV).trans KM;have hp4:=HP.out.1;have hp8:=HP.out.2.1
        have hp17:=HP.out.2.2.2.1;have hp21:=HP.out.2.2.2.2.1;have hbU:Below w.heap.size w W:=hbV.trans (hE.mono hbV.size);rcases i with _|_|_|_|_|_|_|_|_|_|_|_|_|_|_|_|_|_|_|_|_|_|_|_|_|_|_|_|_|i
        all_goals first
         |(exfalso;omega)
         |(exfalso;simp at hio;done)
         |(simp at hio;subst hio;simp[Region.binds,factAt]at haf;simp[opU,go_sem,haf,e0,e1,e3,eZ,eM,hp4,hp8,hp21,Ext.refl,factAt];done)
         |(simp at hio;subst hio;simp[Region.binds,factAt]at haf;cases p4 <;> (try simp[gV,gF]at haf) <;> simp[opU,go_sem,haf,e0,e1,e3,eZ,eM,hp4,hp8,hp21,Ext.refl,factAt,gV,gF,undef];done)
         |(simp at hio;subst hio;simp[Region.binds,factAt]at haf;cases p4 <;> cases p8 <;> (try simp[gV,gF]at haf) <;> simp[opU,go_sem,haf,e0,e1,e3,eZ,eM,hp4,hp8,hp21,Ext.refl,factAt,gV,gF,undef];done)
         |(simp at hio;subst hio;simp[Region.binds,factAt]at haf;cases p17 <;> (try simp[gV,gF]at haf) <;> simp[opU,go_sem,haf,e0,e1,e3,eZ,eM,hp4,hp8,hp21,Ext.refl,factAt,gV,gF,undef];done)
         |(simp at hio;subst hio;simp[Region.binds,factAt]at haf;cases p17 <;> cases p21 <;> (try simp[gV,gF]at haf) <;> simp[opU,go_sem,haf,e0,e1,e3,eZ,eM,hp4,hp8,hp21,Ext.refl,factAt,gV,gF,undef];done)
         |skip
        all_goals
         simp at hio;subst hio;simp[Region.binds,factAt]at haf
        ·cases p4 <;> cases p8 <;> (try simp[gV,gF]at haf)
         ·simp[opU,go_sem,haf,e0,e1,e3,eZ,eM,hp4,hp8,hp21,Ext.refl,factAt,gV,gF,undef]
         ·simp[opU,go_sem,haf,e0,e1,e3,eZ,eM,hp4,hp8,hp21,Ext.refl,factAt,gV,gF,undef]
         ·simp[opU,go_sem,haf,e0,e1,e3,eZ,eM,hp4,hp8,hp21,Ext.refl,factAt,gV,gF,undef];refine((HZ.out.ext hbU).apex (Nat.le_trans hap.1 (by decide))).mono fun e W' h=> ?_;obtain⟨v,h1,h2,h3⟩:=h;exact⟨v,h1,h3,namesF_own h2⟩
         ·simp[opU,go_sem,haf,e0,e1,e3,eZ,eM,hp4,hp8,hp21,Ext.refl,factAt,gV,gF,undef]
        ·cases p4 <;> cases p8 <;> (try simp[gV,gF]at haf)
         ·simp[opU,go_sem,haf,e0,e1,e3,eZ,eM,hp4,hp8,hp21,Ext.refl,factAt,gV,gF,undef]
         ·simp[opU,go_sem,haf,e0,e1,e3,eZ,eM,hp4,hp8,hp21,Ext.refl,factAt,gV,gF,undef]
         ·obtain⟨h1,⟨Aa,ca,h3,hca,hcb,hcc⟩,h8⟩:=haf;simp[opU,go_sem,h1,h3,h8,gV,gF,factAt];have:=Same An Aa n ap cn ca W ((cs_own HND.out.1).2.below hbU) hca HRK.out.small.few hap.few;rw[HP.out.2.2.1]at this;exact this.mono fun e W' h=>⟨h.2,h.1⟩
         ·simp[opU,go_sem,haf,e0,e1,e3,eZ,eM,hp4,hp8,hp21,Ext.refl,factAt,gV,gF,undef]
        ·simp[opU,go_sem,haf,e0,e1,e3,eZ,eM,hp4,hp8,hp21,Ext.refl,factAt,hp17]
        ·cases p17 <;> cases p21 <;> (try simp[gV,gF]at haf)
         ·simp[opU,go_sem,haf,e0,e1,e3,eZ,eM,hp4,hp8,hp21,Ext.refl,factAt,gV,gF,undef]
         ·simp[opU,go_sem,haf,e0,e1,e3,eZ,eM,hp4,hp8,hp21,Ext.refl,factAt,gV,gF,undef]
         ·obtain⟨h1,h8⟩:=haf;simp[opU,go_sem,h1,h8,gV,gF,factAt];have:=Wild An n cn W ((cs_own HND.out.1).2.below hbU) (Nat.le_trans HRK.out.small.1 (by decide));rw[HP.out.2.2.2.2.2]at this;exact this.mono fun e W' h=>⟨h.1,by rw[←h.2];exact Ext.refl _⟩
         ·simp[opU,go_sem,haf,e0,e1,e3,eZ,eM,hp4,hp8,hp21,Ext.refl,factAt,gV,gF,undef]
       ·intro o hio vals W lo hi hD;simp at hio;subst hio;have f27:vals 27=.bool (p17&&(p21|| !wl)):=hD.f 27 (by decide);have hE:Below W2.heap.size W2 W:=hD.C;have hbU:=hbV.trans (hE.mono hbV.size);have M1:=(bcl (o:=1) hE hglV).trans K1;have hglU:=Nat.lt_of_lt_of_le hglV hE.size
        have HQ:Hid ((decide (ttl≤most)&&(t !=43|| !same n ap)&&(t !=2|| !wild n))=(p17&&(p21|| !wl))):=hid (by rw[HP.out.1,HP.out.2.1,HP.out.2.2.1,HP.out.2.2.2.2.1,HP.out.2.2.2.2.2,HP.out.2.2.2.1]);clear hD;simp[relAct,dstAt,Act.put];rw[f27];generalize(p17&&(p21|| !wl))=pf at *;clear f27 hE K0 K1 K3 KZ KM hglV hbzV hbmV;cases pf with
        |false=>
         have hs:scan1 ap most ⟨n,t,1,ttl,d⟩=5:=by rw[scan1_in hwi,if_neg (by simp[h2,h3,HCK.out]),if_pos HQ.out]
         have HS:=hid (HPR.out.2 (by rw[hs];decide));rw[hs]at HS;clear hs;go_wp2_with fail;refine(umust_no 5 _).mono ?_;rintro e w' ⟨rfl,rfl⟩;go_wp2_with fail;exact⟨rfl,hbU,.inr ⟨by rw[HS.out];decide,by rw[HS.out]⟩⟩
        |true=>
         cases hkt:keptT t with
         |true=>
          have hs:scan1 ap most ⟨n,t,1,ttl,d⟩=5:=by rw[scan1_in hwi,if_neg (by simp[h2,h3,HCK.out]),if_neg (by rw[HQ.out];simp)];simp[hkt]
          have HS:=hid (HPR.out.2 (by rw[hs];decide));rw[hs]at HS;clear hs;go_wp2_with fail;refine(umust_yes 5 _).mono ?_;rintro e w' ⟨rfl,rfl⟩;go_wp2_with fail;refine(ukept t _).mono ?_;rintro e w' ⟨rfl,rfl⟩;rw[show(t==46||t==48||t==50||t==51)=true from hkt];go_wp2_with fail;refine(umust_no 5 _).mono ?_;rintro e w' ⟨rfl,rfl⟩;go_wp2_with fail
          exact⟨rfl,hbU,.inr ⟨by rw[HS.out];decide,by rw[HS.out]⟩⟩
         |false=>
          have hs:scan1 ap most ⟨n,t,1,ttl,d⟩=0:=by rw[scan1_in hwi,if_neg (by simp[h2,h3,HCK.out]),if_neg (by rw[HQ.out];simp)];simp[hkt]
          have HS:=hid (HPR.out.1 hs);clear hs;go_wp2_with fail;refine(umust_yes 5 _).mono ?_;rintro e w' ⟨rfl,rfl⟩;go_wp2_with fail;refine(ukept t _).mono ?_;rintro e w' ⟨rfl,rfl⟩;rw[show(t==46||t==48||t==50||t==51)=false from hkt];go_wp2_with fail;refine(umust_yes 5 _).mono ?_;rintro e w' ⟨rfl,rfl⟩;go_wp2_with fail
          go_roundw
          case rel=>(repeat apply Exists.intro);exact⟨hlt,by go_num,hbU,HS.out⟩
          case measure=>simp[intOf];omega
     by_cases hc2:cl=255
     ·subst hc2;by_cases h1:ttl=0
      ·subst h1;by_cases h2:d.length=0
       ·have h2b:((d.length:Int)==0)=true:=by simp[h2]
        by_cases h3:t=41
        ·subst h3;have hs:scan1 ap most ⟨n,41,255,0,d⟩=1:=by rw[scan1_any hwi];simp
         have HS:=hid (HPR.out.2 (by rw[hs];decide));rw[hs]at HS;clear hs;go_wp2_with fail;refine(umust_no 1 _).mono ?_;rintro e w' ⟨rfl,rfl⟩;go_wp2_with fail;exact⟨rfl,hbW,.inr ⟨by rw[HS.out];decide,by rw[HS.out]⟩⟩
        ·have h3b:(t !=41)=true:=by simpa using h3
         cases hkt:keptT t with
         |true=>
          have hs:scan1 ap most ⟨n,t,255,0,d⟩=5:=by rw[scan1_any hwi];rw[if_neg (by simp[h2,h3])];simp[hkt]
          have HS:=hid (HPR.out.2 (by rw[hs];decide));rw[hs]at HS;clear hs;go_wp2_with fail;refine(umust_yes 1 _).mono ?_;rintro e w' ⟨rfl,rfl⟩;go_wp2_with fail;refine(ukept t _).mono ?_;rintro e w' ⟨rfl,rfl⟩;rw[show(t==46||t==48||t==50||t==51)=true from hkt];go_wp2_with fail;refine(umust_no 5 _).mono ?_;rintro e w' ⟨rfl,rfl⟩;go_wp2_with fail
          exact⟨rfl,hbW,.inr ⟨by rw[HS.out];decide,by rw[HS.out]⟩⟩
         |false=>
          have hs:scan1 ap most ⟨n,t,255,0,d⟩=0:=by rw[scan1_any hwi];rw[if_neg (by simp[h2,h3])];simp[hkt]
          have HS:=hid (HPR.out.1 hs);clear hs;go_wp2_with fail;refine(umust_yes 1 _).mono ?_;rintro e w' ⟨rfl,rfl⟩;go_wp2_with fail;refine(ukept t _).mono ?_;rintro e w' ⟨rfl,rfl⟩;rw[show(t==46||t==48||t==50||t==51)=false from hkt];go_wp2_with fail;refine(umust_yes 5 _).mono ?_;rintro e w' ⟨rfl,rfl⟩;go_wp2_with fail
          go_roundw
          case rel=>exact⟨k+1,hlt,by go_num,hbW,HS.out⟩
          case measure=>simp[intOf];omega
       ·have h2b:((d.length:Int)==0)=false:=by rw[beq_eq_false_iff_ne];omega
        have hs:scan1 ap most ⟨n,t,255,0,d⟩=1:=by rw[scan1_any hwi];simp[h2]
        have HS:=hid (HPR.out.2 (by rw[hs];decide));rw[hs]at HS;clear hs;go_wp2_with fail;refine(umust_no 1 _).mono ?_;rintro e w' ⟨rfl,rfl⟩;go_wp2_with fail;exact⟨rfl,hbW,.inr ⟨by rw[HS.out];decide,by rw[HS.out]⟩⟩
      ·have h1b:(ttl==0)=false:=by simpa using h1
       have hs:scan1 ap most ⟨n,t,255,ttl,d⟩=1:=by rw[scan1_any hwi];simp[h1]
       have HS:=hid (HPR.out.2 (by rw[hs];decide));rw[hs]at HS;clear hs;go_wp2_with fail;refine(umust_no 1 _).mono ?_;rintro e w' ⟨rfl,rfl⟩;go_wp2_with fail;exact⟨rfl,hbW,.inr ⟨by rw[HS.out];decide,by rw[HS.out]⟩⟩
     by_cases hc3:cl=254
     ·subst hc3;by_cases h1:ttl=0
      ·subst h1;by_cases h2:t=255
       ·subst h2;have hs:scan1 ap most ⟨n,255,254,0,d⟩=1:=by rw[scan1_none hwi];simp
        have HS:=hid (HPR.out.2 (by rw[hs];decide));rw[hs]at HS;clear hs;go_wp2_with fail;refine(umust_no 1 _).mono ?_;rintro e w' ⟨rfl,rfl⟩;go_wp2_with fail;exact⟨rfl,hbW,.inr ⟨by rw[HS.out];decide,by rw[HS.out]⟩⟩
       ·have h2b:(t !=255)=true:=by simpa using h2
        by_cases h3:t=41
        ·subst h3;have hs:scan1 ap most ⟨n,41,254,0,d⟩=1:=by rw[scan1_none hwi];simp
         have HS:=hid (HPR.out.2 (by rw[hs];decide));rw[hs]at HS;clear hs;go_wp2_with fail;refine(umust_no 1 _).mono ?_;rintro e w' ⟨rfl,rfl⟩;go_wp2_with fail;exact⟨rfl,hbW,.inr ⟨by rw[HS.out];decide,by rw[HS.out]⟩⟩
        ·have h3b:(t !=41)=true:=by simpa using h3
         cases hkt:keptT t with
         |true=>
          have hs:scan1 ap most ⟨n,t,254,0,d⟩=5:=by rw[scan1_none hwi];rw[if_neg (by simp[h2,h3])];simp[hkt]
          have HS:=hid (HPR.out.2 (by rw[hs];decide));rw[hs]at HS;clear hs;go_wp2_with fail;refine(umust_yes 1 _).mono ?_;rintro e w' ⟨rfl,rfl⟩;go_wp2_with fail;refine(ukept t _).mono ?_;rintro e w' ⟨rfl,rfl⟩;rw[show(t==46||t==48||t==50||t==51)=true from hkt];go_wp2_with fail;refine(umust_no 5 _).mono ?_;rintro e w' ⟨rfl,rfl⟩;go_wp2_with fail
          exact⟨rfl,hbW,.inr ⟨by rw[HS.out];decide,by rw[HS.out]⟩⟩
         |false=>
          have hs:scan1 ap most ⟨n,t,254,0,d⟩=0:=by rw[scan1_none hwi];rw[if_neg (by simp[h2,h3])];simp[hkt]
          have HS:=hid (HPR.out.1 hs);clear hs;go_wp2_with fail;refine(umust_yes 1 _).mono ?_;rintro e w' ⟨rfl,rfl⟩;go_wp2_with fail;refine(ukept t _).mono ?_;rintro e w' ⟨rfl,rfl⟩;rw[show(t==46||t==48||t==50||t==51)=false from hkt];go_wp2_with fail;refine(umust_yes 5 _).mono ?_;rintro e w' ⟨rfl,rfl⟩;go_wp2_with fail
          go_roundw
          case rel=>exact⟨k+1,hlt,by go_num,hbW,HS.out⟩
          case measure=>simp[intOf];omega
      ·have h1b:(ttl==0)=false:=by simpa using h1
       have hs:scan1 ap most ⟨n,t,254,ttl,d⟩=1:=by rw[scan1_none hwi];simp[h1]
       have HS:=hid (HPR.out.2 (by rw[hs];decide));rw[hs]at HS;clear hs;go_wp2_with fail;refine(umust_no 1 _).mono ?_;rintro e w' ⟨rfl,rfl⟩;go_wp2_with fail;exact⟨rfl,hbW,.inr ⟨by rw[HS.out];decide,by rw[HS.out]⟩⟩
     have hs:=scan1_odd (most:=most) (t:=t) (ttl:=ttl) (d:=d) hwi hc1 hc2 hc3;have b1:(cl==1)=false:=by simpa using hc1
     have b2:(cl==255)=false:=by simpa using hc2
     have b3:(cl==254)=false:=by simpa using hc3
     have HS:=hid (HPR.out.2 (by rw[hs];decide));rw[hs]at HS;clear hs;go_wp2_with fail;refine(umust_no 1 _).mono ?_;rintro e w' ⟨rfl,rfl⟩;go_wp2_with fail;exact⟨rfl,hbW,.inr ⟨by rw[HS.out];decide,by rw[HS.out]⟩⟩
  ·have HZ0:Hid (firstC (scan1 ap most) (us.map UcB.says)=0):=hid (firstC_zero fun r hr=>by
    obtain⟨u,hu,rfl⟩:=List.mem_map.1 hr;obtain⟨j,hj,rfl⟩:=List.mem_iff_getElem.1 hu;exact hpre j hj (by omega))
   clear hpre;go_wp2_with fail
   go_end0
   exact⟨hb,.inl ⟨HZ0.out,rfl⟩⟩
theorem far_int:farT 3:=by unfold farT;decide
theorem kept_new{w W W' w':World}{g:Nat}(h1:Below w.heap.size w W)(h2:Below W.heap.size W W')(h3:Kept (fun k=>k=g) W' w')(hg:w.heap.size≤g):Below w.heap.size w w':=
 (h1.trans (h2.mono h1.size)).trans (h3.below (Nat.le_trans h1.size h2.size) fun k hk e=>by omega)
theorem UScan(w:World)(B z:Nat)(S:Nat→Prop)(ap:List Lab)(F:Cont)(N T:Nat)(h:Zo w B z S ap F N T)(hap:Small ap)(A:Option Addr)(us:List UcB)(cap:Nat)(Bu:Nat)(most:Int)
 (hu:UcV w Bu (.slice A us.length cap) us) (hul:us.length≤100000) (hok:∀r∈us,UOk r.says):
 Calls prog 43 #[.pointer (some ⟨z,0,none⟩),.int .u32 most,.slice A us.length cap] w fun e w'=>Below w.heap.size w w'∧e=.returned (.int .i64 (firstC (scan1 ap most) (us.map UcB.says))):=by
 have hmf:∀(fn:Fn) (first cap:Array Value) (w:World),(Instr.makeFunc fn first cap).run prog w=.ok (.func fn first cap) w:=fun _ _ _ _=>rfl;have b1:Below w.heap.size w (w.alloc (.cells #[.pointer (some ⟨z,0,none⟩)] 25)):=bAl;have c1:=heap_alloc_new w (.cells #[.pointer (some ⟨z,0,none⟩)] 25)
 have s1:(w.alloc (.cells #[.pointer (some ⟨z,0,none⟩)] 25)).heap.size=w.heap.size+1:=by simp
 go_enter func43,ntmps43
 go_upto_region 1 with fail
 generalize w.alloc (.cells #[.pointer (some ⟨z,0,none⟩)] 25)=w1 at *;have b2:Below w1.heap.size w1 (w1.alloc (.cells #[.int .u32 most] 35)):=bAl;have c2:=heap_alloc_new w1 (.cells #[.int .u32 most] 35);have s2:(w1.alloc (.cells #[.int .u32 most] 35)).heap.size=w.heap.size+2:=by simp[s1]
 rw[s1]at c2;have c12:=(b2.block _ (lt_block c1)).trans c1;generalize w1.alloc (.cells #[.int .u32 most] 35)=w2 at *;have b3:Below w2.heap.size w2 (w2.alloc (.cells #[.slice A us.length cap] 31)):=bAl;have c3:=heap_alloc_new w2 (.cells #[.slice A us.length cap] 31);rw[s2]at c3;have c13:=(b3.block _ (lt_block c12)).trans c12
 have c23:=(b3.block _ (lt_block c2)).trans c2;generalize w2.alloc (.cells #[.slice A us.length cap] 31)=w3 at *;have b13:Below w.heap.size w w3:=(b1.trans (b2.mono b1.size)).trans (b3.mono (Nat.le_trans b1.size b2.size))
 have HS:=hid (UCaughtS (.pointer (some ⟨w.heap.size+2,0,none⟩)) (.pointer (some ⟨w.heap.size,0,none⟩)) (.pointer (some ⟨w.heap.size+1,0,none⟩)) w3 (fun c W W'=>Below W.heap.size W W'∧c=firstC (scan1 ap most) (us.map UcB.says)) (fun W hW hs hc=>by
  have hbW:=b13.trans (hW.mono b13.size);refine(UScan1 W B z S ap F N T (h.ext hbW) hap (w.heap.size+2) w.heap.size (w.heap.size+1) A us cap Bu most ((hW.block _ (lt_block c3)).trans c3) ((hW.block _ (lt_block c13)).trans c13) ((hW.block _ (lt_block c23)).trans c23) (hu.below hbW) hul hok).mono ?_;rintro e W' ⟨hb,hcase⟩;refine⟨?_,(hb.block _ (lt_block hc)).trans hc⟩
  rcases hcase with⟨h0,rfl⟩|⟨h0,rfl⟩
  ·exact .inl ⟨rfl,hb,h0.symm⟩
  ·exact .inr ⟨_,rfl,hb,rfl⟩))
 have hw3:=b13.size;clear b1 b2 b3 c1 c2 c3 c12 c13 c23 h hu hok s1 s2;go_wp2_with fail;refine HS.out.mono ?_;rintro e w4 ⟨c,W,W',cs,rfl,hbW,hlt,⟨hb,rfl⟩,_,hk⟩;have hF:=b13.trans ((kept_new hbW hb hk (Nat.le_refl _)).mono hw3);go_wp2_with fail;go_ret;exact⟨hF,rfl⟩
theorem UStands(w:World)(B z:Nat)(S:Nat→Prop)(ap:List Lab)(F:Cont)(N T:Nat)(h:Zo w B z S ap F N T)(An:Option Addr)(n:List Lab)(cn:Nat)(hAn:Cs w An (n.map strV))(hn:Small n)(hne:nameE n=0)(h12:Few12 F):
 Calls prog 79 #[.pointer (some ⟨z,0,none⟩),.slice An n.length cn] w fun e w'=>Below w.heap.size w w'∧∃b,e=.returned (.bool b)∧(b=true↔∃t,F (lower n) t≠none):=by
 have HT:=hid (h.types An n cn hAn hn hne h12);clear h hAn;go_enter func79,ntmps79;go_wp2_with fail;refine HT.out.mono ?_;rintro e w1 ⟨v,ys,rfl,hs,hm,hl,hr,hb⟩;obtain⟨A1,c1,rfl,_⟩:=own_form hr;have HM:=hid (And.intro hm hb);clear hr hb hm;go_wp2_with fail;go_ret;refine⟨HM.out.2,_,rfl, ?_⟩;rw[decide_eq_true_iff];constructor
 ·intro hp;cases ys with
  |nil=>simp at hp
  |cons y ys=>exact⟨(y:Int),(HM.out.1 _).2 ⟨y,by simp,rfl⟩⟩
 ·rintro⟨t,ht⟩;obtain⟨y,hy,_⟩:=(HM.out.1 t).1 ht;have:=List.length_pos_of_mem hy;omega
theorem USet(w:World)(B z:Nat)(S:Nat→Prop)(ap:List Lab)(F:Cont)(N T:Nat)(h:Zo w B z S ap F N T)(An:Option Addr)(n:List Lab)(cn:Nat)(t:Int)(hAn:Cs w An (n.map strV))(hn:Small n)(hne:nameE n=0)(hwt:(Lit.int .u16 t).wf=true)(hT:T≤100000)(hl:ShortC F):
 Calls prog 80 #[.pointer (some ⟨z,0,none⟩),.slice An n.length cn,.int .u16 t] w fun e w'=>Below w.heap.size w w'∧e=.returned (.bool (F (lower n) t).isSome):=by
 cases hF:F (lower n) t with
 |none=>
  have HS:=hid (h.set_none An n cn t hAn hn hne hwt hF);clear h hAn;go_enter func80,ntmps80;go_wp2_with fail;refine HS.out.mono ?_;rintro e w1 ⟨rfl,hb⟩;have hb2:Below w.heap.size w (w1.alloc (.cells #[.slice none 0 0,.int .u16 0,.int .u32 0,.slice none 0 0] 54)):=hb.alloc hb.size _;go_wp2_with fail;go_ret;exact⟨hb2,rfl⟩
 |some x=>
  obtain⟨ttl,ds⟩:=x;have HS:=hid (h.set_some An n cn t hAn hn hT hF (hl _ _ _ _ hF));clear h hAn;go_enter func80,ntmps80;go_wp2_with fail;refine HS.out.mono ?_;rintro e w1 ⟨hb,Am,cm,Ad,cd,bl,rfl,_⟩;have hb2:Below w.heap.size w (w1.alloc (.cells #[.slice Am n.length cm,.int .u16 t,.int .u32 ttl,.slice Ad ds.length cd] 54)):=hb.alloc hb.size _;go_wp2_with fail;go_ret
  exact⟨hb2,rfl⟩
noncomputable def standsC(F:Cont)(n:List Lab):Bool:= @decide (∃t,F n t≠none) (Classical.propDecidable _)
theorem standsC_iff(F:Cont)(n:List Lab):standsC F n=true↔∃t,F n t≠none:= @decide_eq_true_iff _ (Classical.propDecidable _)
noncomputable def pre1(F:Cont)(ap:List Lab)(r:UR):Int:=
 if r.ttl≠0 then 1 else if within r.n ap=false then 10
 else if r.cl=255 then(if r.d.length≠0 then 1 else if r.t=255 then(if standsC F (lower r.n)then 0 else 3)else(if(F (lower r.n) r.t).isSome then 0 else 8))
 else if r.cl=254 then(if r.d.length≠0 then 1 else if r.t=255 then(if standsC F (lower r.n)then 6 else 0)else(if(F (lower r.n) r.t).isSome then 7 else 0))
 else 1
theorem pre1_go{F:Cont}{ap n:List Lab}{t cl:Int}{d:Lab}(hw:within n ap=true):pre1 F ap ⟨n,t,cl,0,d⟩=if cl=255 then(if d.length≠0 then 1 else if t=255 then(if standsC F (lower n)then 0 else 3)else(if(F (lower n) t).isSome then 0 else 8))
 else if cl=254 then(if d.length≠0 then 1 else if t=255 then(if standsC F (lower n)then 6 else 0)else(if(F (lower n) t).isSome then 7 else 0))
 else 1:=by simp[pre1,hw]
theorem UPre1(w:World)(B z:Nat)(S:Nat→Prop)(ap:List Lab)(F:Cont)(N T:Nat)(h:Zo w B z S ap F N T)(hT:T≤100000)(h12:Few12 F)(hsc:ShortC F)(hap:Small ap)(bl bz:Nat)(A:Option Addr)(us:List UcB)(cap:Nat)(Bu:Nat)
 (hbl:w.heap[bl]? =some (.cells #[.slice A us.length cap] 31 (0,0))) (hbz:w.heap[bz]? =some (.cells #[.pointer (some ⟨z,0,none⟩)] 25 (0,0)))
 (hu:UcV w Bu (.slice A us.length cap) us) (hul:us.length≤100000) (hok:∀r∈us,UOk r.says) (hcl:∀r∈us,r.cl≠1):
 Calls prog 76 #[.pointer (some ⟨bl,0,none⟩),.pointer (some ⟨bz,0,none⟩)] w fun e w'=>Below w.heap.size w w'∧((firstC (pre1 F ap) (us.map UcB.says)=0∧e=.returned (.tuple #[]))∨(firstC (pre1 F ap) (us.map UcB.says)≠0∧e=.panicked (refP (firstC (pre1 F ap) (us.map UcB.says))))):=by
 obtain⟨l0,_⟩:=cells1 hbl;obtain⟨zz0,_⟩:=cells1 hbz;have hbll:=lt_block hbl;have hbzl:=lt_block hbz;have HZ:=hid h;have HU:=hid hu;have HOK:=hid hok;have HCL:=hid hcl;clear h hu hok hbl hbz hcl;go_enter func76,ntmps76;go_wp2_with fail
 go_loopw [2,10] (fun sl i wr=>sl=.slice none 0 0∧∃k:Nat,k≤us.length∧i=.int .i64 (k:Int)∧Below w.heap.size w wr∧∀j (h:j < us.length),j < k→pre1 F ap us[j].says=0) (fun _ i _=>us.length - (intOf i).toNat)
 case atStart=>exact⟨rfl,0,Nat.zero_le _,rfl,Below.refl _ _,fun j h hj=>by omega⟩
 case round=>
  obtain⟨rfl,k,hk,rfl,hb,hpre⟩:=hrel;by_cases hlt:k < us.length
  ·obtain⟨bu,off,rfl,hbu,r0,r1,r2,r3,r4⟩:=(HU.out.below hb).at hlt;have hro:=HU.out.own _ (List.getElem_mem hlt);have hrk:=HOK.out _ (List.getElem_mem hlt);have hrc:=HCL.out _ (List.getElem_mem hlt)
   have HPRE:Hid (∀r:UcB,us[k]=r→(pre1 F ap r.says=0→∀j (h:j < us.length),j < k+1→pre1 F ap us[j].says=0)∧(pre1 F ap r.says≠0→firstC (pre1 F ap) (us.map UcB.says)=pre1 F ap r.says)):=hid (by
    rintro r rfl;refine⟨fun h0 j h hj=> ?_,fun h0=> ?_⟩
    ·by_cases e:j=k
     ·subst e;exact h0
     ·exact hpre j h (by omega)
    ·have:=firstC_at (f:=pre1 F ap) (l:=us.map UcB.says) (k:=k) (by simpa using hlt) (fun i hi hik=>by rw[List.getElem_map];exact hpre i (by simpa using hi) hik) (by rw[List.getElem_map];exact h0);rw[List.getElem_map]at this;exact this)
   have HPR:=hid (HPRE.out _ rfl);generalize us[k]=r at *;obtain⟨⟨An,n,cn⟩,t,cl,ttl,⟨Ad,d,cd⟩⟩:=r;simp only[UcB.says,NmB.v,Blob.v]at r0 r1 r2 r3 r4 hrk hrc;have HPR:Hid ((pre1 F ap ⟨n,t,cl,ttl,d⟩=0→∀j (h:j < us.length),j < k+1→pre1 F ap us[j].says=0)∧(pre1 F ap ⟨n,t,cl,ttl,d⟩≠0→firstC (pre1 F ap) (us.map UcB.says)=pre1 F ap ⟨n,t,cl,ttl,d⟩)):=HPR
   have hnr:w.ownsRow Bu 9 1 (.slice An n.length cn) n.length (n.map strV):=hro.1;have HND:=hid hnr;have HRK:=hid hrk;have l0r:=(bcl (o:=0) hb hbll).trans l0;have zz0r:=(bcl (o:=0) hb hbzl).trans zz0;have hbs:=hb.size;have hbzr:bz < wr.heap.size:=by omega
   clear hro hnr hrk hpre HPRE
   go_upto_region 4 with fail
   have hb1:Below w.heap.size w (wr.alloc (.cells #[.slice An n.length cn,.int .u16 t,.int .u16 cl,.int .u32 ttl,.slice Ad d.length cd] 39)):=hb.trans ((Below.refl _ _).alloc hbs _);have hg1:=heap_alloc_new wr (.cells #[.slice An n.length cn,.int .u16 t,.int .u16 cl,.int .u32 ttl,.slice Ad d.length cd] 39)
   have hE1:Below wr.heap.size wr (wr.alloc (.cells #[.slice An n.length cn,.int .u16 t,.int .u16 cl,.int .u32 ttl,.slice Ad d.length cd] 39)):=bAl;have zz1:=(bcl (o:=0) hE1 hbzr).trans zz0r;have hbz1:=Nat.lt_of_lt_of_le hbzr hE1.size;generalize wr.alloc (.cells #[.slice An n.length cn,.int .u16 t,.int .u16 cl,.int .u32 ttl,.slice Ad d.length cd] 39)=w1 at *
   generalize wr.heap.size=g at *;obtain⟨g0,g1,g2,g3,g4,_⟩:=cells5 hg1;have hgl:=lt_block hg1;clear l0r zz0r hE1 hg1 r0 r1 r2 r3 r4;by_cases h1:ttl=0
   ·subst h1;go_wp2_with fail;refine(umust_yes 1 _).mono ?_;rintro e w' ⟨rfl,rfl⟩
    go_upto_region 5 with fail
    refine wp_region_m3p mixed0 (by kernel_rfl) 5 (by kernel_rfl) [.is (.pointer (some ⟨g,0,none⟩)),.is (.slice An n.length cn),.is (.pointer (some ⟨z,0,none⟩)),namesF ap,.is (.bool (within n ap))] (fun _ _ _ _=>True) ?_ ?_
    ·intro i o hio hil L vals W lo hi hJ hd;have hE:=hJ.C;have haf:=fun(e:Edge) (he:e∈o.after) (hb:Region.binds .any e=true)=>hJ.f e.on (hd e he hb);have e0:=(bcl (o:=0) hE hgl).trans g0;have e1:=(bcl (o:=0) hE hbz1).trans zz1;have hbW:Below w.heap.size w W:=hb1.trans (hE.mono hb1.size);rcases i with _|_|_|_|_|_|i
     all_goals first
      |(exfalso;omega)
      |(exfalso;simp at hio;done)
      |(simp at hio;subst hio;simp[Region.binds,factAt]at haf;simp[opU,go_sem,haf,e0,e1,Ext.refl,factAt];done)
      |skip
     all_goals
      simp at hio;subst hio;simp[Region.binds,factAt]at haf
     ·simp[opU,go_sem,haf,e0,e1,Ext.refl,factAt];refine((HZ.out.ext hbW).apex (Nat.le_trans hap.1 (by decide))).mono fun e W' h=> ?_;obtain⟨v,h1,h2,h3⟩:=h;exact⟨v,h1,h3,namesF_own h2⟩
     ·obtain⟨h1,Aa,ca,h3,hca,hcb,hcc⟩:=haf;simp[opU,go_sem,h1,h3,factAt];exact(Within An Aa n ap cn ca W ((cs_own HND.out).2.below hbW) hca HRK.out.small.few hap.few (own_caps HND.out).1 (own_caps HND.out).2).mono fun e W' h=>⟨h.2,h.1⟩
    ·intro o hio vals W lo hi hD;simp at hio;subst hio;have f4:vals 4=.bool (within n ap):=hD.f 4 (by decide);have hE:Below w1.heap.size w1 W:=hD.C;clear hD;simp[relAct,dstAt,Act.put];rw[f4];have hbW:=hb1.trans (hE.mono hb1.size);have G0:=(bcl (o:=0) hE hgl).trans g0;have G1:=(bcl (o:=1) hE hgl).trans g1;have G2:=(bcl (o:=2) hE hgl).trans g2;have G4:=(bcl (o:=4) hE hgl).trans g4
     have ZZ:=(bcl (o:=0) hE hbz1).trans zz1;have hglW:=Nat.lt_of_lt_of_le hgl hE.size;have hbzW:=Nat.lt_of_lt_of_le hbz1 hE.size;have hA:=(cs_own HND.out).2.below hbW;have hZW:=HZ.out.ext hbW;clear hE f4 g0 g1 g2 g3 g4 zz1 hgl hbz1;cases hwi:within n ap with
     |false=>
      have hs:pre1 F ap ⟨n,t,cl,0,d⟩=10:=by unfold pre1;rw[if_neg (by simp),if_pos hwi]
      have HS:=hid (HPR.out.2 (by rw[hs];decide));rw[hs]at HS;clear hs;go_wp2_with fail;refine(umust_no 10 _).mono ?_;rintro e w' ⟨rfl,rfl⟩;go_wp2_with fail;exact⟨rfl,hbW,.inr ⟨by rw[HS.out];decide,by rw[HS.out]⟩⟩
     |true=>
      go_wp2_with fail;refine(umust_yes 10 _).mono ?_;rintro e w' ⟨rfl,rfl⟩;have HP:=pre1_go (F:=F) (t:=t) (cl:=cl) (d:=d) hwi;by_cases hc2:cl=255
      ·subst hc2;by_cases h2:d.length=0
       ·have h2b:((d.length:Int)==0)=true:=by simp[h2]
        go_wp2_with fail;refine(umust_yes 1 _).mono ?_;rintro e w' ⟨rfl,rfl⟩;by_cases h3:t=255
        ·subst h3;go_wp2_with fail;refine(UStands W B z S ap F N T hZW An n cn hA HRK.out.small HRK.out.name h12).mono ?_;rintro e w4 ⟨hb4,bs,rfl,hbs⟩;have hbX:=hbW.trans (hb4.mono hbW.size);have hse:standsC F (lower n)=bs:=by
          cases hq:standsC F (lower n)with
          |true=>exact(hbs.2 ((standsC_iff F _).1 hq)).symm
          |false=>
           cases bs with
           |false=>rfl
           |true=>exact absurd ((standsC_iff F _).2 (hbs.1 rfl)) (by rw[hq];decide)
         clear hbs;cases bs with
         |true=>
          have hs:pre1 F ap ⟨n,255,255,0,d⟩=0:=by rw[HP];simp[h2,hse]
          have HS:=hid (HPR.out.1 hs);clear hs;go_wp2_with fail;refine(umust_yes 3 _).mono ?_;rintro e w' ⟨rfl,rfl⟩;go_wp2_with fail
          go_roundw
          case rel=>exact⟨rfl,k+1,hlt,by go_num,hbX,HS.out⟩
          case measure=>simp[intOf];omega
         |false=>
          have hs:pre1 F ap ⟨n,255,255,0,d⟩=3:=by rw[HP];simp[h2,hse]
          have HS:=hid (HPR.out.2 (by rw[hs];decide));rw[hs]at HS;clear hs;go_wp2_with fail;refine(umust_no 3 _).mono ?_;rintro e w' ⟨rfl,rfl⟩;go_wp2_with fail;exact⟨rfl,hbX,.inr ⟨by rw[HS.out];decide,by rw[HS.out]⟩⟩
        ·have h3b:(t==255)=false:=by simpa using h3
         go_wp2_with fail;refine(USet W B z S ap F N T hZW An n cn t hA HRK.out.small HRK.out.name HRK.out.wf hT hsc).mono ?_;rintro e w4 ⟨hb4,rfl⟩;have hbX:=hbW.trans (hb4.mono hbW.size);cases hse:(F (lower n) t).isSome with
         |true=>
          have hs:pre1 F ap ⟨n,t,255,0,d⟩=0:=by rw[HP];simp[h2,h3,hse]
          have HS:=hid (HPR.out.1 hs);clear hs;go_wp2_with fail;refine(umust_yes 8 _).mono ?_;rintro e w' ⟨rfl,rfl⟩;go_wp2_with fail
          go_roundw
          case rel=>exact⟨rfl,k+1,hlt,by go_num,hbX,HS.out⟩
          case measure=>simp[intOf];omega
         |false=>
          have hs:pre1 F ap ⟨n,t,255,0,d⟩=8:=by rw[HP];simp[h2,h3,hse]
          have HS:=hid (HPR.out.2 (by rw[hs];decide));rw[hs]at HS;clear hs;go_wp2_with fail;refine(umust_no 8 _).mono ?_;rintro e w' ⟨rfl,rfl⟩;go_wp2_with fail;exact⟨rfl,hbX,.inr ⟨by rw[HS.out];decide,by rw[HS.out]⟩⟩
       ·have h2b:((d.length:Int)==0)=false:=by rw[beq_eq_false_iff_ne];omega
        have hs:pre1 F ap ⟨n,t,255,0,d⟩=1:=by rw[HP];simp[h2]
        have HS:=hid (HPR.out.2 (by rw[hs];decide));rw[hs]at HS;clear hs;go_wp2_with fail;refine(umust_no 1 _).mono ?_;rintro e w' ⟨rfl,rfl⟩;go_wp2_with fail;exact⟨rfl,hbW,.inr ⟨by rw[HS.out];decide,by rw[HS.out]⟩⟩
      by_cases hc3:cl=254
      ·subst hc3;by_cases h2:d.length=0
       ·have h2b:((d.length:Int)==0)=true:=by simp[h2]
        go_wp2_with fail;refine(umust_yes 1 _).mono ?_;rintro e w' ⟨rfl,rfl⟩;by_cases h3:t=255
        ·subst h3;go_wp2_with fail;refine(UStands W B z S ap F N T hZW An n cn hA HRK.out.small HRK.out.name h12).mono ?_;rintro e w4 ⟨hb4,bs,rfl,hbs⟩;have hbX:=hbW.trans (hb4.mono hbW.size);have hse:standsC F (lower n)=bs:=by
          cases hq:standsC F (lower n)with
          |true=>exact(hbs.2 ((standsC_iff F _).1 hq)).symm
          |false=>
           cases bs with
           |false=>rfl
           |true=>exact absurd ((standsC_iff F _).2 (hbs.1 rfl)) (by rw[hq];decide)
         clear hbs;cases bs with
         |true=>
          have hs:pre1 F ap ⟨n,255,254,0,d⟩=6:=by rw[HP];simp[h2,hse]
          have HS:=hid (HPR.out.2 (by rw[hs];decide));rw[hs]at HS;clear hs;go_wp2_with fail;refine(umust_no 6 _).mono ?_;rintro e w' ⟨rfl,rfl⟩;go_wp2_with fail;exact⟨rfl,hbX,.inr ⟨by rw[HS.out];decide,by rw[HS.out]⟩⟩
         |false=>
          have hs:pre1 F ap ⟨n,255,254,0,d⟩=0:=by rw[HP];simp[h2,hse]
          have HS:=hid (HPR.out.1 hs);clear hs;go_wp2_with fail;refine(umust_yes 6 _).mono ?_;rintro e w' ⟨rfl,rfl⟩;go_wp2_with fail
          go_roundw
          case rel=>exact⟨rfl,k+1,hlt,by go_num,hbX,HS.out⟩
          case measure=>simp[intOf];omega
        ·have h3b:(t==255)=false:=by simpa using h3
         go_wp2_with fail;refine(USet W B z S ap F N T hZW An n cn t hA HRK.out.small HRK.out.name HRK.out.wf hT hsc).mono ?_;rintro e w4 ⟨hb4,rfl⟩;have hbX:=hbW.trans (hb4.mono hbW.size);cases hse:(F (lower n) t).isSome with
         |true=>
          have hs:pre1 F ap ⟨n,t,254,0,d⟩=7:=by rw[HP];simp[h2,h3,hse]
          have HS:=hid (HPR.out.2 (by rw[hs];decide));rw[hs]at HS;clear hs;go_wp2_with fail;refine(umust_no 7 _).mono ?_;rintro e w' ⟨rfl,rfl⟩;go_wp2_with fail;exact⟨rfl,hbX,.inr ⟨by rw[HS.out];decide,by rw[HS.out]⟩⟩
         |false=>
          have hs:pre1 F ap ⟨n,t,254,0,d⟩=0:=by rw[HP];simp[h2,h3,hse]
          have HS:=hid (HPR.out.1 hs);clear hs;go_wp2_with fail;refine(umust_yes 7 _).mono ?_;rintro e w' ⟨rfl,rfl⟩;go_wp2_with fail
          go_roundw
          case rel=>exact⟨rfl,k+1,hlt,by go_num,hbX,HS.out⟩
          case measure=>simp[intOf];omega
       ·have h2b:((d.length:Int)==0)=false:=by rw[beq_eq_false_iff_ne];omega
        have hs:pre1 F ap ⟨n,t,254,0,d⟩=1:=by rw[HP];simp[h2]
        have HS:=hid (HPR.out.2 (by rw[hs];decide));rw[hs]at HS;clear hs;go_wp2_with fail;refine(umust_no 1 _).mono ?_;rintro e w' ⟨rfl,rfl⟩;go_wp2_with fail;exact⟨rfl,hbW,.inr ⟨by rw[HS.out];decide,by rw[HS.out]⟩⟩
      have hs:pre1 F ap ⟨n,t,cl,0,d⟩=1:=by rw[HP];simp[hc2,hc3]
      have b1:(cl==1)=false:=by simpa using hrc
      have b2:(cl==255)=false:=by simpa using hc2
      have b3:(cl==254)=false:=by simpa using hc3
      have HS:=hid (HPR.out.2 (by rw[hs];decide));rw[hs]at HS;clear hs;go_wp2_with fail;refine(umust_no 1 _).mono ?_;rintro e w' ⟨rfl,rfl⟩;go_wp2_with fail;exact⟨rfl,hbW,.inr ⟨by rw[HS.out];decide,by rw[HS.out]⟩⟩
   ·have h1b:(ttl==0)=false:=by simpa using h1
    have hs:pre1 F ap ⟨n,t,cl,ttl,d⟩=1:=by unfold pre1;rw[if_pos h1]
    have HS:=hid (HPR.out.2 (by rw[hs];decide));rw[hs]at HS;clear hs;go_wp2_with fail;refine(umust_no 1 _).mono ?_;rintro e w' ⟨rfl,rfl⟩;go_wp2_with fail;exact⟨rfl,hb1,.inr ⟨by rw[HS.out];decide,by rw[HS.out]⟩⟩
  ·have HZ0:Hid (firstC (pre1 F ap) (us.map UcB.says)=0):=hid (firstC_zero fun r hr=>by
    obtain⟨u,hu,rfl⟩:=List.mem_map.1 hr;obtain⟨j,hj,rfl⟩:=List.mem_iff_getElem.1 hu;exact hpre j hj (by omega))
   clear hpre;go_wp2_with fail;refine wp_loop_rounds 1 ?_;rw[rounds_succ];go_wp2_with fail
   go_end0
   exact⟨hb,.inl ⟨HZ0.out,rfl⟩⟩
def toldL(n:List Lab)(t ttl:Nat)(d:Lab):Lab:=wire n++(be2 t++be4 ttl)++d
def bytesF(l:Lab):Fact:=⟨fun v W=>∃A c,v=.slice A l.length c∧Cs W A (l.map byteV),by
 rintro v W W' hE ⟨A,c,h1,h2⟩;exact⟨A,c,h1,h2.below hE⟩⟩
theorem bytesF_own{W:World}{B m:Nat}{v:Value}{l:Lab}(h:W.ownsRow B 5 1 v m (l.map byteV)):(bytesF l).p v W:=by
 obtain⟨A,c,rfl,h1,h2⟩:=own_form h;have hm:m=l.length:=by have:=h.1;simp at this;omega
 subst hm;exact⟨A,c,rfl,(cs_own h).2⟩
theorem UTold(w:World)(An:Option Addr)(n:List Lab)(cn:Nat)(t ttl:Nat)(cl:Int)(Ad:Option Addr)(d:Lab)(cd:Nat)(hAn:Cs w An (n.map strV))(hAd:Cs w Ad (d.map byteV))(hn:Small n)(ht:t < 65536)(htt:ttl < 4294967296)(hd:d.length≤100000):
 Calls prog 192 #[.agg #[.slice An n.length cn,.int .u16 (t:Int),.int .u16 cl,.int .u32 (ttl:Int),.slice Ad d.length cd]] w fun e w'=>e=.returned (strV (toldL n t ttl d))∧Below w.heap.size w w':=by
 have HA:=hid (And.intro hAn (And.intro hAd hn));clear hAn hAd hn;go_enter func192,ntmps192
 go_upto_region 1 with fail
 have hb1:Below w.heap.size w (w.alloc (.cells #[.slice An n.length cn,.int .u16 (t:Int),.int .u16 cl,.int .u32 (ttl:Int),.slice Ad d.length cd] 39)):=bAl;have hg1:=heap_alloc_new w (.cells #[.slice An n.length cn,.int .u16 (t:Int),.int .u16 cl,.int .u32 (ttl:Int),.slice Ad d.length cd] 39)
 generalize w.alloc (.cells #[.slice An n.length cn,.int .u16 (t:Int),.int .u16 cl,.int .u32 (ttl:Int),.slice Ad d.length cd] 39)=w1 at *;obtain⟨g0,g1,g2,g3,g4,_⟩:=cells5 hg1;have hgl:=lt_block hg1;clear hg1
 refine wp_region_m3 mixed0 (by kernel_rfl) [.is (.pointer (some ⟨w.heap.size,0,none⟩)),.is (.slice An n.length cn),bytesF (wire n),.is (.pointer (some ⟨w.heap.size,1,none⟩)),.is (.int .u16 (t:Int)),.is (.int .u16 ((t / 256:Nat):Int)),.is (.int .u8 ((t / 256 %256:Nat):Int)),.is (.pointer (some ⟨w.heap.size,1,none⟩)),.is (.int .u16 (t:Int)),.is (.int .u8 ((t %256:Nat):Int)),.is (.pointer (some ⟨w.heap.size,3,none⟩)),.is (.int .u32 (ttl:Int)),.is (.int .u32 ((ttl / 16777216:Nat):Int)),.is (.int .u8 ((ttl / 16777216 %256:Nat):Int)),.is (.pointer (some ⟨w.heap.size,3,none⟩)),.is (.int .u32 (ttl:Int)),.is (.int .u32 ((ttl / 65536:Nat):Int)),.is (.int .u8 ((ttl / 65536 %256:Nat):Int)),.is (.pointer (some ⟨w.heap.size,3,none⟩)),.is (.int .u32 (ttl:Int)),.is (.int .u32 ((ttl / 256:Nat):Int)),.is (.int .u8 ((ttl / 256 %256:Nat):Int)),.is (.pointer (some ⟨w.heap.size,3,none⟩)),.is (.int .u32 (ttl:Int)),.is (.int .u8 ((ttl %256:Nat):Int)),bytesF (be2 t++be4 ttl),.is (.pointer (some ⟨w.heap.size,4,none⟩)),.is (.slice Ad d.length cd),blobsF [wire n,be2 t++be4 ttl,d],bytesF (toldL n t ttl d),.is (strV (toldL n t ttl d)),.is (strV (toldL n t ttl d))] (fun _ _ _ _=>True) ?_ ?_
 ·intro i o hio L vals W lo hi hJ hd;have hE:=hJ.C;have haf:=fun(e:Edge) (he:e∈o.after) (hb:Region.binds .any e=true)=>hJ.f e.on (hd e he hb);have e0:=(bcl (o:=0) hE hgl).trans g0;have e1:=(bcl (o:=1) hE hgl).trans g1;have e3:=(bcl (o:=3) hE hgl).trans g3;have e4:=(bcl (o:=4) hE hgl).trans g4;have hbW:Below w.heap.size w W:=hb1.trans (hE.mono hb1.size)
  rcases i with _|_|_|_|_|_|_|_|_|_|_|_|_|_|_|_|_|_|_|_|_|_|_|_|_|_|_|_|_|_|_|_|i
  all_goals first
   |(exfalso;simp at hio;done)
   |(simp at hio;subst hio;simp[Region.binds,factAt]at haf;simp[opU,go_sem,haf,e0,e1,e3,e4,Ext.refl,factAt,wrap8];done)
   |skip
  all_goals
   simp at hio;subst hio;simp[Region.binds,factAt]at haf
  ·simp[opU,go_sem,haf,e0,e1,e3,e4,Ext.refl,factAt,wrap8];refine(Wire An n cn W (HA.out.1.below hbW) HA.out.2.2).mono fun e W' h=> ?_;obtain⟨v,h1,h2,h3⟩:=h;exact⟨v,h1,h3,bytesF_own h2⟩
  ·obtain⟨h6,h9,h13,h17,h21,h24⟩:=haf;simp[opU,go_sem,h6,h9,h13,h17,h21,h24,factAt];have hcs:=cs_new W 5 [.int .u8 ((t:Int) / 256 %256),.int .u8 ((t:Int) %256),.int .u8 ((ttl:Int) / 16777216 %256),.int .u8 ((ttl:Int) / 65536 %256),.int .u8 ((ttl:Int) / 256 %256),.int .u8 ((ttl:Int) %256)] (0,0)
   have hmp:(be2 t++be4 ttl).map byteV=[.int .u8 ((t:Int) / 256 %256),.int .u8 ((t:Int) %256),.int .u8 ((ttl:Int) / 16777216 %256),.int .u8 ((ttl:Int) / 65536 %256),.int .u8 ((ttl:Int) / 256 %256),.int .u8 ((ttl:Int) %256)]:=by
    unfold be2 be4;simp only[List.cons_append,List.nil_append,List.map_cons,List.map_nil,byteV_mod];simp
   refine⟨bAl,some ⟨W.heap.size,0,none⟩,6,rfl, ?_⟩;rw[hmp];exact hcs
  ·obtain⟨⟨A5,c5,e5,hc5⟩,⟨A28,c28,e28,hc28⟩,h27⟩:=haf;simp[opU,go_sem,e5,e28,h27,factAt];have hb5:Below W.heap.size W (W.alloc (.cells #[.slice A5 (wire n).length c5,.slice A28 (be2 t++be4 ttl).length c28,.slice Ad d.length cd] 37)):=bAl
   refine⟨hb5,some ⟨W.heap.size,0,none⟩,[⟨A5,wire n,c5⟩,⟨A28,be2 t++be4 ttl,c28⟩,⟨Ad,d,cd⟩],rfl, ?_,rfl, ?_⟩
   ·exact cs_new W 37 [.slice A5 (wire n).length c5,.slice A28 (be2 t++be4 ttl).length c28,.slice Ad d.length cd] (0,0)
   ·intro z hz;rcases List.mem_cons.1 hz with rfl|hz
    ·exact Cs.below (w:=W) hc5 hb5
    ·rcases List.mem_cons.1 hz with rfl|hz
     ·exact Cs.below (w:=W) hc28 hb5
     ·rcases List.mem_cons.1 hz with rfl|hz
      ·exact(HA.out.2.1.below hbW).below hb5
      ·cases hz
  ·rw[blobs_p]at haf;obtain⟨⟨A9,bs,h1,h2,h3,h4⟩,_⟩:=haf;simp[opU,go_sem,h1,factAt];have hbl:bs.length=3:=by have:=congrArg List.length h3;simpa using this
   have hj:join bs=toldL n t ttl d:=by rw[join_of h3];simp[toldL]
   have hwl:=wire_small HA.out.2.2;have hcc:=Concat A9 bs 3 W h2 h4 (by omega) (by rw[hj];simp[toldL,be2,be4];omega);rw[hbl]at hcc;refine hcc.mono fun e W' h5=> ?_;obtain⟨v,he,ho,hb⟩:=h5;rw[hj]at ho;exact⟨v,he,hb,bytesF_own ho⟩
  ·obtain⟨A9,c9,h1,h2⟩:=haf;have hrs:=run_str W underlying37 underlying5 underlying9 c9 h2;simp[opU,go_sem,h1,hrs,factAt,Ext.refl];rfl
 ·intro vals W lo hi hD;have f31:vals 31=strV (toldL n t ttl d):=hD.f 31 (by decide);have hE:Below w1.heap.size w1 W:=hD.C;clear hD;simp[relAct,dstAt,Act.put];rw[f31];have hF:=hb1.trans (hE.mono hb1.size);clear hE f31 g0 g1 g2 g3 g4;go_wp2_with fail;go_ret;exact⟨rfl,hF⟩
abbrev Says:=List Lab×Int×Int×Lab
def toldI(x:Says):Lab:=toldL x.1 x.2.1.toNat x.2.2.1.toNat x.2.2.2
structure ROk(x:Says):Prop where
 small:Small x.1
 name:nameE x.1=0
 t0:0≤x.2.1
 t1:x.2.1 < 65536
 l0:0≤x.2.2.1
 l1:x.2.2.1 < 4294967296
 len:x.2.2.2.length≤100000
theorem be_inj{t t' l l':Nat}{d d':Lab}(ht:t < 65536)(ht':t' < 65536)(hl:l < 4294967296)(hl':l' < 4294967296)(h:(be2 t++be4 l)++d=(be2 t'++be4 l')++d'):t=t'∧l=l'∧d=d':=by
 unfold be2 be4 at h;simp only[List.cons_append,List.nil_append,List.cons.injEq]at h;obtain⟨h1,h2,h3,h4,h5,h6,h7⟩:=h;have k:∀{a b:Nat},UInt8.ofNat a=UInt8.ofNat b→a %256=b %256:=fun{a b} e=>by
  have:=congrArg UInt8.toNat e;simpa[UInt8.toNat_ofNat']using this
 have k1:=k h1;have k2:=k h2;have k3:=k h3;have k4:=k h4;have k5:=k h5;have k6:=k h6;exact⟨by omega,by omega,h7⟩
theorem toldI_inj{x y:Says}(hx:ROk x)(hy:ROk y)(h:toldI x=toldI y):x=y:=by
 obtain⟨n,t,l,d⟩:=x;obtain⟨n',t',l',d'⟩:=y;unfold toldI toldL at h;simp only[List.append_assoc]at h;have p1:=parse_wire n ((be2 t.toNat++(be4 l.toNat++d))) (nameE_zero.1 hx.name).1;have p2:=parse_wire n' ((be2 t'.toNat++(be4 l'.toNat++d'))) (nameE_zero.1 hy.name).1;rw[h,p2]at p1;have e1:n=n':=by injection p1 with p1;injection p1 with p1 _;exact p1.symm
 subst e1;have h2:=List.append_cancel_left h;rw[←List.append_assoc,←List.append_assoc]at h2;have a1:0≤t:=hx.t0;have a2:t < 65536:=hx.t1;have a3:0≤l:=hx.l0;have a4:l < 4294967296:=hx.l1;have b1:0≤t':=hy.t0;have b2:t' < 65536:=hy.t1;have b3:0≤l':=hy.l0;have b4:l' < 4294967296:=hy.l1;obtain⟨e2,e3,e4⟩:=be_inj (by omega) (by omega) (by omega) (by omega) h2;have e2:t=t':=by omega
 have e3:l=l':=by omega
 rw[e2,e3,e4]
abbrev ChB:=Bool×RcB
def chCells(x:ChB):List Value:=.bool x.1::x.2.cells
structure ChV(w:World)(B Bo:Nat)(v:Value)(xs:List ChB):Prop where
 row:w.ownsRow B 132 6 v xs.length (xs.flatMap chCells)
 own:∀x∈xs,x.2.own w Bo
theorem info_change:(prog.info? 132).map (fun i=>(i.zero,i.size,i.bytes))=some (some (.agg #[.bool false,.slice none 0 0,.int .u16 0,.int .u16 0,.int .u32 0,.slice none 0 0]),6,64):=by kernel_rfl
theorem flatR(rs:List RcB)(i:Nat)(hi:i < rs.length)(k:Nat)(hk:k < 5):(rs.flatMap RcB.cells)[i *5+k]? =(rs[i].cells)[k]?:=by
 induction rs generalizing i with
 |nil=>simp at hi
 |cons r rs ih=>
  rw[List.flatMap_cons];have hl:r.cells.length=5:=rfl;cases i with
  |zero=>rw[List.getElem?_append_left (by omega)];simp
  |succ i=>
   rw[List.getElem?_append_right (by omega),hl,show(i+1) *5+k - 5=i *5+k from by omega];simpa using ih i (by simpa using hi)
theorem RecsV.at{w:World}{B:Nat}{A:Option Addr}{n c:Nat}{us:List RcB}(h:RecsV w B (.slice A n c) us){k:Nat}(hk:k < us.length):∃b off,A=some ⟨b,off,none⟩∧b < w.heap.size∧
 w.cell? ⟨b,off+k *5,none⟩=some us[k].nm.v∧w.cell? ⟨b,off+k *5+1,none⟩=some (.int .u16 us[k].t)∧w.cell? ⟨b,off+k *5+2,none⟩=some (.int .u16 1)∧w.cell? ⟨b,off+k *5+3,none⟩=some (.int .u32 us[k].ttl)∧w.cell? ⟨b,off+k *5+4,none⟩=some us[k].d.v:=by
 have hC:=cs_own2 h.row;obtain⟨b,off,rfl,hb,h0⟩:=hC (k *5+0) us[k].nm.v (by rw[flatR us k hk 0 (by omega)];rfl);obtain⟨_,_,e,_,h1⟩:=hC (k *5+1) (.int .u16 us[k].t) (by rw[flatR us k hk 1 (by omega)];rfl);cases e;obtain⟨_,_,e,_,h2⟩:=hC (k *5+2) (.int .u16 1) (by rw[flatR us k hk 2 (by omega)];rfl);cases e
 obtain⟨_,_,e,_,h3⟩:=hC (k *5+3) (.int .u32 us[k].ttl) (by rw[flatR us k hk 3 (by omega)];rfl);cases e;obtain⟨_,_,e,_,h4⟩:=hC (k *5+4) us[k].d.v (by rw[flatR us k hk 4 (by omega)];rfl);cases e;rw[←Nat.add_assoc]at h0 h1 h2 h3 h4;exact⟨b,off,rfl,hb,h0,h1,h2,h3,h4⟩
theorem UToldR(w:World)(r:RcB)(hn:r.nm.ok w)(hd:r.d.ok w)(h:ROk r.says):
 Calls prog 192 #[.agg #[r.nm.v,.int .u16 r.t,.int .u16 1,.int .u32 r.ttl,r.d.v]] w fun e w'=>e=.returned (strV (toldI r.says))∧Below w.heap.size w w':=by
 obtain⟨⟨An,n,cn⟩,t,ttl,⟨Ad,d,cd⟩⟩:=r;have a1:0≤t:=h.t0;have a2:t < 65536:=h.t1;have a3:0≤ttl:=h.l0;have a4:ttl < 4294967296:=h.l1;have h1:=UTold w An n cn t.toNat ttl.toNat 1 Ad d cd hn hd h.small (by omega) (by omega) h.len;rw[show((t.toNat:Nat):Int)=t by omega,show((ttl.toNat:Nat):Int)=ttl by omega]at h1;exact h1
theorem toldI_len{x:Says}(h:ROk x):(toldI x).length≤maxLen:=by
 have h1:=wire_small h.small;have h2:=h.len;unfold toldI toldL;unfold maxLen;simp[be2,be4];omega
theorem UWithout(w:World)(A B:Option Addr)(ca cb:Nat)(rs ms:List RcB)(Br:Nat)(hr:RecsV w Br (.slice A rs.length ca) rs)(hm:RecsV w Br (.slice B ms.length cb) ms)(hrl:rs.length≤3000)(hml:ms.length≤3000)(hrk:∀r∈rs,ROk r.says)(hmk:∀r∈ms,ROk r.says)(pt:Bool):
 Calls prog 145 #[.slice A rs.length ca,.slice B ms.length cb,.bool pt] w fun e w'=>Below w.heap.size w w'∧∃v,∃xs:List ChB,e=.returned v∧ChV w' w.heap.size Br v xs∧xs=(rs.filter fun r=>decide (toldI r.says∉ms.map fun r=>toldI r.says)).map fun r=>(pt,r):=by
 obtain⟨i0,hi0,hz0,hz1,hz2⟩:=info_parts info_change;have hmm:= @run_makeMap prog;have HR:=hid hr;have HM:=hid hm;have HRK:=hid hrk;have HMK:=hid hmk;obtain⟨L,hL⟩:∃L,(ms.map fun r=>toldI r.says)=L:=⟨_,rfl⟩
 have HL:=hid hL;rw[hL];clear hr hm hrk hmk hL;have b1:Below w.heap.size w (w.alloc (.map #[] 0)):=bAl;have m1:=ownsMap_empty (heap_alloc_new w (.map #[] 0)) 9 (plainElem prog 3);have s1:w.heap.size < (w.alloc (.map #[] 0)).heap.size:=by simp
 go_enter func145,ntmps145;go_wp2_with fail;generalize w.alloc (.map #[] 0)=w1 at *;have HM1:=hid m1;clear m1
 go_loopw [16] (fun i wr=>∃(j:Nat) (E:DataW Unit),j≤ms.length∧i=.int .i64 (j:Int)∧wr.ownsMap prog 9 (plainElem prog 3) w.heap.size j E∧Seen E (fun k=>if k∈L.take j then 1 else 0)∧Kept (fun k=>k=w.heap.size) w1 wr) (fun i _=>ms.length - (intOf i).toNat)
 case atStart=>exact⟨0,_,Nat.zero_le _,rfl,HM1.out,by simpa using seen_empty,Kept.refl _ _⟩
 case round=>
  obtain⟨j,E,hj,rfl,hmp,hsn,hkp⟩:=hrel;have hbr:Below w.heap.size w wr:=b1.trans (hkp.below (Nat.le_of_lt s1) (fun k hk e=>by omega));by_cases hlt:j < ms.length
  ·obtain⟨bu,off,rfl,hbu,r0,r1,r2,r3,r4⟩:=(HM.out.below hbr).at hlt;have hro:=HM.out.own _ (List.getElem_mem hlt);have hrk:=HMK.out _ (List.getElem_mem hlt);have hLj:L[j]? =some (toldI ms[j].says):=by rw[←HL.out,List.getElem?_map,List.getElem?_eq_getElem hlt];rfl
   generalize ms[j]=r at *;have HLJ:=hid hLj;have hnok:r.nm.ok w:=(cs_own hro.1).2;have hdok:r.d.ok w:=(cs_own hro.2).2;have b2:Below wr.heap.size wr (wr.alloc (.cells #[r.nm.v,.int .u16 r.t,.int .u16 1,.int .u32 r.ttl,r.d.v] 39)):=bAl;have g0:=heap_alloc_new wr (.cells #[r.nm.v,.int .u16 r.t,.int .u16 1,.int .u32 r.ttl,r.d.v] 39)
   have hmp2:=ownsMap_block hmp (b2.block _ hmp.lt);have hb12:Below w.heap.size w (wr.alloc (.cells #[r.nm.v,.int .u16 r.t,.int .u16 1,.int .u32 r.ttl,r.d.v] 39)):=hbr.trans (b2.mono hbr.size);have HT:=hid (UToldR _ r (Cs.below (w:=w) hnok hb12) (Cs.below (w:=w) hdok hb12) hrk);have HS:=hid (And.intro hsn (And.intro hkp (And.intro b2 hmp2)));have HRKJ:=hid hrk
   obtain⟨⟨An,n,cn⟩,t,ttl,⟨Ad,d,cd⟩⟩:=r;simp only[NmB.v,Blob.v]at r0 r1 r2 r3 r4 g0 HT b2 HS;clear hsn hkp hro hrk hLj hmp hmp2 hnok hdok hb12 hbr b2
   go_upto_region 5 with fail
   generalize wr.alloc (.cells #[.slice An n.length cn,.int .u16 t,.int .u16 1,.int .u32 ttl,.slice Ad d.length cd] 39)=w2 at *;obtain⟨c0,c1,c2,c3,c4,_⟩:=cells5 g0;clear g0 r0 r1 r2 r3 r4;go_wp2_with fail;refine HT.out.mono ?_;rintro e w3 ⟨rfl,hb3⟩;obtain⟨key,hkey⟩:∃key,toldI (⟨⟨An,n,cn⟩,t,ttl,⟨Ad,d,cd⟩⟩:RcB).says=key:=⟨_,rfl⟩
   have hkl:key.length≤maxLen:=by rw[←hkey];exact toldI_len HRKJ.out
   have hLk:L[j]? =some key:=by rw[HLJ.out,hkey]
   rw[hkey];have hmp3:=ownsMap_block HS.out.2.2.2 (hb3.block _ HS.out.2.2.2.lt);have HMP3:=hid hmp3;have HK:=hid (And.intro hkl hLk);have hgl:w.heap.size < w3.heap.size:=hmp3.lt;clear hmp3 hkey hkl hLk HT
   go_wp2_with (first|(at_mapUpdate;refine wpList_mapUpdate_own _ rfl _ _ _ 101 rfl 9 3 keyS underlying101 (plainElem prog 3) w.heap.size j E rfl HMP3.out (by unfold maxLen;omega) (strV key) (.int .i64 1) (.string key) rfl rfl (keyOf_str key HK.out.1) (.lit (.int .i64 1)) [] (plainElem_int underlying3 (by decide)) ?_;intro w4 hown4 hg4))
   have hs4:=HS.out.1.put HMP3.out.isMap key 1;have hk4:Kept (fun k=>k=w.heap.size) w1 w4:=(HS.out.2.1.trans (((Kept.of_ext HS.out.2.2.1).mono (fun _ _ h=>h.elim)).trans ((Kept.of_ext hb3).mono (fun _ _ h=>h.elim)))).trans ((Kept.of_grown hg4).mono fun k _ e=>by injection e);have hse:(fun k:Lab=>if k∈L.take (j+1)then(1:Int)else 0)=fun m=>if m=key then 1 else if m∈L.take j then 1 else 0:=by
    funext m;have:L.take (j+1)=L.take j++[key]:=by rw[List.take_add_one,HK.out.2];rfl
    rw[this];by_cases e:m=key
    ·subst e;simp
    ·simp[e]
   rw[←hse]at hs4;have HREL:=hid (And.intro hown4 (And.intro hs4 hk4));clear hown4 hs4 hk4 hse hg4;go_wp2_with fail
   go_roundw
   case rel=>exact⟨j+1,_,hlt,by go_num,HREL.out.1,HREL.out.2.1,HREL.out.2.2⟩
   case measure=>simp[intOf];omega
  ·have hjm:j=ms.length:=by omega
   have htk:L.take j=L:=by
    rw[hjm];refine List.take_of_length_le ?_;rw[←HL.out,List.length_map];exact Nat.le_refl _
   rw[htk]at hsn;have HS:=hid (And.intro hsn (And.intro hkp (And.intro hmp hbr)));have hmlt:w.heap.size < wr.heap.size:=hmp.lt;clear hsn hkp hmp hbr htk hjm;go_wp2_with fail;generalize wr=w5 at *
   go_loopw [10,26] (fun v i wr=>∃(q:Nat) (xs:List ChB),q≤rs.length∧i=.int .i64 (q:Int)∧wr.ownsRow w5.heap.size 132 6 v xs.length (xs.flatMap chCells)∧xs=((rs.take q).filter fun r=>decide (toldI r.says∉L)).map (fun r=>(pt,r))∧Below w5.heap.size w5 wr) (fun _ i _=>rs.length - (intOf i).toNat)
   case atStart=>exact⟨0,[],Nat.zero_le _,rfl,World.ownsRow_nil _ _ _ _,rfl,Below.refl _ _⟩
   case round=>
    obtain⟨q,xs,hq,rfl,hch,hxs,hbq⟩:=hrel;have hbwq:Below w.heap.size w wr:=HS.out.2.2.2.trans (hbq.mono HS.out.2.2.2.size);obtain⟨Ax,cx,rfl,_⟩:=own_form hch;have hxl:xs.length≤rs.length:=by
     rw[hxs,List.length_map];exact Nat.le_trans (List.length_filter_le _ _) (by rw[List.length_take];omega)
    by_cases hlt2:q < rs.length
    ·obtain⟨bu,off,rfl,hbu,r0,r1,r2,r3,r4⟩:=(HR.out.below hbwq).at hlt2;have hro:=HR.out.own _ (List.getElem_mem hlt2);have hrk:=HRK.out _ (List.getElem_mem hlt2);have htk:rs.take (q+1)=rs.take q++[rs[q]]:=by rw[List.take_add_one,List.getElem?_eq_getElem hlt2];rfl
     generalize rs[q]=r at *;have HTK:=hid htk;have hnok:r.nm.ok w:=(cs_own hro.1).2;have hdok:r.d.ok w:=(cs_own hro.2).2;have b2:Below wr.heap.size wr (wr.alloc (.cells #[r.nm.v,.int .u16 r.t,.int .u16 1,.int .u32 r.ttl,r.d.v] 39)):=bAl;have g0:=heap_alloc_new wr (.cells #[r.nm.v,.int .u16 r.t,.int .u16 1,.int .u32 r.ttl,r.d.v] 39)
     have hb12:Below w.heap.size w (wr.alloc (.cells #[r.nm.v,.int .u16 r.t,.int .u16 1,.int .u32 r.ttl,r.d.v] 39)):=hbwq.trans (b2.mono hbwq.size);have HT:=hid (UToldR _ r (Cs.below (w:=w) hnok hb12) (Cs.below (w:=w) hdok hb12) hrk);have hbq2:Below w5.heap.size w5 (wr.alloc (.cells #[r.nm.v,.int .u16 r.t,.int .u16 1,.int .u32 r.ttl,r.d.v] 39)):=hbq.trans (b2.mono hbq.size)
     have hch2:=own_below hch b2;have HQ:=hid (And.intro hxs (And.intro hbq2 hch2));obtain⟨key,hkey⟩:∃key,toldI r.says=key:=⟨_,rfl⟩
     have hkl:key.length≤maxLen:=by rw[←hkey];exact toldI_len hrk
     have HK:=hid (And.intro hkl hkey);rw[hkey]at HT;obtain⟨r5,hr5⟩:∃r5,r=r5:=⟨_,rfl⟩
     have HR5:=hid hr5;obtain⟨⟨An,n,cn⟩,t,ttl,⟨Ad,d,cd⟩⟩:=r;simp only[NmB.v,Blob.v]at r0 r1 r2 r3 r4 g0 HT HQ hbq2;have hwq2:=hbq2.size;clear hxs hro hrk htk hnok hdok hb12 b2 hbq hkey hkl hch2 hch hr5
     go_upto_region 11 with fail
     generalize wr.alloc (.cells #[.slice An n.length cn,.int .u16 t,.int .u16 1,.int .u32 ttl,.slice Ad d.length cd] 39)=w2 at *;obtain⟨c0,c1,c2,c3,c4,_⟩:=cells5 g0;have hgl:=lt_block g0;clear g0 r0 r1 r2 r3 r4;go_wp2_with fail;refine HT.out.mono ?_;rintro e w3 ⟨rfl,hb3⟩;have hb03:Below w5.heap.size w5 w3:=HQ.out.2.1.trans (hb3.mono hwq2)
     have hlk:=look_int (ownsMap_block HS.out.2.2.1 (hb03.block _ HS.out.2.2.1.lt)) HS.out.1 key HK.out.1;have d0:=(bcl (o:=0) hb3 hgl).trans c0;have d1:=(bcl (o:=1) hb3 hgl).trans c1;have d2:=(bcl (o:=2) hb3 hgl).trans c2;have d3:=(bcl (o:=3) hb3 hgl).trans c3;have d4:=(bcl (o:=4) hb3 hgl).trans c4;have hw3:w5.heap.size≤w3.heap.size:=hb03.size
     have HQ3:=hid (And.intro hb03 (own_below HQ.out.2.2 hb3));clear c0 c1 c2 c3 c4 hb03 hb3 HT;by_cases hin:key∈L
     ·rw[if_pos hin]at hlk;have HX:Hid (xs=((rs.take (q+1)).filter fun r=>decide (toldI r.says∉L)).map (fun r=>(pt,r))):=hid (by
       rw[HTK.out,List.filter_append,List.filter_cons,if_neg (by rw[HK.out.2];simpa using hin)];simpa using HQ.out.1)
      clear hin;go_wp2_with fail
      go_roundw
      case rel=>first|exact⟨q+1,xs,hlt2,by go_num,HQ3.out.2,HX.out,HQ3.out.1⟩|((repeat apply Exists.intro);exact⟨⟨q+1,xs,hlt2,by go_num,HQ3.out.2,HX.out,HQ3.out.1⟩,rfl⟩)
      case measure=>simp[intOf];omega
     ·rw[if_neg hin]at hlk;have HX:Hid (xs++[(pt,r5)]=((rs.take (q+1)).filter fun r=>decide (toldI r.says∉L)).map (fun r=>(pt,r))):=hid (by
       rw[HTK.out,List.filter_append,List.filter_cons,if_pos (by rw[HK.out.2];simpa using hin),HR5.out,List.map_append,←HQ.out.1];rfl)
      have hcc:chCells (pt,r5)=[.bool pt,.slice An n.length cn,.int .u16 t,.int .u16 1,.int .u32 ttl,.slice Ad d.length cd]:=by rw[←HR5.out];rfl
      have HCC:=hid hcc;clear hin hcc
      go_wp2_with (first|(at_builtin;refine wpList_push3 HQ3.out.2 hw3 [.bool pt,.slice An n.length cn,.int .u16 t,.int .u16 1,.int .u32 ttl,.slice Ad d.length cd] rfl (by simp[Value.oneCell']) hi0 hz0 hz1 hz2 rfl (by decide) rfl (.tmp 35) _ 82 underlying82 rfl rfl rfl (by unfold maxLen;omega) (by omega) ?_;intro v4 w4 hown4 hmv4))
      have hb4:Below w5.heap.size w5 w4:=HQ3.out.1.trans (hmv4.below HQ3.out.2 hw3);have HREL:=hid (And.intro hown4 hb4);clear hown4 hb4 hmv4;go_wp2_with fail
      go_roundw
      case rel=>
       have h1:w4.ownsRow w5.heap.size 132 6 v4 (xs++[(pt,r5)]).length ((xs++[(pt,r5)]).flatMap chCells):=by
        have:=HREL.out.1;rw[←HCC.out]at this;rw[List.length_append,List.flatMap_append];simpa using this
       first|exact⟨q+1,xs++[(pt,r5)],hlt2,by go_num,h1,HX.out,HREL.out.2⟩|((repeat apply Exists.intro);exact⟨⟨q+1,xs++[(pt,r5)],hlt2,by go_num,h1,HX.out,HREL.out.2⟩,rfl⟩)
      case measure=>simp[intOf];omega
    ·have hqe:q=rs.length:=by omega
     have HX:=hid (And.intro hxs (And.intro hch hbwq));clear hxs hch hbq hbwq;go_wp2_with fail;go_ret;refine⟨HX.out.2.2,_,xs,rfl,⟨own_base HX.out.2.1 (by have:=HS.out.2.2.2.size;omega),fun x hx=> ?_⟩, ?_⟩
     ·rw[HX.out.1]at hx;obtain⟨r,hr,rfl⟩:=List.mem_map.1 hx;have hr2:=HR.out.own r (List.mem_of_mem_take (List.mem_filter.1 hr).1);exact⟨own_below hr2.1 HX.out.2.2,own_below hr2.2 HX.out.2.2⟩
     ·rw[HX.out.1,hqe,List.take_length]
def TtlC(F:Cont):Prop:=∀n t ttl ds,F n t=some (ttl,ds)→0≤ttl∧ttl < 4294967296
def lessL(a b:List Says):List Says:=a.filter fun x=>decide (toldI x∉b.map toldI)
def diffL(a b:List Says):List (Bool×Says):=(lessL a b).map (fun x=>(false,x))++(lessL b a).map (fun x=>(true,x))
theorem filter_says(rs:List RcB)(M:List Lab):(rs.filter fun r=>decide (toldI r.says∉M)).map RcB.says=(rs.map RcB.says).filter fun x=>decide (toldI x∉M):=by
 rw[List.filter_map];rfl
theorem rok_of{w:World}{B z:Nat}{S:Nat→Prop}{ap:List Lab}{F:Cont}{N T:Nat}(h:Zo w B z S ap F N T)(hs:ShortC F)(ht:TtlC F){L:List PR}(hL:LstP F L){x:Says}(hx:x∈L.map PR.says):ROk x:=by
 obtain⟨p,hp,rfl⟩:=List.mem_map.1 hx;obtain⟨ds,h1,h2⟩:=(hL.mem p).1 hp;obtain⟨g1,g2,_⟩:=h.good h1;obtain⟨t1,t2⟩:=ht _ _ _ _ h1;have hw:0≤p.t∧p.t < 65536:=by
  simp[Lit.wf,IntKind.min,IntKind.max,IntKind.signed,IntKind.bits]at g2;omega
 exact⟨g1.small,g1.ok,hw.1,hw.2,t1,t2,hs _ _ _ _ h1 _ h2⟩
theorem diffL_nil{a b:List Says}(ha:∀x∈a,ROk x)(hb:∀x∈b,ROk x)(h:diffL a b=[]):∀x,x∈a↔x∈b:=by
 obtain⟨h1,h2⟩:=List.append_eq_nil_iff.1 h;have k:∀{a b:List Says},(∀x∈a,ROk x)→(∀x∈b,ROk x)→lessL a b=[]→∀x∈a,x∈b:=fun{a b} ha hb h x hx=>by
  have h3:=List.filter_eq_nil_iff.1 h x hx;simp only[decide_eq_true_eq,Decidable.not_not]at h3;obtain⟨y,hy,e⟩:=List.mem_map.1 h3;rw[←toldI_inj (hb y hy) (ha x hx) e];exact hy
 intro x;exact⟨k ha hb (List.map_eq_nil_iff.1 h1) x,k hb ha (List.map_eq_nil_iff.1 h2) x⟩
theorem chflat_len(xs:List ChB):(xs.flatMap chCells).length=xs.length *6:=by
 induction xs with
 |nil=>rfl
 |cons x xs ih=>
  have e:(chCells x).length=6:=rfl;rw[List.flatMap_cons,List.length_append,ih,e,List.length_cons];omega
theorem chflat_one(xs:List ChB):∀u∈xs.flatMap chCells,u.oneCell'=true:=by
 intro u hu;obtain⟨x,_,hx⟩:=List.mem_flatMap.1 hu;unfold chCells RcB.cells at hx;simp only[List.mem_cons,List.not_mem_nil,or_false]at hx;rcases hx with rfl|rfl|rfl|rfl|rfl|rfl <;> rfl
theorem UChanges(w:World)(B z B' z':Nat)(S S':Nat→Prop)(ap:List Lab)(F F':Cont)(N T N' T':Nat)(h:Zo w B z S ap F N T)(h':Zo w B' z' S' ap F' N' T')(hT:T≤1000)(hT':T'≤1000)(h12:Few12 F)(h12':Few12 F')(hs:ShortC F)(hs':ShortC F')(ht:TtlC F)(ht':TtlC F'):
 Calls prog 97 #[.pointer (some ⟨z,0,none⟩),.pointer (some ⟨z',0,none⟩)] w fun e w'=>Below w.heap.size w w'∧∃v,∃xs:List ChB,∃L L':List PR,e=.returned v∧ChV w' w.heap.size w.heap.size v xs∧LstP F L∧LstP F' L'∧xs.map (fun x=>(x.1,x.2.says))=diffL (L.map PR.says) (L'.map PR.says):=by
 obtain⟨i0,hi0,hz0,hz1,hz2⟩:=info_parts info_change;have HZ:=hid h;have HZ':=hid h';have HR:=hid (h.records (by omega) h12 hs);clear h h';go_enter func97,ntmps97;go_wp2_with fail;refine HR.out.mono ?_;rintro e w1 ⟨hb1,v1,rs,L,rfl,hr1,hL,hsay⟩;have HR2:=hid ((HZ'.out.ext hb1).records (by omega) h12' hs');obtain⟨A1,c1,rfl,_⟩:=own_form hr1.row
 have hrl:rs.length≤3000:=by
  have e1:=congrArg List.length hsay;have e2:=HZ.out.total_eq hL;simp at e1;omega
 have HV1:=hid (And.intro hr1 (And.intro hL hsay));clear hr1 hL hsay HR;go_wp2_with fail;refine HR2.out.mono ?_;rintro e w2 ⟨hb2,v2,ms,L',rfl,hr2,hL',hsay'⟩;obtain⟨A2,c2,rfl,_⟩:=own_form hr2.row;have hml:ms.length≤3000:=by
  have e1:=congrArg List.length hsay';have e2:=HZ'.out.total_eq hL';simp at e1;omega
 have hr1':=HV1.out.1.below hb2;have hs1:=hb1.size;have hb12:Below w.heap.size w w2:=hb1.trans (hb2.mono hs1);have hrk:∀r∈rs,ROk r.says:=fun r hr=>rok_of HZ.out hs ht HV1.out.2.1 (by rw[←HV1.out.2.2];exact List.mem_map.2 ⟨r,hr,rfl⟩);have hmk:∀r∈ms,ROk r.says:=fun r hr=>rok_of HZ'.out hs' ht' hL' (by rw[←hsay'];exact List.mem_map.2 ⟨r,hr,rfl⟩);have hr2':=hr2.base hs1
 have HW1:=hid (UWithout w2 A1 A2 c1 c2 rs ms w.heap.size hr1' hr2' hrl hml hrk hmk false);have HA:=hid (And.intro hr1' (And.intro hr2' (And.intro hL' (And.intro hsay' (And.intro hrk hmk)))));clear hr1' hr2 hr2' hL' hsay' HR2 hrk hmk hb1 hb2;go_wp2_with fail;refine HW1.out.mono ?_;rintro e w3 ⟨hb3,v3,xs,rfl,hch3,hxs⟩
 have HW2:=hid (UWithout w3 A2 A1 c2 c1 ms rs w.heap.size (HA.out.2.1.below hb3) (HA.out.1.below hb3) hml hrl HA.out.2.2.2.2.2 HA.out.2.2.2.2.1 true);have HX:=hid (And.intro hch3 (And.intro hxs hb3));obtain⟨A3,c3,rfl,_⟩:=own_form hch3.row;have hb13:Below w.heap.size w w3:=hb12.trans (hb3.mono hb12.size);have hw02:w.heap.size≤w2.heap.size:=hb12.size
 have hxl:xs.length≤rs.length:=by rw[hxs,List.length_map];exact List.length_filter_le _ _
 clear hch3 hxs hb3 HW1 hb12;go_wp2_with fail;refine HW2.out.mono ?_;rintro e w4 ⟨hb4,v4,ys,rfl,hch4,hys⟩;obtain⟨A4,c4,rfl,_⟩:=own_form hch4.row;have hyl:ys.length≤ms.length:=by rw[hys,List.length_map];exact List.length_filter_le _ _
 have hrow3:=own_below HX.out.1.row hb4;have hcs4:=cs_own2 hch4.row;have hb14:Below w.heap.size w w4:=hb13.trans (hb4.mono hb13.size);have hsay:(xs++ys).map (fun x:ChB=>(x.1,x.2.says))=diffL (L.map PR.says) (L'.map PR.says):=by
  have k:∀(b:Bool) (l:List RcB),(l.map fun r=>(b,r)).map (fun x:ChB=>(x.1,x.2.says))=(l.map RcB.says).map fun x=>(b,x):=fun b l=>by simp
  have e1:(ms.map fun r=>toldI r.says)=(L'.map PR.says).map toldI:=by rw[←HA.out.2.2.2.1,List.map_map];rfl
  have e2:(rs.map fun r=>toldI r.says)=(L.map PR.says).map toldI:=by rw[←HV1.out.2.2,List.map_map];rfl
  rw[List.map_append,HX.out.2.1,hys,k,k,filter_says,filter_says,e1,e2,HV1.out.2.2,HA.out.2.2.2.1];rfl
 have HS:=hid (And.intro hsay (And.intro hrow3 (And.intro hcs4 hb14)));have HY:=hid (And.intro hch4 hb4);have hs4:=hb14.size;have hyp:ys.length≤3000:=by omega
 have hs3:w.heap.size≤w3.heap.size:=hb13.size;have hw24:=HX.out.2.2.size;have hb4s:=hb4.size;clear hsay hrow3 hcs4 hb14 hch4 hb4 hys HW2 hb13;cases A4 with
 |none=>
  have hy0:ys=[]:=by
   have h1:ys.flatMap chCells=[]:=HS.out.2.2.1.none_nil;have h2:=chflat_len ys;rw[h1,List.length_nil]at h2;exact List.eq_nil_of_length_eq_zero (by omega)
  subst hy0
  go_wp2_with (first|(at_builtin;refine wpList_nothing rfl _ _ _ rfl underlying82 hi0 rfl HS.out.2.1 rfl ?_))
  go_ret;refine⟨HS.out.2.2.2,_,xs,L,L',rfl,⟨own_base HS.out.2.1 (by omega),fun x hx=> ?_⟩,HV1.out.2.1,HA.out.2.2.1, ?_⟩
  ·have:=HX.out.1.own x hx;exact⟨own_below this.1 HY.out.2,own_below this.2 HY.out.2⟩
  ·have:=HS.out.1;rw[List.append_nil]at this;exact this
 |some a=>
  go_wp2_with (first|(at_builtin;refine wpList_append_own _ rfl _ _ _ rfl w2.heap.size 132 i0 _ 6 64 underlying82 hi0 hz0 hz1 hz2 rfl (by decide) _ xs.length _ rfl HS.out.2.1 a ys.length c4 (ys.flatMap chCells) rfl (chflat_len ys) HS.out.2.2.1.cells (chflat_one ys) (by unfold maxLen;omega) (by omega) (by omega) ?_;intro v5 w5 hown5 hg5 _))
  go_ret;have hk5:Kept (fun k=>some k=(Value.slice A3 xs.length c3).ownBlock) w4 w5:=Kept.of_grown hg5;have hb5:Below w.heap.size w w5:=HS.out.2.2.2.trans (hk5.below (by omega) fun k hk e=>by
   have:=(HS.out.2.1.lt k e.symm).1;omega)
  have hfar:∀{B':Nat} {e:TypeId} {size:Nat} {v:Value} {n:Nat} {us:List Value},w4.ownsRow B' e size v n us→e≠132→w5.ownsRow B' e size v n us:=fun hr he=>row_type hr HS.out.2.1 he hk5;refine⟨hb5,_,xs++ys,L,L',rfl,⟨?_,fun x hx=> ?_⟩,HV1.out.2.1,HA.out.2.2.1,HS.out.1⟩
  ·rw[List.length_append,List.flatMap_append];exact own_base hown5 (by omega)
  ·have ho:x.2.own w4 w.heap.size:=by
    rcases List.mem_append.1 hx with hx|hx
    ·have:=HX.out.1.own x hx;exact⟨own_below this.1 HY.out.2,own_below this.2 HY.out.2⟩
    ·exact HY.out.1.own x hx
   exact⟨hfar ho.1 (by decide),hfar ho.2 (by decide)⟩
theorem UPrereq(w:World)(B z:Nat)(S:Nat→Prop)(ap:List Lab)(F:Cont)(N T:Nat)(h:Zo w B z S ap F N T)(hT:T≤100000)(h12:Few12 F)(hsc:ShortC F)(hap:Small ap)(A:Option Addr)(us:List UcB)(cap:Nat)(Bu:Nat)
 (hu:UcV w Bu (.slice A us.length cap) us) (hul:us.length≤100000) (hok:∀r∈us,UOk r.says) (hcl:∀r∈us,r.cl≠1):
 Calls prog 41 #[.pointer (some ⟨z,0,none⟩),.slice A us.length cap] w fun e w'=>Below w.heap.size w w'∧e=.returned (.int .i64 (firstC (pre1 F ap) (us.map UcB.says))):=by
 have hmf:∀(fn:Fn) (first cap:Array Value) (w:World),(Instr.makeFunc fn first cap).run prog w=.ok (.func fn first cap) w:=fun _ _ _ _=>rfl;have b1:Below w.heap.size w (w.alloc (.cells #[.pointer (some ⟨z,0,none⟩)] 25)):=bAl;have c1:=heap_alloc_new w (.cells #[.pointer (some ⟨z,0,none⟩)] 25)
 have s1:(w.alloc (.cells #[.pointer (some ⟨z,0,none⟩)] 25)).heap.size=w.heap.size+1:=by simp
 go_enter func41,ntmps41
 go_upto_region 1 with fail
 generalize w.alloc (.cells #[.pointer (some ⟨z,0,none⟩)] 25)=w1 at *;have b2:Below w1.heap.size w1 (w1.alloc (.cells #[.slice A us.length cap] 31)):=bAl;have c2:=heap_alloc_new w1 (.cells #[.slice A us.length cap] 31);rw[s1]at c2;have c12:=(b2.block _ (lt_block c1)).trans c1;generalize w1.alloc (.cells #[.slice A us.length cap] 31)=w2 at *
 have b12:Below w.heap.size w w2:=b1.trans (b2.mono b1.size);have HS:=hid (UCaughtP (.pointer (some ⟨w.heap.size+1,0,none⟩)) (.pointer (some ⟨w.heap.size,0,none⟩)) w2 (fun c W W'=>Below W.heap.size W W'∧c=firstC (pre1 F ap) (us.map UcB.says)) (fun W hW hs hc=>by
  have hbW:=b12.trans (hW.mono b12.size);refine(UPre1 W B z S ap F N T (h.ext hbW) hT h12 hsc hap (w.heap.size+1) w.heap.size A us cap Bu ((hW.block _ (lt_block c2)).trans c2) ((hW.block _ (lt_block c12)).trans c12) (hu.below hbW) hul hok hcl).mono ?_;rintro e W' ⟨hb,hcase⟩;refine⟨?_,(hb.block _ (lt_block hc)).trans hc⟩;rcases hcase with⟨h0,rfl⟩|⟨h0,rfl⟩
  ·exact .inl ⟨rfl,hb,h0.symm⟩
  ·exact .inr ⟨_,rfl,hb,rfl⟩))
 have hw2:=b12.size;clear b1 b2 c1 c2 c12 h hu hok hcl s1;go_wp2_with fail;refine HS.out.mono ?_;rintro e w4 ⟨c,W,W',cs,rfl,hbW,hlt,⟨hb,rfl⟩,_,hk⟩;have hF:=b12.trans ((kept_new hbW hb hk (Nat.le_refl _)).mono hw2);go_wp2_with fail;go_ret;exact⟨hF,rfl⟩
end Nm
def StM(T0:TypeId)(f:Fact):Prop:=∀v W W' g cs cs',Kept (fun k=>k=g) W W'→W.heap[g]? =some (.cells cs T0 (0,0))→W'.heap[g]? =some (.cells cs' T0 (0,0))→cs'.size=cs.size→f.p v W→f.p v W'
theorem StM.is(T0:TypeId)(u:Value):StM T0 (.is u):=fun _ _ _ _ _ _ _ _ _ _ h=>h
theorem StM.any(T0:TypeId):StM T0 .any:=fun _ _ _ _ _ _ _ _ _ _ h=>h
theorem row_store{w w':World}{B:Nat}{e:TypeId}{size:Nat}{v:Value}{n:Nat}{xs:List Value}{g:Nat}{cs:Array Value}{T:TypeId}(h:w.ownsRow B e size v n xs)(hg:w.heap[g]? =some (.cells cs T (0,0)))(he:e≠T)(hk:Kept (fun k=>k=g) w w'):w'.ownsRow B e size v n xs:=by
 refine Kept.row h hk fun k hkb e1=> ?_;obtain⟨cs2,g1,_⟩:=Nm.row_block h hkb;exact Nm.ne_cells g1 hg he e1
theorem StM.own{T0:TypeId}{B:Nat}{e:TypeId}{size n:Nat}{xs:List Value}(he:e≠T0):StM T0 (.own B e size n xs):=fun v W W' g cs cs' hk h1 h2 _ h=>row_store h h1 he hk
def newF(T0:TypeId)(N n:Nat):Fact:=⟨fun v W=>∃g cs,v=.pointer (some ⟨g,0,none⟩)∧N≤g∧W.heap[g]? =some (.cells cs T0 (0,0))∧cs.size=n,by
 rintro v W W' hE ⟨g,cs,h1,h2,h3,h4⟩;exact⟨g,cs,h1,h2,(hE.block g (lt_block h3)).trans h3,h4⟩⟩
theorem StM.new{T0:TypeId}{N n:Nat}:StM T0 (newF T0 N n):=by
 rintro v W W' g cs cs' hk h1 h2 h3 ⟨g',cs2,e1,e2,e3,e4⟩;by_cases e:g'=g
 ·subst e;rw[h1]at e3;injection e3 with e3;injection e3 with e3;subst e3;exact⟨g',cs',e1,e2,h2,by omega⟩
 ·exact⟨g',cs2,e1,e2,(hk.block g' (lt_block e3) e).trans e3,e4⟩
def StoreD(T0:TypeId)(D:Value→Array Value→Prop)(N:Nat)(va vj:Value)(W W':World):Prop:=∃g cs0 cs,va=.pointer (some ⟨g,0,none⟩)∧N≤g∧W.heap[g]? =some (.cells cs0 T0 (0,0))∧W'.heap[g]? =some (.cells cs T0 (0,0))∧cs.size=cs0.size∧Kept (fun k=>k=g) W W'∧D vj cs
def StoredD(T0:TypeId)(D:Value→Array Value→Prop)(N:Nat)(va vj:Value)(W:World):Prop:=∃g cs,va=.pointer (some ⟨g,0,none⟩)∧N≤g∧W.heap[g]? =some (.cells cs T0 (0,0))∧D vj cs
section
variable {P:Program} {ops:Array Oper}
theorem wp_region_m4{id:Nat}{Q:Exit→Act→World→Prop}{a0:Act}{w0:World}(hm:P.follows .mixedOrders=true)(hB:relB2 ops=true)(T0:TypeId)(s a j0:Nat)(hal:a < s)(hjl:j0 < s)(has:waitsT ops ops.size s a=true)(hjs:waitsT ops ops.size s j0=true)
 (fs:List Fact) (hany:factAt fs s=.any) (hst:∀f∈fs,StM T0 f) (D:Value→Array Value→Prop)
 (step:∀i o,ops[i]? =some o→i≠s→∀vals W,Ext w0 W→(∀e∈o.after,bindD e=true→(factAt fs e.on).p (vals e.on) W)→
   opYield P ops o (relAct ops a0 (fun _=>true) vals i) W (fun v W'=>Ext W W'∧(factAt fs i).p v W'))
 (store:∀o,ops[s]? =some o→∀vals W,Ext w0 W→(∀e∈o.after,bindD e=true→(factAt fs e.on).p (vals e.on) W)→
   opYield P ops o (relAct ops a0 (fun _=>true) vals s) W (fun v W'=>StoreD T0 D w0.heap.size (vals a) (vals j0) W W'))
 (hend:∀vals W,Ext w0 W→(∀j,j < ops.size→(factAt fs j).p (vals j) W)→StoredD T0 D w0.heap.size (vals a) (vals j0) W→Q .normal (relAct ops a0 (fun _=>true) vals ops.size) W)
 (hsz:s < ops.size):(Code.region id ops true).wp P Q a0 w0:=by
 have hstA:∀j,StM T0 (factAt fs j):=fun j=>by
  unfold factAt;by_cases h:j < fs.length
  ·have e:fs.getD j Fact.any=fs[j]:=by simp[h]
   rw[e];exact hst _ (List.getElem_mem h)
  ·have e:fs.getD j Fact.any=.any:=by simp[List.getD,List.getElem?_eq_none (Nat.le_of_not_lt h)]
   rw[e];exact StM.any T0
 refine wp_region_t bindD (fun e h=>bindD_binds h) hm hB (fun _ _=>false) (Nm.kills_none _ _)
  (fun i W W'=>if i=s then ∃g cs cs',w0.heap.size≤g∧W.heap[g]? =some (.cells cs T0 (0,0))∧W'.heap[g]? =some (.cells cs' T0 (0,0))∧cs'.size=cs.size∧Kept (fun k=>k=g) W W' else Ext W W')
  (fun W=>Ext w0 W) (fun j vals W=>if j=s then StoredD T0 D w0.heap.size (vals a) (vals j0) W else(factAt fs j).p (vals j) W)
  ?_ (fun _=>True) (fun _=>false) trivial (fun _ _ _ _ _ _ _=>trivial) ⟨rfl,rfl,rfl,Nat.le_refl _,fun _ _=>rfl⟩ ?_ ?_ ?_ ?_
 ·intro j vals i v W hij hw h;by_cases ej:j=s
  ·subst ej;simp only[if_true]at h ⊢;have e1:¬a=i:=fun e=>by rw[e,hw]at has;cases has
   have e2:¬j0=i:=fun e=>by rw[e,hw]at hjs;cases hjs
   rw[if_neg e1,if_neg e2];exact h
  ·simp only[if_neg ej]at h ⊢;rw[if_neg (fun e=>hij e.symm)];exact h
 ·intro i W W' hC hT;by_cases ei:i=s
  ·simp only[if_pos ei]at hT;obtain⟨g,cs,cs',h1,h2,h3,h4,h5⟩:=hT;exact Below.trans hC (Kept.below h5 hC.size fun k hk e=>by omega)
  ·simp only[if_neg ei]at hT;exact Ext.trans hC hT
 ·intro i j vals W W' hij _ hw hC hR hT;by_cases ej:j=s
  ·have ei:¬i=s:=fun e=>hij (e.trans ej.symm);simp only[if_pos ej]at hR ⊢;simp only[if_neg ei]at hT;obtain⟨g,cs,h1,h2,h3,h4⟩:=hR;exact⟨g,cs,h1,h2,(Below.block hT g (lt_block h3)).trans h3,h4⟩
  ·simp only[if_neg ej]at hR ⊢;by_cases ei:i=s
   ·simp only[if_pos ei]at hT;obtain⟨g,cs,cs',h1,h2,h3,h4,h5⟩:=hT;exact hstA j _ _ _ _ _ _ h5 h2 h3 h4 hR
   ·simp only[if_neg ei]at hT;exact(factAt fs j).st _ _ _ hT hR
 ·intro i o hio vals W hC haf _;have haf2:∀e∈o.after,bindD e=true→(factAt fs e.on).p (vals e.on) W:=fun e he hb=>by
   have:=haf e he hb;by_cases h:e.on=s
   ·rw[h,hany];trivial
   ·simp only[if_neg h]at this;exact this
  by_cases ei:i=s
  ·subst ei;refine opYield_mono ?_ (store o hio vals W hC haf2);rintro v W' ⟨g,cs0,cs,h1,h2,h3,h4,h5,h6,h7⟩;have e1:¬a=i:=fun e=>by omega
   have e2:¬j0=i:=fun e=>by omega
   simp only[if_true];refine⟨⟨g,cs0,cs,h2,h3,h4,h5,h6⟩,g,cs, ?_,h2,h4, ?_⟩
   ·rw[if_neg e1];exact h1
   ·rw[if_neg e2];exact h7
  ·refine opYield_mono ?_ (step i o hio ei vals W hC haf2);rintro v W' ⟨h1,h2⟩;simp only[if_neg ei,if_true];exact⟨h1,h2⟩
 ·intro vals W hC hR;refine hend vals W hC (fun j hj=> ?_) ?_
  ·have:=hR j hj (fun _ _=>rfl);by_cases ej:j=s
   ·rw[ej,hany];trivial
   ·simp only[if_neg ej]at this;exact this
  ·have:=hR s hsz (fun _ _=>rfl);simp only[if_true]at this;exact this
end
end Go.Proofs.YtmbdoacafhljkaaGreat
