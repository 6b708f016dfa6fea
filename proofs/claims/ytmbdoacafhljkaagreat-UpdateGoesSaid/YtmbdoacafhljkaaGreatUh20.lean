/- Texts merged by a program: WGoes, Ints, WGoesI. -/
import Derived.Deep.CutRange
import Derived.Test.YtmbdoacafhljkaaGreatUh1
import Derived.Test.YtmbdoacafhljkaaGreatUh18
import Derived.Test.YtmbdoacafhljkaaGreatUh19
set_option linter.unusedSimpArgs false
set_option linter.unusedVariables false
set_option maxRecDepth 1000000
set_option maxHeartbeats 20000000
open Go.Proofs.Tryz
namespace Go.Proofs.YtmbdoacafhljkaaGreat
open Go.RowKit
namespace Nm
theorem zonalZ{w:World}{B z:Nat}{S:Nat→Prop}{ap:List Lab}{F:Cont}{N T:Nat}(h:Zo w B z S ap F N T):Zonal (fun k=>k=z) w:=fun k hk cs t fr hg=>by
 subst hk;exact h.zonal _ h.at_z cs t fr hg
theorem none_at{w:World}{B z:Nat}{S:Nat→Prop}{F:Cont}{N T:Nat}(h:Zo w B z S [exL] F N T){L:List PR}(hL:LstP F L){n:List Lab}(hno:¬∃x∈L,x.n=n)(t:Int):F n t=none:=by
 cases hF:F n t with
 |none=>rfl
 |some p=>
  obtain⟨ttl,ds⟩:=p;obtain⟨_,_,hne,_⟩:=h.good hF
  match ds,hne with
  |e::r,_=>exact absurd ⟨⟨n,t,ttl,e.1,e.2⟩,(hL.mem _).2 ⟨_,hF,by simp⟩,rfl⟩ hno
theorem low_of{w:World}{B z:Nat}{S:Nat→Prop}{F:Cont}{N T:Nat}(h:Zo w B z S [exL] F N T){L:List PR}(hL:LstP F L):∀x∈L,lower x.n=x.n:=fun x hx=>by
 obtain⟨ds,h1,_⟩:=(hL.mem x).1 hx;exact(h.good h1).1.low
theorem fit_of{w:World}{B:Nat}{v:Value}{rs:List RcB}(h:RecsV w B v rs)(hr:∀x∈rs.map RcB.says,ROk x):∀r∈rs,r.fit w:=fun r hr2=>by
 have ho:=h.own r hr2;have hk:=hr _ (List.mem_map.2 ⟨r,hr2,rfl⟩);have h1:r.nm.l.length≤1000000:=Nat.le_trans (Small.few hk.small).1 (by omega);have h2:r.d.l.length≤100000:=hk.len;exact⟨(cs_own ho.1).2,(cs_own ho.2).2,h1,by omega⟩
def GoR(n:Nat)(w:World)(i:Value)(wr:World):Prop:=∃q:Nat,q≤n∧i=.int .i64 (q:Int)∧Below w.heap.size w wr
theorem WGoes(w:World)(A:Option Addr)(l:List Nat)(cap k:Nat)(how:Bool)(hk:k < 4294967296)(hA:Cs w A (l.map u32K))(hl:∀k∈l,k < 4294967296):
 Calls prog 7 #[.slice A l.length cap,.int .u32 (k:Int),.bool how] w fun e w'=>e=.returned (.bool true)∧Below w.heap.size w w':=by
 have HA:=hid hA;have HL:=hid hl;clear hA hl;go_enter func7,ntmps7;go_wp2_with fail;refine(Known17 w).mono ?_;rintro e w1 ⟨rfl,hb1⟩;have hs01:=hb1.size;by_cases h12:12 < l.length
 ·have h12I:(12:Int) < (l.length:Int):=by omega
  go_wp2_with fail;go_ret;exact⟨rfl,hb1⟩
 have h12':l.length≤12:=by omega
 have h12I:¬(12:Int) < (l.length:Int):=by omega
 go_wp2_with fail;refine(Made17 w1 A l cap (HA.out.below hb1) HL.out h12').mono ?_;rintro e w2 ⟨hb2,⟨Bz,z,m,S,R,N,T,L,rfl,hBz,hZ,hR,hL,hN,hT,hLl,hSR⟩⟩;have hUK:=uk_made hZ;have hb12:=hb1.trans (hb2.mono hb1.size);have hs12:=hb12.size;have HZ:=hid (And.intro hZ (And.intro hR (And.intro hL hUK)));obtain⟨F,hF⟩:∃F,madeF l=F:=⟨_,rfl⟩
 rw[hF]at HZ;clear hZ hR hL hUK hSR hF hb2 hb1;go_wp2_with fail;refine(RecordA k hk w2).mono ?_;rintro e w3 ⟨v,rfl,⟨An,cn,Ad,cd,rfl,hNm,hD⟩,hb3⟩;have b4:Below w3.heap.size w3 (w3.alloc (.cells #[.slice An (recN k).length cn,.int .u16 ((recT k:Nat):Int),.int .u16 1,.int .u32 ((ttlK k:Nat):Int),.slice Ad (recD k).length cd] 39)):=bAl
 have c4:=heap_alloc_new w3 (.cells #[.slice An (recN k).length cn,.int .u16 ((recT k:Nat):Int),.int .u16 1,.int .u32 ((ttlK k:Nat):Int),.slice Ad (recD k).length cd] 39);have hs3:=hb3.size
 go_upto_region 7 with fail
 generalize w3.alloc (.cells #[.slice An (recN k).length cn,.int .u16 ((recT k:Nat):Int),.int .u16 1,.int .u32 ((ttlK k:Nat):Int),.slice Ad (recD k).length cd] 39)=w4 at *;have hb24:Below w2.heap.size w2 w4:=hb3.trans (b4.mono hs3);have hb04:=hb12.trans (hb24.mono hs12);obtain⟨x0,x1,x2,x3,x4,_⟩:=cells5 c4;have HCN:=hid (cs_own (own_below hNm b4)).2;have HB4:=hid (And.intro hb24 hb04)
 have hg4:=lt_block c4;have hs4:=hb24.size;clear hNm hD hb3 b4 c4 hb24 hb04;generalize w3.heap.size=g at *
 go_cut [66]from 24 to 65 (fun v wx=>Below w4.heap.size w4 wx∧∃b,v=.bool b∧(b=false→recT k≠6∧recT k≠2∧¬∃x∈L,x.n=lower (recN k)))
 case first=>
  by_cases h6:recT k=6
  ·have e6:((recT k:Nat):Int)=6:=by omega
   clear h6;go_wp2_with fail;go_meet
   case rel=>exact⟨Below.refl _ _,true,rfl,fun h=>by cases h⟩
  have e6:¬((recT k:Nat):Int)=6:=by omega
  have e6b:(((recT k:Nat):Int)==6)=false:=by simpa using e6
  by_cases h2:recT k=2
  ·have e2:((recT k:Nat):Int)=2:=by omega
   clear h6 h2;go_wp2_with fail;go_meet
   case rel=>exact⟨Below.refl _ _,true,rfl,fun h=>by cases h⟩
  have e2:¬((recT k:Nat):Int)=2:=by omega
  have e2b:(((recT k:Nat):Int)==2)=false:=by simpa using e2
  have HW:=hid (RWild An (recN k) cn w4 HCN.out);have HTY:=hid (RTypes w4 w1.heap.size m R L (HZ.out.2.1.below HB4.out.1) (by omega) An (recN k) cn HCN.out (recN_ok k).1.few);have HH:Hid (recT k≠6∧recT k≠2):=hid ⟨h6,h2⟩;clear h6 h2;go_wp2_with fail;refine HW.out.mono ?_;rintro e w4' ⟨rfl,rfl⟩;generalize wild (recN k)=wl at *;by_cases h43:recT k=43
  ·have e43:((recT k:Nat):Int)=43:=by omega
   by_cases h1:(recN k).length=1
   ·have e1:(((recN k).length:Nat):Int)=1:=by omega
    clear h43 h1;cases wl
    all_goals
     go_wp2_with fail;go_meet;exact⟨Below.refl _ _,true,rfl,fun h=>by cases h⟩
   ·have e1:¬(((recN k).length:Nat):Int)=1:=by omega
    have e1b:((((recN k).length:Nat):Int)==1)=false:=by simpa using e1
    clear h43 h1;cases wl
    all_goals
     go_wp2_with fail;refine HTY.out.mono ?_;rintro e w5 ⟨hb5,A5,kk,c5,rfl,hkk⟩;have HKK:=hid hkk;clear hkk;go_wp2_with fail;go_meet;exact⟨hb5,decide ((0:Int) < (kk:Int)),by first|rfl|simp,fun h=>⟨HH.out.1,HH.out.2,fun hx=>by have:=HKK.out.2 hx;simp at h;omega⟩⟩
  ·have e43:¬((recT k:Nat):Int)=43:=by omega
   have e43b:(((recT k:Nat):Int)==43)=false:=by simpa using e43
   clear h43;cases wl
   all_goals
    go_wp2_with fail;refine HTY.out.mono ?_;rintro e w5 ⟨hb5,A5,kk,c5,rfl,hkk⟩;have HKK:=hid hkk;clear hkk;go_wp2_with fail;go_meet;exact⟨hb5,decide ((0:Int) < (kk:Int)),by first|rfl|simp,fun h=>⟨HH.out.1,HH.out.2,fun hx=>by have:=HKK.out.2 hx;simp at h;omega⟩⟩
 case rest=>
  obtain⟨hb5,b,rfl,hb⟩:=hcut;cases b with
  |true=>
   go_wp2_with fail;go_ret;exact⟨rfl,HB4.out.2.trans (hb5.mono HB4.out.2.size)⟩
  |false=>
   obtain⟨h6,h2,hnx⟩:=hb rfl;have HNX:Hid (recT k≠6∧recT k≠2∧∀t,F (lower (recN k)) t=none):=hid ⟨h6,h2,none_at HZ.out.1 HZ.out.2.2.1 hnx⟩;have hb25:Below w2.heap.size w2 wc:=HB4.out.1.trans (hb5.mono hs4);have hb05:=HB4.out.2.trans (hb5.mono HB4.out.2.size);have hZ5:=HZ.out.1.ext hb25;have HB5:=hid (And.intro hb25 hb05)
   have HRC:=hid (hZ5.records (by omega) HZ.out.2.2.2.uf.few HZ.out.2.2.2.uf.short);have HZ5:=hid hZ5;clear hb h6 h2 hnx hb5 hb25 hb05 hZ5 x0 x1 x2 x3 x4;go_wp2_with fail;refine HRC.out.mono ?_;rintro e w6 ⟨hb6,v6,rs,L6,rfl,hrs6,hL6,hsay6⟩;have hb56:Below w2.heap.size w2 w6:=HB5.out.1.trans (hb6.mono HB5.out.1.size);have hb06:=HB5.out.2.trans (hb6.mono HB5.out.2.size)
   have hZ6:=HZ5.out.ext hb6;have hr6:=rok_zo HZ5.out HZ.out.2.2.2.uf hL6;have hlow6:=low_of HZ5.out hL6;obtain⟨hcode,ttl,s,m0,hs,hm0,hF6,hA1⟩:=goes1 HZ.out.2.2.2 hL6 hlow6 hr6 HNX.out.1 HNX.out.2.1 HNX.out.2.2;have hLl6:L6.length≤14:=by have:=HZ5.out.total_eq hL6;omega
   have hrl:rs.length=L6.length:=by have:=congrArg List.length hsay6;simpa using this
   obtain⟨Ar,cr,rfl,_⟩:=own_form hrs6.row;have hcs:Cs (w6.alloc (.cells #[.int .u8 0,.int .u32 (k:Int)] 86)) (some ⟨w6.heap.size,0,none⟩) ([(0,k)].flatMap upC):=cs_new w6 86 [.int .u8 0,.int .u32 (k:Int)] (0,0);have b7:Below w6.heap.size w6 (w6.alloc (.cells #[.int .u8 0,.int .u32 (k:Int)] 86)):=bAl
   have HUU:=hid (UUpdate _ none [] 0 _ [(0,k)] 1 (Cs.nil _ none) hcs (fun p hp=>by cases hp) (fun p hp=>(List.mem_singleton.1 hp)▸⟨by show 0 < 256;decide,hk⟩) (by simp) (by simp));have HR6:=hid (And.intro hrs6 (And.intro hL6 (And.intro hsay6 (And.intro hr6 (And.intro hlow6 (And.intro hrl hLl6))))));have HG1:=hid (And.intro hcode (And.intro hs (And.intro hm0 (And.intro hF6 hA1))))
   have HB6:=hid (And.intro hb56 (And.intro hb06 hZ6));have hs6:=hb06.size;clear hcs hrs6 hL6 hsay6 hr6 hlow6 hcode hF6 hA1 hb56 hb06 hZ6 hb6 HRC hrl hLl6;go_wp2_with fail;generalize w6.alloc (.cells #[.int .u8 0,.int .u32 (k:Int)] 86)=w7 at *;refine HUU.out.mono ?_;rintro e w8 ⟨hb8,bq,Aq,cn8,cq,Ap,cp,Au,cu,pb,ub,rfl,hq,hpu,huu,hps,hus⟩;have hps0:pb.map UcB.says=[]:=hps
   obtain rfl:pb=[]:=List.map_eq_nil_iff.1 hps0;have hul:ub.length=1:=by have:=congrArg List.length hus;simpa using this
   have hus:ub.map UcB.says=[upR 0 k false]:=hus;have hmem:∀r∈ub,r.says=upR 0 k false:=fun r hr=>by
    have:r.says∈ub.map UcB.says:=List.mem_map.2 ⟨r,hr,rfl⟩;rw[hus]at this;simpa using this
   have hb68:Below w6.heap.size w6 w8:=b7.trans (hb8.mono b7.size);have hZ8:=HB6.out.2.2.ext hb68;have HAp:=hid (UApply w8 Bz z S F N T hZ8 HZ.out.2.2.2.uf 60 9 5 bq 0 cq Aq cn8 Ap [] cp _ Au ub cu _ hq hpu huu (by simp) (by omega) (by omega) (by omega) (fun r hr=>by cases hr) (fun r hr=>by rw[hmem r hr];exact upR_ok 0 k false) (fun _ r hr=>by rw[hmem r hr];exact upR_rok 0 k))
   rw[hus,List.map_nil,HG1.out.1]at HAp;have HUL:=hid hul;have HB8:=hid (And.intro (HB6.out.2.1.trans (hb68.mono hs6)) (And.intro hZ8 (HR6.out.1.below hb68)));clear b7 HUU hb8 hq hpu huu hps hus hmem hb68 hZ8 hul hps0;go_wp2_with fail;refine HAp.out.mono ?_;rintro e w9 hcase;rcases hcase with⟨h0,_⟩|⟨_,S',N',T',v9,xs,L',M,rfl,hz9,hN9,hT9,hk9,hS9,hch9,hL9,hM9,hxs9⟩
   ·exact absurd rfl h0
   obtain⟨A9,c9,rfl,_⟩:=own_form hch9.row;have hUK9:=HZ.out.2.2.2.apply (us:=[upR 0 k false]) (fun r hr=>by
    have:r=upR 0 k false:=by simpa using hr
    rw[this];exact upR_rok 0 k)
   rw[HG1.out.2.2.2.2]at hz9 hM9 hUK9;have hrs9:=recsZonal HB8.out.2.2 hk9 (zonalZ HB8.out.2.1);have hTL:T'=rs.length+1:=by
    have h1:=hz9.total_eq hM9;obtain⟨A0,R0,hAR,hK⟩:=lst_add HR6.out.2.1 HR6.out.2.2.2.2.1 (n:=lower (recN k)) (t:=(recT k:Int)) (ttl:=(ttlK k:Nat)) (d:=recD k) (c:=canonD (recT k) (recD k)) (lower_idem _) (HNX.out.2.2 _);have hlowK:∀x∈A0++(⟨lower (recN k),(recT k:Int),(ttlK k:Nat),recD k,canonD (recT k) (recD k)⟩:PR)::R0,lower x.n=x.n:=fun x hx=>by
     rcases List.mem_append.1 hx with hx|hx
     ·exact HR6.out.2.2.2.2.1 x (by rw[hAR];simp[hx])
     ·rcases List.mem_cons.1 hx with rfl|hx
      ·exact lower_idem _
      ·exact HR6.out.2.2.2.2.1 x (by rw[hAR];simp[hx])
    have hne:¬([exL]=lower (recN k)∧(6:Int)=(recT k:Int)):=fun e=>HNX.out.1 (by omega);have hF1:=(updC_ne F (some (((ttlK k:Nat):Int),[(recD k,canonD (recT k) (recD k))])) hne).trans HG1.out.2.2.2.1;have hMe:=hM9.uniq (lst_soa hK hlowK (ttl:=ttl) (d:=soaD (nextN s) m0) (c:=soaD (nextN s) m0) hF1);have h2:=congrArg List.length hMe;have h3:=congrArg List.length hAR;rw[List.length_map]at h2
    simp at h2 h3;have:=HR6.out.2.2.2.2.2.1;omega
   have hb09:Below w.heap.size w w9:=HB8.out.1.trans (hk9.below HB8.out.1.size (fun k2 hk2 e=>by subst e;have:=(HZ.out.1.lt HZ.out.1.at_z).2;omega));have hr9:=rok_zo hz9 hUK9.uf hM9;have HZ9:=hid (And.intro hz9 (And.intro hM9 (And.intro hUK9 (And.intro hr9 (And.intro hrs9 hb09)))));have HLen:=hid hz9.len;have HTL:=hid hTL;have hN9':N'≤200000:=by have:=HUL.out;omega
   have hrl':rs.length≤14:=by have:=HR6.out.2.2.2.2.2;omega
   have hwr:IntKind.i64.wrap ((rs.length:Int)+1)=((rs.length+1:Nat):Int):=by rw[IntWalk.i64_in _ (by omega)];omega
   have hs9:=hb09.size;clear hz9 hM9 hUK9 hr9 hrs9 hb09 hk9 hS9 hch9 hL9 hxs9 hTL hN9 hT9 HAp;rw[HTL.out]at HLen;go_wp2_with fail;refine HLen.out.mono ?_;rintro e w9' ⟨rfl,rfl⟩;have b10:Below w9.heap.size w9 (w9.alloc (.cells #[.int .u8 6,.int .u32 (k:Int)] 86)):=bAl;have c10:=heap_alloc_new w9 (.cells #[.int .u8 6,.int .u32 (k:Int)] 86)
   go_upto_if 90 with fail
   generalize w9.alloc (.cells #[.int .u8 6,.int .u32 (k:Int)] 86)=w10 at *;have hs910:=b10.size;obtain⟨g10,hg10⟩:∃g10,w9.heap.size=g10:=⟨_,rfl⟩
   rw[hg10]at c10
   try rw[hg10]
   have HC10:=hid (And.intro c10 b10);obtain⟨u0,u1,uf⟩:=cells2 c10;have hl10:=lt_block c10;have hu0:0 < 2:=by decide
   have HG10:=hid hg10;clear c10 b10 hg10
   go_cut []from 88 to 91 (fun wx=>wx.heap[g10]? =some (.cells #[.int .u8 (((if how then 4 else 6:Nat):Nat):Int),.int .u32 (k:Int)] 86 (0,0))∧Below w9.heap.size w9 wx)
   case first=>
    cases how with
    |false=>
     go_wp2_with fail;go_meet
     case rel=>exact⟨HC10.out.1,HC10.out.2⟩
    |true=>
     go_wp2_with fail;go_meet
     case rel=>exact⟨heap_set HC10.out.1,HC10.out.2.setCell (by rw[HG10.out];exact Nat.le_refl _) _⟩
   case rest=>
    obtain⟨hbox,hb10⟩:=hcut;obtain⟨hv,hhv⟩:∃hv:Nat,(if how then 4 else 6:Nat)=hv:=⟨_,rfl⟩
    rw[hhv]at hbox;have hv256:hv < 256:=by rw[←hhv];split <;> decide
    have HV:Hid (upR (if how then 4 else 6) k false=upR hv k false):=hid (by rw[hhv]);obtain⟨p0,p1,_⟩:=cells2 hbox;have hlb:=lt_block hbox;have hb010:Below w.heap.size w wc:=HZ9.out.2.2.2.2.2.trans (hb10.mono hs9);have hZ10:=HZ9.out.1.ext hb10;have hrs10:=HZ9.out.2.2.2.2.1.below hb10;have hs10:=hb010.size
    obtain⟨hcode2,hA2⟩:=goes2 HZ.out.2.2.2 HR6.out.2.1 HR6.out.2.2.2.2.1 HR6.out.2.2.2.1 HNX.out.1 HNX.out.2.1 HNX.out.2.2 HG1.out.2.1 HG1.out.2.2.1 HG1.out.2.2.2.1 (nextN_lt HG1.out.2.1) HZ9.out.2.1 HZ9.out.2.2.2.1 how;rw[HV.out]at hcode2 hA2;obtain⟨G,hG⟩:∃G,soaC (updC F (lower (recN k)) (recT k) (some ((ttlK k:Nat),[(recD k,canonD (recT k) (recD k))]))) ttl (nextN s) m0=G:=⟨_,rfl⟩
    rw[hG]at hcode2 hA2 hZ10;have hUKG:UK G:=by rw[←hG];exact HZ9.out.2.2.1
    have hcs:Cs (wc.alloc (.cells #[.int .u8 (hv:Int),.int .u32 (k:Int)] 86)) (some ⟨wc.heap.size,0,none⟩) ([(hv,k)].flatMap upC):=cs_new wc 86 [.int .u8 (hv:Int),.int .u32 (k:Int)] (0,0);have b11:Below wc.heap.size wc (wc.alloc (.cells #[.int .u8 (hv:Int),.int .u32 (k:Int)] 86)):=bAl
    have HUU:=hid (UUpdate _ none [] 0 _ [(hv,k)] 1 (Cs.nil _ none) hcs (fun p hp=>by cases hp) (fun p hp=>(List.mem_singleton.1 hp)▸⟨hv256,hk⟩) (by simp) (by simp));have HB10:=hid (And.intro hb010 (And.intro hZ10 (And.intro hrs10 (And.intro hUKG (And.intro hcode2 hA2)))));clear hcs hb010 hZ10 hrs10 hUKG hcode2 hA2 hG hbox hhv;go_wp2_with fail
    generalize wc.alloc (.cells #[.int .u8 (hv:Int),.int .u32 (k:Int)] 86)=w11 at *;refine HUU.out.mono ?_;rintro e w12 ⟨hb12',bq2,Aq2,cn2,cq2,Ap2,cp2,Au2,cu2,pb2,ub2,rfl,hq,hpu,huu,hps,hus⟩;have hps0:pb2.map UcB.says=[]:=hps;obtain rfl:pb2=[]:=List.map_eq_nil_iff.1 hps0;have hul:ub2.length=1:=by have:=congrArg List.length hus;simpa using this
    have hus:ub2.map UcB.says=[upR hv k false]:=hus;have hmem:∀r∈ub2,r.says=upR hv k false:=fun r hr=>by
     have:r.says∈ub2.map UcB.says:=List.mem_map.2 ⟨r,hr,rfl⟩;rw[hus]at this;simpa using this
    have hbc12:Below wc.heap.size wc w12:=b11.trans (hb12'.mono b11.size);have hZ12:=HB10.out.2.1.ext hbc12
    have HAp2:=hid (UApply w12 Bz z S' G N' (rs.length+1) (by have:=HTL.out;rw[←this];exact hZ12) HB10.out.2.2.2.1.uf 60 9 5 bq2 0 cq2 Aq2 cn2 Ap2 [] cp2 _ Au2 ub2 cu2 _ hq hpu huu (by simp) (by omega) (by omega) (by omega) (fun r hr=>by cases hr) (fun r hr=>by rw[hmem r hr];exact upR_ok hv k false) (fun _ r hr=>by rw[hmem r hr];exact upR_rok hv k));rw[hus,List.map_nil,HB10.out.2.2.2.2.1]at HAp2
    have HUL2:=hid hul;have HB12:=hid (And.intro (HB10.out.1.trans (hbc12.mono hs10)) (And.intro hZ12 (HB10.out.2.2.1.below hbc12)));clear b11 HUU hb12' hq hpu huu hps hus hmem hbc12 hZ12 hul hps0;go_wp2_with fail;refine HAp2.out.mono ?_;rintro e w13 hcase;rcases hcase with⟨h0,_⟩|⟨_,S2,N2,T2,v13,xs2,L2,M2,rfl,hz13,hN13,hT13,hk13,hS13,hch13,hL13,hM13,hxs13⟩
    ·exact absurd rfl h0
    obtain⟨A13,c13,rfl,_⟩:=own_form hch13.row;have hUK13:=HB10.out.2.2.2.1.apply (us:=[upR hv k false]) (fun r hr=>by
     have:r=upR hv k false:=by simpa using hr
     rw[this];exact upR_rok hv k)
    rw[HB10.out.2.2.2.2.2]at hz13 hUK13;have hrs13:=recsZonal HB12.out.2.2 hk13 (zonalZ HB12.out.2.1);have hb013:Below w.heap.size w w13:=HB12.out.1.trans (hk13.below HB12.out.1.size (fun k2 hk2 e=>by subst e;have:=(HZ.out.1.lt HZ.out.1.at_z).2;omega));have hs13:=hb013.size;have HRC2:=hid (hz13.records (by have:=HUL2.out;omega) hUK13.uf.few hUK13.uf.short)
    have HZ13:=hid (And.intro hz13 (And.intro hUK13 (And.intro hrs13 hb013)));clear hz13 hUK13 hrs13 hb013 hk13 hS13 hch13 hL13 hM13 hxs13 HAp2 hN13 hT13;go_wp2_with fail;refine HRC2.out.mono ?_;rintro e w14 ⟨hb14,v14,rs2,L14,rfl,hrs14,hL14,hsay14⟩;obtain⟨A14,c14,rfl,_⟩:=own_form hrs14.row
    have hL14e:=hL14.uniq (lst_soa HR6.out.2.1 HR6.out.2.2.2.2.1 (ttl:=ttl) (d:=soaD (nextN (nextN s)) m0) (c:=soaD (nextN (nextN s)) m0) HG1.out.2.2.2.1);have hr14:=rok_zo HZ13.out.1 HZ13.out.2.1.uf hL14;have HLN:Hid (rs2.length=rs.length):=hid (by
     have h1:=congrArg List.length hsay14;have h2:=congrArg List.length hL14e;rw[List.length_map]at h2;have h3:=HR6.out.2.2.2.2.2.1;simp at h1;omega)
    have hrsE:=HZ13.out.2.2.1.below hb14;have HE:=hid (And.intro hrsE (And.intro hrs14 (And.intro (fit_of hrsE (by rw[HR6.out.2.2.1];exact HR6.out.2.2.2.1)) (And.intro (fit_of hrs14 (by rw[hsay14];exact hr14)) (HZ13.out.2.2.2.trans (hb14.mono hs13))))));have HEQ:Hid (∀q (h1:q < rs.length) (h2:q < rs2.length),rs2[q].t≠6→rs2[q].says=rs[q].says):=hid (fun q h1 h2 ht=>by
     have e1:rs2[q].says=(L14.map PR.says)[q]'(by rw[←hsay14,List.length_map];exact h2):=by
      have this:(rs2.map RcB.says)[q]? =(L14.map PR.says)[q]?:=congrArg (fun l=>l[q]?) hsay14;rw[List.getElem?_eq_getElem (by rw[List.length_map];exact h2),List.getElem?_eq_getElem (by rw[←hsay14,List.length_map];exact h2)]at this;injection this with this;rw[←this,List.getElem_map]
     have e2:rs[q].says=(L6.map PR.says)[q]'(by rw[←HR6.out.2.2.1,List.length_map];exact h1):=by
      have this:(rs.map RcB.says)[q]? =(L6.map PR.says)[q]?:=congrArg (fun l=>l[q]?) HR6.out.2.2.1;rw[List.getElem?_eq_getElem (by rw[List.length_map];exact h1),List.getElem?_eq_getElem (by rw[←HR6.out.2.2.1,List.length_map];exact h1)]at this;injection this with this;rw[←this,List.getElem_map]
     have e0:rs2[q].t=rs2[q].says.2.1:=rfl;rw[e1,e2];rw[e0,e1]at ht;subst hL14e;simp only[List.getElem_map]at ht ⊢;unfold soaX at ht ⊢;split
     ·rename_i hx;rw[if_pos hx]at ht;exact absurd rfl ht
     ·rfl)
    have hs14:=HE.out.2.2.2.2.size;clear hrsE hrs14 hL14 hsay14 hL14e hr14 hb14 HRC2;have hlen2:((rs2.length:Int) !=(rs.length:Int))=false:=by rw[HLN.out];simp
    go_wp2_with fail
    go_loopw [17] (GoR rs2.length w14) (fun i _=>rs2.length - (intOf i).toNat)
    case atStart=>exact⟨0,Nat.zero_le _,rfl,Below.refl _ _⟩
    case round=>
     obtain⟨q,hq,rfl,hbq⟩:=hrel;have hsq:=hbq.size;by_cases hlt:q < rs2.length
     ·have hltb:q < rs.length:=by have:=HLN.out;omega
      have hltI:(q:Int) < (rs2.length:Int):=by omega
      have hltI2:(q:Int) < (rs.length:Int):=by omega
      obtain⟨b1',o1,rfl,hbb1,p0,p1,p2,p3,p4⟩:=(HE.out.2.1.below hbq).at2 hlt;obtain⟨b2',o2,rfl,hbb2,q0,q1,q2,q3,q4⟩:=(HE.out.1.below hbq).at2 hltb;have hEq:=HEQ.out q hltb hlt;have hfx:=(HE.out.2.2.2.1 _ (List.getElem_mem hlt)).below hbq;have hfy:=(HE.out.2.2.1 _ (List.getElem_mem hltb)).below hbq;generalize rs2[q]=x at *;generalize rs[q]=y at *
      have HF2:=hid (And.intro hfx (And.intro hfy hEq));clear hfx hfy hEq;by_cases ht:x.t=6
      ·have htb:(x.t !=6)=false:=by simp[ht]
       go_wp2_with fail;refine wp_region_mono mixed0 (by kernel_rfl) [.is (.slice (some ⟨b1',o1,none⟩) rs2.length c14),.is (.int .i64 (q:Int)),.is (.pointer (some ⟨b1',o1+q *5,none⟩)),.is (.pointer (some ⟨b1',o1+q *5+1,none⟩)),.is (.int .u16 x.t),.is (.bool false),.is (.bool false),.any,.any,.any,.any,.any,.any,.any,.any,.any,.any,.is (.bool false)] rfl ?_ ?_
       ·intro i o hio vals W hE haf;have e1:=(bcl (o:=o1+q *5+1) hE hbb1).trans p1;rcases i with _|_|_|_|_|_|_|_|_|_|_|_|_|_|_|_|_|_|i
        all_goals first
         |(exfalso;simp at hio;done)
         |(simp at hio;subst hio;simp[bindD,rdB,Region.binds,factAt]at haf;simp[opU,go_sem,haf,e1,Ext.refl,factAt,hltI,hlt,htb];done)
         |skip
        all_goals
         simp at hio;subst hio;simp[bindD,rdB,Region.binds,factAt]at haf
       ·intro vals W hE hF;simp[facts]at hF;simp[relAct,dstAt,Act.put,hF];clear hF;have hbW:Below w14.heap.size w14 W:=hbq.trans (Below.mono hE hsq);have hfin:GoR rs2.length w14 (.int .i64 ((q:Int)+1)) W:=⟨q+1,hlt,by go_num,hbW⟩
        have HFIN:=hid hfin;clear hfin hbW;go_wp2_with fail
        first
         |exact⟨HFIN.out,by simp[intOf];omega⟩
         |(refine⟨?_,by simp[intOf];omega⟩;(repeat apply Exists.intro);exact⟨HFIN.out,rfl⟩)
      ·have htb:(x.t !=6)=true:=by simp[ht]
       go_wp2_with fail
       refine wp_region_mono mixed0 (by kernel_rfl) [.is (.slice (some ⟨b1',o1,none⟩) rs2.length c14),.is (.int .i64 (q:Int)),.is (.pointer (some ⟨b1',o1+q *5,none⟩)),.is (.pointer (some ⟨b1',o1+q *5+1,none⟩)),.is (.int .u16 x.t),.is (.bool true),.is (.bool true),.is (.slice (some ⟨b1',o1,none⟩) rs2.length c14),.is (.int .i64 (q:Int)),.is (.pointer (some ⟨b1',o1+q *5,none⟩)),.is (.agg #[x.nm.v,.int .u16 x.t,.int .u16 1,.int .u32 x.ttl,x.d.v]),.is (.slice (some ⟨b2',o2,none⟩) rs.length cr),.is (.int .i64 (q:Int)),.is (.pointer (some ⟨b2',o2+q *5,none⟩)),.is (.agg #[y.nm.v,.int .u16 y.t,.int .u16 1,.int .u32 y.ttl,y.d.v]),.is (.bool true),.is (.bool false),.is (.bool false)] rfl ?_ ?_
       ·intro i o hio vals W hE haf;have e0:=(bcl (o:=o1+q *5) hE hbb1).trans p0;have e1:=(bcl (o:=o1+q *5+1) hE hbb1).trans p1;have e2:=(bcl (o:=o1+q *5+2) hE hbb1).trans p2;have e3:=(bcl (o:=o1+q *5+3) hE hbb1).trans p3;have e4:=(bcl (o:=o1+q *5+4) hE hbb1).trans p4;have f0:=(bcl (o:=o2+q *5) hE hbb2).trans q0;have f1:=(bcl (o:=o2+q *5+1) hE hbb2).trans q1;have f2:=(bcl (o:=o2+q *5+2) hE hbb2).trans q2
        have f3:=(bcl (o:=o2+q *5+3) hE hbb2).trans q3;have f4:=(bcl (o:=o2+q *5+4) hE hbb2).trans q4;rcases i with _|_|_|_|_|_|_|_|_|_|_|_|_|_|_|_|_|_|i
        all_goals first
         |(exfalso;simp at hio;done)
         |(simp at hio;subst hio;simp[bindD,rdB,Region.binds,factAt]at haf;simp[opU,go_sem,haf,e0,e1,e2,e3,e4,f0,f1,f2,f3,f4,Ext.refl,factAt,hltI,hltI2,hlt,hltb,htb];done)
         |skip
        all_goals
         simp at hio;subst hio;simp[bindD,rdB,Region.binds,factAt]at haf
        ·simp[opU,go_sem,haf,e0,e1,e2,e3,e4,f0,f1,f2,f3,f4,Ext.refl,factAt,hltI,hltI2,hlt,hltb,htb];refine(HRecord x y W (HF2.out.1.below hE) (HF2.out.2.1.below hE)).mono fun e W' h=>⟨h.2.trans ?_,h.1⟩
         rw[decide_eq_true (HF2.out.2.2 ht)]
       ·intro vals W hE hF;simp[facts]at hF;simp[relAct,dstAt,Act.put,hF];clear hF;have hbW:Below w14.heap.size w14 W:=hbq.trans (Below.mono hE hsq);have hfin:GoR rs2.length w14 (.int .i64 ((q:Int)+1)) W:=⟨q+1,hlt,by go_num,hbW⟩
        have HFIN:=hid hfin;clear hfin hbW;go_wp2_with fail
        first
         |exact⟨HFIN.out,by simp[intOf];omega⟩
         |(refine⟨?_,by simp[intOf];omega⟩;(repeat apply Exists.intro);exact⟨HFIN.out,rfl⟩)
     ·have hltI:¬(q:Int) < (rs2.length:Int):=by omega
      go_wp2_with fail;go_ret;exact⟨rfl,HE.out.2.2.2.2.trans (hbq.mono hs14)⟩
end Nm
theorem ints_of_row{k:IntKind}{w:World}{a:Option Addr}{len cap:Nat}{zs:List Int}
 (h:(a=none∧len=0∧cap=0∧zs=[])∨∃x,a=some x∧len≤cap∧cap≤maxLen∧zs.length=cap∧(∀i,i < zs.length→w.cell? (x.add i)=some (.int k (zs.getD i 0)))∧∀n∈zs,(Lit.int k n).wf=true):
 ∃l:List Int,l.length=len∧Cs w a (l.map (Value.int k))∧∀n∈l,(Lit.int k n).wf=true:=by
 rcases h with⟨rfl,rfl,rfl,rfl⟩|⟨x,rfl,hl,hm,hz,hcell,hwz⟩
 ·exact⟨[],rfl,Cs.nil _ _,fun n h=>by cases h⟩
 ·refine⟨zs.take len,by simp;omega, ?_,fun n hn=>hwz n (List.mem_of_mem_take hn)⟩;intro i u hu;rw[List.getElem?_map,List.getElem?_take]at hu;by_cases hi:i < len
  ·rw[if_pos hi]at hu;have hiz:i < zs.length:=by omega
   rw[List.getElem?_eq_getElem hiz]at hu;simp only[Option.map_some,Option.some.injEq]at hu;have hc:=hcell i hiz;obtain⟨b,off,spot⟩:=x;have hspot:spot=none:=by
    have h0:=hcell 0 (by omega);have:=World.cell?_spot h0;simpa[Addr.add]using this
   subst hspot;refine⟨b,off,rfl, ?_, ?_⟩
   ·rw[add_plain]at hc;exact World.block_lt_of_cell? w _ hc
   ·rw[add_plain]at hc;rw[hc,←hu];simp[List.getD,hiz]
  ·rw[if_neg hi]at hu;cases hu
namespace Nm
theorem u32_nats{l:List Int}(hl:∀n∈l,(Lit.int .u32 n).wf=true):l.map (Value.int .u32)=(l.map Int.toNat).map u32K∧∀k∈l.map Int.toNat,k < 4294967296:=by
 have hb:∀n∈l,0≤n∧n < 4294967296:=fun n hn=>by
  have:=hl n hn;simp[Lit.wf,IntKind.min,IntKind.max,IntKind.signed,IntKind.bits]at this;omega
 constructor
 ·rw[List.map_map];refine List.map_congr_left fun x hx=> ?_;have:=hb x hx;show Value.int .u32 x=Value.int .u32 ((x.toNat:Nat):Int);congr 1;omega
 ·intro k hk;obtain⟨x,hx,rfl⟩:=List.mem_map.1 hk;have:=hb x hx;omega
theorem WGoesI(A:Option Addr)(cap:Nat)(l:List Int)(k:Int)(how:Bool)(hl:∀n∈l,(Lit.int .u32 n).wf=true)(hk:(Lit.int .u32 k).wf=true)(w:World)(hA:Cs w A (l.map (Value.int .u32))):
 Calls prog 7 #[.slice A l.length cap,.int .u32 k,.bool how] w fun e w'=>e=.returned (.bool true)∧Below w.heap.size w w':=by
 obtain⟨hm,hb⟩:=u32_nats hl;rw[hm]at hA;have hkb:0≤k∧k < 4294967296:=by
  simp[Lit.wf,IntKind.min,IntKind.max,IntKind.signed,IntKind.bits]at hk;omega
 have h:=WGoes w A (l.map Int.toNat) cap k.toNat how (by omega) hA hb;rw[List.length_map,show((k.toNat:Nat):Int)=k from by omega]at h;exact h
end Nm
end Go.Proofs.YtmbdoacafhljkaaGreat
