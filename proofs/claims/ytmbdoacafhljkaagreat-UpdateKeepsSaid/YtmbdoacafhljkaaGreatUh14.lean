/- Texts merged by a program: UPut, UInv, UMove, UApp1, UApply, RZp. -/
import Derived.Test.YtmbdoacafhljkaaGreatUh1
import Derived.Test.YtmbdoacafhljkaaGreatUh10
import Derived.Test.YtmbdoacafhljkaaGreatUh13
set_option linter.unusedSimpArgs false
set_option linter.unusedVariables false
set_option maxRecDepth 1000000
set_option maxHeartbeats 20000000
open Go.Proofs.Tryz
namespace Go.Proofs.YtmbdoacafhljkaaGreat
open Go.RowKit
namespace Nm
def OtherC(F:Cont)(n:List Lab):Prop:=∃t,t≠5∧F (lower n) t≠none
def newerB(d:Lab)(s0:Nat):Bool:=scmpB (soaM d).s1 s0&&decide (0 < scmpI (soaM d).s1 s0)
noncomputable def otherB(F:Cont)(n:List Lab):Bool:= @decide (OtherC F n) (Classical.propDecidable _)
theorem otherB_iff(F:Cont)(n:List Lab):otherB F n=true↔OtherC F n:= @decide_eq_true_iff _ (Classical.propDecidable _)
noncomputable def putD(F:Cont)(n:List Lab)(t ttl:Int)(d:Lab)(s0:Nat):Cont:=
 if t=5 then(if otherB F n then F else(putC (updC F (lower n) 5 none) (lower n) 5 ttl d (canonD 5 d)).1)
 else if(F (lower n) 5).isSome then F
 else if t=6 then(if same n [exL]&&newerB d s0 then(putC (updC F (lower n) 6 none) (lower n) 6 ttl d (canonD 6 d)).1 else F)
 else(putC F (lower n) t ttl d (canonD t d)).1
theorem UPut(w:World)(B z:Nat)(S:Nat→Prop)(F:Cont)(N T:Nat)(h:Zo w B z S [exL] F N T)(hN:N≤1900000000000)(hT:T≤899)(h12:Few12 F)(hsc:ShortC F)(Bu:Nat)(An:Option Addr)(n:List Lab)(cn:Nat)(t ttl:Int)(Ad:Option Addr)(d:Lab)(cd:Nat)
 (hAn:w.ownsRow Bu 9 1 (.slice An n.length cn) n.length (n.map strV)) (hAd:w.ownsRow Bu 5 1 (.slice Ad d.length cd) d.length (d.map byteV))
 (hr:Rec n [exL] t d cn cd) (ttl0:Int) (s0 m0:Nat) (hs0:s0 < 4294967296) (hm0:m0 < 4294967296) (hF:F [exL] 6=some (ttl0,[(soaD s0 m0,soaD s0 m0)])):
 Calls prog 95 #[.agg #[.pointer (some ⟨z,0,none⟩)],.agg #[.slice An n.length cn,.int .u16 t,.int .u16 1,.int .u32 ttl,.slice Ad d.length cd]] w fun e w'=>e=.returned (.tuple #[])∧ZoTo w w' B z S (putD F n t ttl d s0) N (T+1) 4000:=by
 have b1:Below w.heap.size w (w.alloc (.cells #[.pointer (some ⟨z,0,none⟩)] 156)):=bAl;have c1:=heap_alloc_new w (.cells #[.pointer (some ⟨z,0,none⟩)] 156);have s1:(w.alloc (.cells #[.pointer (some ⟨z,0,none⟩)] 156)).heap.size=w.heap.size+1:=by simp
 generalize hw1:w.alloc (.cells #[.pointer (some ⟨z,0,none⟩)] 156)=w1 at b1 c1 s1;have b2:Below w1.heap.size w1 (w1.alloc (.cells #[.slice An n.length cn,.int .u16 t,.int .u16 1,.int .u32 ttl,.slice Ad d.length cd] 39)):=bAl;have c2:=heap_alloc_new w1 (.cells #[.slice An n.length cn,.int .u16 t,.int .u16 1,.int .u32 ttl,.slice Ad d.length cd] 39)
 have s2:(w1.alloc (.cells #[.slice An n.length cn,.int .u16 t,.int .u16 1,.int .u32 ttl,.slice Ad d.length cd] 39)).heap.size=w.heap.size+2:=by simp[s1]
 generalize hw2:w1.alloc (.cells #[.slice An n.length cn,.int .u16 t,.int .u16 1,.int .u32 ttl,.slice Ad d.length cd] 39)=w2 at b2 c2 s2;rw[s1]at c2;have c12:=(b2.block _ (lt_block c1)).trans c1;have b12:Below w.heap.size w w2:=b1.trans (b2.mono b1.size);have HZ:=hid (h.ext b12);have HLT:Hid (∀k,S k→k < w.heap.size):=hid fun k hk=>(h.lt hk).1
 have HALL:Hid (∀W,Kept S w2 W→W.cell? ⟨w.heap.size,0,none⟩=some (.pointer (some ⟨z,0,none⟩))∧W.cell? ⟨w.heap.size+1,0,none⟩=some (.slice An n.length cn)∧W.cell? ⟨w.heap.size+1,1,none⟩=some (.int .u16 t)∧W.cell? ⟨w.heap.size+1,2,none⟩=some (.int .u16 1)∧W.cell? ⟨w.heap.size+1,3,none⟩=some (.int .u32 ttl)∧W.cell? ⟨w.heap.size+1,4,none⟩=some (.slice Ad d.length cd)∧
  W.ownsRow Bu 9 1 (.slice An n.length cn) n.length (n.map strV)∧W.ownsRow Bu 5 1 (.slice Ad d.length cd) d.length (d.map byteV)):=hid fun W hk=>by
  have hn:∀k,w.heap.size≤k→¬S k:=fun k hk e=>by have:=(h.lt e).1;omega
  have e1:=(hk.block _ (lt_block c12) (hn _ (Nat.le_refl _))).trans c12;have e2:=(hk.block _ (lt_block c2) (hn _ (by omega))).trans c2;obtain⟨d0,_⟩:=cells1 e1;obtain⟨r0,r1,r2,r3,r4,_⟩:=cells5 e2;have hz:=(h.ext b12).zonal;exact⟨d0,r0,r1,r2,r3,r4,row_zonal (own_below hAn b12) hk hz zT_str,row_zonal (own_below hAd b12) hk hz zT_u8⟩
 have HZS:=hid (h.ext b12).zonal;have HK02:Hid (Kept S w w2):=hid ((Kept.of_ext b12).mono fun _ _ h=>h.elim);have hrec:=hid hr.to;have hwi:=hr.inn;have hapn:1≤n.length:=((within_iff n [exL]).1 hwi).1;have hwt:=hr.wf;have HN:=hid (And.intro hr.small hr.name);have hdl:=hr.len;have hs2:w.heap.size+2≤w2.heap.size:=by omega
 have HDAT:Hid (code50 (chk t d)=0):=hid hr.data;clear h hAn hAd b1 b2 c1 c2 c12 hr b12;have HT0:Hid (Calls prog 33 #[.pointer (some ⟨z,0,none⟩),.slice An n.length cn] w2 _):=hid (HZ.out.types An n cn (cs_own (HALL.out _ (Kept.refl _ _)).2.2.2.2.2.2.1).2 HN.out.1 HN.out.2 h12);obtain⟨d0,r0,r1,r2,r3,r4,_⟩:=HALL.out _ (Kept.refl _ _);go_enter func95,ntmps95
 go_upto_region 1 with fail
 try rw[hw1,hw2]
 clear hw1 hw2 s1 s2;go_wp2_with fail;refine HT0.out.mono ?_;rintro e w3 ⟨v,ys,rfl,hsrt,hty,hyl,hrow,hb3⟩;obtain⟨At,ct,rfl,_⟩:=own_form hrow;have HCT:=hid (ContainsU At ys ct 5 w3 (cs_own hrow).2 (by omega));have hK3:Kept S w2 w3:=(Kept.of_ext hb3).mono fun _ _ h=>h.elim;have HTY:=hid hty;have HSRT:=hid hsrt;have HZ3:=hid (HZ.out.ext hb3);have HAL:=hid (HALL.out _ hK3)
 have HK3:=hid hK3;have h23:w2.heap.size≤w3.heap.size:=hb3.size;clear hty hsrt hrow hb3 hK3 d0 r0 r1 r2 r3 r4 HT0;go_wp2_with fail;refine HCT.out.mono ?_;rintro e w4 ⟨rfl,al,rfl,hal⟩;have HA:Hid (al=(F (lower n) 5).isSome):=hid (by
  rw[Bool.eq_iff_iff,hal,←HTY.out];cases F (lower n) 5 <;> simp)
 have HOT:Hid (otherB F n=true↔∃y∈ys,(y:Int)≠5):=hid ((otherB_iff F n).trans ⟨fun⟨t',h1,h2⟩=>by
  obtain⟨y,hy,e⟩:=(HTY.out t').1 h2;exact⟨y,hy,by rw[e];exact h1⟩,fun⟨y,hy,e⟩=>⟨(y:Int),e,(HTY.out _).2 ⟨y,hy,rfl⟩⟩⟩)
 have HAL2:Hid (al=true↔∃y∈ys,(y:Int)=5):=hid hal;clear hal HCT;by_cases ht5:t=5
 ·subst ht5;have HP5:Hid (putD F n 5 ttl d s0=if otherB F n then F else(putC (updC F (lower n) 5 none) (lower n) 5 ttl d (canonD 5 d)).1):=hid (by unfold putD;rw[if_pos rfl]);obtain⟨d0,r0,r1,r2,r3,r4,_⟩:=HAL.out;cases hot:otherB F n with
  |true=>
   rw[hot,if_pos rfl]at HP5;have HD:=HP5;obtain⟨y,hy,hy5⟩:=HOT.out.1 hot;have hpos:=List.length_pos_of_mem hy;have h0:(0:Int) < (ys.length:Int):=by omega
   by_cases h2:(1:Int) < (ys.length:Int)
   ·go_wp2_with fail;refine bodyPost_ret (v:=.tuple #[]) (results_none rfl _ _ _) rfl ⟨rfl,⟨S,N,T, ?_,by omega,by omega,HK02.out.trans HK3.out,fun i hi=>.inl hi⟩⟩;rw[HD.out];exact HZ3.out
   ·have hal:al=false:=by
     cases al with
     |false=>rfl
     |true=>
      obtain⟨y2,hy2,e2⟩:=HAL2.out.1 rfl;obtain⟨i,hi,rfl⟩:=List.mem_iff_getElem.1 hy;obtain⟨j,hj,rfl⟩:=List.mem_iff_getElem.1 hy2;have hi0:i=0:=by omega
      have hj0:j=0:=by omega
      subst hi0 hj0;exact absurd e2 hy5
    subst hal;go_wp2_with fail;refine bodyPost_ret (v:=.tuple #[]) (results_none rfl _ _ _) rfl ⟨rfl,⟨S,N,T, ?_,by omega,by omega,HK02.out.trans HK3.out,fun i hi=>.inl hi⟩⟩;rw[HD.out];exact HZ3.out
  |false=>
   rw[hot,if_neg (by decide)]at HP5;have HD:=HP5;have hcase:ys.length=0∨(ys.length=1∧al=true):=by
    have hall:∀y∈ys,(y:Int)=5:=fun y hy=>by
     rcases Classical.em ((y:Int)=5)with e|e
     ·exact e
     ·exact absurd (HOT.out.2 ⟨y,hy,e⟩) (by rw[hot];decide)
    have hs:=HSRT.out
    match ys,hs,hall,HAL2.out with
    |[],_,_,_=>exact .inl rfl
    |[y],_,hall,h=>exact .inr ⟨rfl,h.2 ⟨y,by simp,hall y (by simp)⟩⟩
    |y::y2::r,hs,hall,_=>
     have h1:=hall y (by simp);have h2:=hall y2 (by simp);have h3:=(List.pairwise_cons.1 hs).1 y2 (by simp);omega
   have HP1:=hid (HZ3.out.dropSet An n cn 5 (own_base HAL.out.2.2.2.2.2.2.1 (Nat.zero_le _)) HN.out.1 HN.out.2 hwt (Nat.le_refl 1) hapn (by omega) (by omega) (by decide));rcases hcase with hl|⟨hl,rfl⟩
   ·have h0:¬(0:Int) < (ys.length:Int):=by omega
    go_wp2_with fail;refine HP1.out.mono ?_;rintro e w4 ⟨S1,N1,T1,rfl,hz1,hN1,hT1,hk1,hS1⟩;have hN1':N1≤2000000000000:=by omega
    have hKA:Kept S w2 w4:=HK3.out.trans hk1;have HAL4:=hid (HALL.out _ hKA);have HP:=hid (hz1.put An n cn Ad d cd 5 ttl (cs_own HAL4.out.2.2.2.2.2.2.1).2 (own_base HAL4.out.2.2.2.2.2.2.2 (Nat.zero_le _)) (canonD 5 d) hrec.out exL_small (Nat.le_refl 1) exL_low (by omega) (by omega));have H4:=hid (And.intro hS1 (HK02.out.trans hKA));have hs34:=hk1.size
    clear hz1 hk1 hS1 hKA d0 r0 r1 r2 r3 r4;obtain⟨d0,r0,r1,r2,r3,r4,_⟩:=HAL4.out;go_wp2_with fail;refine HP.out.mono ?_;rintro e wP ⟨S3,N3,T3,rfl,hz3,hN3,hT3,hk3,hS3⟩;have HE:=hid (And.intro hz3 (And.intro hk3 hS3));clear hz3 hk3 hS3 d0 r0 r1 r2 r3 r4;go_wp2_with fail;refine(umust_yes 2 _).mono ?_;rintro e wQ ⟨rfl,rfl⟩;go_wp2_with fail
    go_end0
    refine⟨rfl,⟨S3,N3,T3, ?_,by omega,by omega,H4.out.2.then HE.out.2.1 (fun i _ e=>H4.out.1 i e),fun i hi=> ?_⟩⟩
    ·rw[HD.out];exact HE.out.1
    ·rcases HE.out.2.2 i hi with e|e
     ·exact .inl (H4.out.1 i e)
     ·exact .inr (by omega)
   ·have h0:(0:Int) < (ys.length:Int):=by omega
    have h2:¬(1:Int) < (ys.length:Int):=by omega
    go_wp2_with fail;refine HP1.out.mono ?_;rintro e w4 ⟨S1,N1,T1,rfl,hz1,hN1,hT1,hk1,hS1⟩;have hN1':N1≤2000000000000:=by omega
    have hKA:Kept S w2 w4:=HK3.out.trans hk1;have HAL4:=hid (HALL.out _ hKA);have HP:=hid (hz1.put An n cn Ad d cd 5 ttl (cs_own HAL4.out.2.2.2.2.2.2.1).2 (own_base HAL4.out.2.2.2.2.2.2.2 (Nat.zero_le _)) (canonD 5 d) hrec.out exL_small (Nat.le_refl 1) exL_low (by omega) (by omega));have H4:=hid (And.intro hS1 (HK02.out.trans hKA));have hs34:=hk1.size
    clear hz1 hk1 hS1 hKA d0 r0 r1 r2 r3 r4;obtain⟨d0,r0,r1,r2,r3,r4,_⟩:=HAL4.out;go_wp2_with fail;refine HP.out.mono ?_;rintro e wP ⟨S3,N3,T3,rfl,hz3,hN3,hT3,hk3,hS3⟩;have HE:=hid (And.intro hz3 (And.intro hk3 hS3));clear hz3 hk3 hS3 d0 r0 r1 r2 r3 r4;go_wp2_with fail;refine(umust_yes 2 _).mono ?_;rintro e wQ ⟨rfl,rfl⟩;go_wp2_with fail
    go_end0
    refine⟨rfl,⟨S3,N3,T3, ?_,by omega,by omega,H4.out.2.then HE.out.2.1 (fun i _ e=>H4.out.1 i e),fun i hi=> ?_⟩⟩
    ·rw[HD.out];exact HE.out.1
    ·rcases HE.out.2.2 i hi with e|e
     ·exact .inl (H4.out.1 i e)
     ·exact .inr (by omega)
 ·have ht5b:(t==5)=false:=by simpa using ht5
  have ht5c:(t !=5)=true:=by simpa using ht5
  obtain⟨d0,r0,r1,r2,r3,r4,_⟩:=HAL.out;cases al with
  |true=>
   have HD:Hid (putD F n t ttl d s0=F):=hid (by unfold putD;rw[if_neg ht5,if_pos HA.out.symm]);go_wp2_with fail;refine bodyPost_ret (v:=.tuple #[]) (results_none rfl _ _ _) rfl ⟨rfl,⟨S,N,T, ?_,by omega,by omega,HK02.out.trans HK3.out,fun i hi=>.inl hi⟩⟩;rw[HD.out];exact HZ3.out
  |false=>
   by_cases ht6:t=6
   ·subst ht6;have hchk:chk 6 d=true:=by
     have h:=HDAT.out;cases hc:chk 6 d with
     |true=>rfl
     |false=>rw[hc]at h;exact absurd h (by decide)
    have hso:soaB d=true:=by rw[chk6,Bool.and_eq_true]at hchk;exact hchk.2
    have HP6:Hid (putD F n 6 ttl d s0=if same n [exL]&&newerB d s0 then(putC (updC F (lower n) 6 none) (lower n) 6 ttl d (canonD 6 d)).1 else F):=hid (by unfold putD;rw[if_neg ht5,if_neg (by rw[←HA.out];decide),if_pos rfl]);have HSO:=hid (USoa w3 B z S [exL] F N T HZ3.out (by omega) exL_small exL_low ttl0 _ _ hF (soaD_b s0 m0) (by rw[soaD_len];omega));go_wp2_with fail;refine HSO.out.mono ?_
    rintro e w5 ⟨hb5,u,Sm,ca,Sx,cb,rfl,hset,_,_⟩;obtain⟨Am,cm,Ad2,cd2,_,rfl,_⟩:=hset;rw[soaD_m hs0 hm0];have HK5:Hid (Kept S w2 w5):=hid (HK3.out.trans ((Kept.of_ext hb5).mono fun _ _ h=>h.elim));have HZ5:=hid (HZ3.out.ext hb5);have hs35:=hb5.size;unfold SoaM.v;dsimp only[soaG];clear hb5 HSO d0 r0 r1 r2 r3 r4
    go_upto_region 7 with fail
    have bAA:Below w5.heap.size w5 ((w5.alloc (.cells #[.slice Am 1 cm,.int .u16 6,.int .u32 ttl0,.slice Ad2 1 cd2] 54)).alloc (.cells #[.slice Sm (owner 1).length ca,.slice Sx (owner 2).length cb,.int .u32 (s0:Int),.int .u32 1,.int .u32 2,.int .u32 3,.int .u32 (m0:Int)] 91)):=bAl.alloc (by simp) _
    have gx:=heap_alloc_new (w5.alloc (.cells #[.slice Am 1 cm,.int .u16 6,.int .u32 ttl0,.slice Ad2 1 cd2] 54)) (.cells #[.slice Sm (owner 1).length ca,.slice Sx (owner 2).length cb,.int .u32 (s0:Int),.int .u32 1,.int .u32 2,.int .u32 3,.int .u32 (m0:Int)] 91);have sA1:(w5.alloc (.cells #[.slice Am 1 cm,.int .u16 6,.int .u32 ttl0,.slice Ad2 1 cd2] 54)).heap.size=w5.heap.size+1:=by simp
    rw[sA1]at gx;generalize(w5.alloc (.cells #[.slice Am 1 cm,.int .u16 6,.int .u32 ttl0,.slice Ad2 1 cd2] 54)).alloc (.cells #[.slice Sm (owner 1).length ca,.slice Sx (owner 2).length cb,.int .u32 (s0:Int),.int .u32 1,.int .u32 2,.int .u32 3,.int .u32 (m0:Int)] 91)=w6 at *;clear sA1;have hs56:=bAA.size;have HK6:Hid (Kept S w2 w6):=hid (HK5.out.trans ((Kept.of_ext bAA).mono fun _ _ h=>h.elim))
    have HZ6:=hid (HZ5.out.ext bAA);generalize w5.heap.size=g at *;have HAL6:=hid (HALL.out _ HK6.out);have HSD:=hid (Soa Ad d cd w6 (cs_own HAL6.out.2.2.2.2.2.2.2).2 hdl (own_caps HAL6.out.2.2.2.2.2.2.2).1 (own_caps HAL6.out.2.2.2.2.2.2.2).2);obtain⟨d0,r0,r1,r2,r3,r4,_⟩:=HAL6.out;clear bAA;go_wp2_with fail;refine HSD.out.mono ?_;rintro e w7 ⟨hb7,v,rfl,hp⟩
    obtain⟨Tm,cc,Tx,ce,rfl,_,_⟩:=hp.2 hso;have gx7:=(hb7.block _ (lt_block gx)).trans gx;have HK7:Hid (Kept S w2 w7):=hid (HK6.out.trans ((Kept.of_ext hb7).mono fun _ _ h=>h.elim));have HZ7:=hid (HZ6.out.ext hb7);have hs67:=hb7.size;clear hp hb7 gx d0 r0 r1 r2 r3 r4 HSD;unfold SoaM.v;have hsl:(soaM d).s1 < 4294967296:=numOf_lt _ _ (by omega)
    go_upto_region 8 with fail
    have b8:Below w7.heap.size w7 (w7.alloc (.cells #[.slice Tm (soaM d).m.length cc,.slice Tx (soaM d).x.length ce,.int .u32 ((soaM d).s1:Int),.int .u32 ((soaM d).s2:Int),.int .u32 ((soaM d).s3:Int),.int .u32 ((soaM d).s4:Int),.int .u32 ((soaM d).s5:Int)] 91)):=bAl
    have g8:=heap_alloc_new w7 (.cells #[.slice Tm (soaM d).m.length cc,.slice Tx (soaM d).x.length ce,.int .u32 ((soaM d).s1:Int),.int .u32 ((soaM d).s2:Int),.int .u32 ((soaM d).s3:Int),.int .u32 ((soaM d).s4:Int),.int .u32 ((soaM d).s5:Int)] 91)
    generalize w7.alloc (.cells #[.slice Tm (soaM d).m.length cc,.slice Tx (soaM d).x.length ce,.int .u32 ((soaM d).s1:Int),.int .u32 ((soaM d).s2:Int),.int .u32 ((soaM d).s3:Int),.int .u32 ((soaM d).s4:Int),.int .u32 ((soaM d).s5:Int)] 91)=w9 at *;have gx9:=(b8.block _ (lt_block gx7)).trans gx7;have HK9:Hid (Kept S w2 w9):=hid (HK7.out.trans ((Kept.of_ext b8).mono fun _ _ h=>h.elim))
    have HZ9:=hid (HZ7.out.ext b8);have hs79:=b8.size;have HAL9:=hid (HALL.out _ HK9.out);generalize w7.heap.size=g7 at *;clear b8 gx7;obtain⟨d0,r0,r1,r2,r3,r4,_⟩:=HAL9.out;obtain⟨_,_,x2,_⟩:=cells7 gx9;obtain⟨_,_,y2,_⟩:=cells7 g8;have hw9:w.heap.size≤w9.heap.size:=by omega
    have hd9:w.heap.size < w9.heap.size:=by omega
    have hr9:w.heap.size+1 < w9.heap.size:=by omega
    go_wp2_with fail;refine(SCompare ((soaM d).s1:Int) (s0:Int) (by omega) (by omega) w9).mono ?_;rintro e w10 ⟨rfl,rfl⟩;have HNB:Hid (newerB d s0=(scmpB (soaM d).s1 s0&&decide (0 < scmpI (soaM d).s1 s0))):=hid rfl
    go_upto_region 9 with fail
    clear g8 gx9 x2 y2;cases hsm:same n [exL]with
    |false=>
     have HD:Hid (putD F n 6 ttl d s0=F):=hid (by rw[HP6.out,hsm];rfl);generalize scmpB (soaM d).s1 s0=tb at *
     refine wp_region_m2 mixed0 (by kernel_rfl) [.is (.bool true),.is (.bool false),.is (.bool false),.is (.pointer (some ⟨w.heap.size+1,0,none⟩)),.is (.slice An n.length cn),.is (.pointer (some ⟨w.heap.size,0,none⟩)),.is (.pointer (some ⟨z,0,none⟩)),.own w.heap.size 9 1 1 ([exL].map strV),.is (.bool false),.is (.bool true),.is (.bool true),.is (.bool true),.any,.any,.is (.bool true),.is (.bool true),.any,.any,.is (.bool true)] ?_ ?_
     ·intro i o hio vals W hE haf;have e0:=(bcl (o:=0) hE hd9).trans d0;have e1:=(bcl (o:=0) hE hr9).trans r0;have hbW:Below w.heap.size w9 W:=hE.mono hw9;rcases i with _|_|_|_|_|_|_|_|_|_|_|_|_|_|_|_|_|_|_|i
      all_goals first
       |(exfalso;simp at hio;done)
       |(simp at hio;subst hio;simp[bindD,rdB,Region.binds,factAt]at haf;simp[opU,go_sem,haf,e0,e1,Ext.refl,factAt];done)
       |skip
      all_goals
       simp at hio;subst hio;simp[bindD,rdB,Region.binds,factAt]at haf
      ·simp[opU,go_sem,haf,e0,e1,Ext.refl,factAt];refine((HZ9.out.ext hE).apex (by decide)).mono fun e W' h=> ?_;obtain⟨v,h1,h2,h3⟩:=h;exact⟨v,h1,h3,own_base h2 (Nat.le_trans hw9 hE.size)⟩
      ·obtain⟨h1,h3,hgd⟩:=haf;obtain⟨A1,c1,h4,_⟩:=own_form h3;rw[h4]at h3;simp[opU,go_sem,h1,h4,hgd,factAt];exact(Same An A1 n [exL] cn c1 W ((cs_own HAL9.out.2.2.2.2.2.2.1).2.below hE) (cs_own h3).2 HN.out.1.few exL_small.few).mono fun e W' h=>⟨by rw[h.2,hsm],h.1⟩
     ·intro vals W hE hR;have f18:vals 18=.bool true:=hR 18 (by decide);simp[relAct,dstAt,Act.put];rw[f18];have HZW:=hid (HZ9.out.ext hE);have HKW:=hid ((HK02.out.trans HK9.out).trans ((Kept.of_ext hE).mono fun _ _ h=>h.elim:Kept S w9 W));clear hE hR;go_wp2_with fail
      refine bodyPost_ret (v:=.tuple #[]) (results_none rfl _ _ _) rfl ⟨rfl,⟨S,N,T, ?_,by omega,by omega,HKW.out,fun i hi=>.inl hi⟩⟩;rw[HD.out];exact HZW.out
    |true=>
     cases hto:scmpB (soaM d).s1 s0 with
     |false=>
      have HD:Hid (putD F n 6 ttl d s0=F):=hid (by rw[HP6.out,HNB.out,hto];simp)
      refine wp_region_m2 mixed0 (by kernel_rfl) [.is (.bool true),.is (.bool false),.is (.bool false),.is (.pointer (some ⟨w.heap.size+1,0,none⟩)),.is (.slice An n.length cn),.is (.pointer (some ⟨w.heap.size,0,none⟩)),.is (.pointer (some ⟨z,0,none⟩)),.own w.heap.size 9 1 1 ([exL].map strV),.is (.bool true),.is (.bool false),.is (.bool false),.is (.bool false),.is (.bool false),.is (.bool true),.is (.bool true),.is (.bool true),.any,.any,.is (.bool true)] ?_ ?_
      ·intro i o hio vals W hE haf;have e0:=(bcl (o:=0) hE hd9).trans d0;have e1:=(bcl (o:=0) hE hr9).trans r0;have hbW:Below w.heap.size w9 W:=hE.mono hw9;rcases i with _|_|_|_|_|_|_|_|_|_|_|_|_|_|_|_|_|_|_|i
       all_goals first
        |(exfalso;simp at hio;done)
        |(simp at hio;subst hio;simp[bindD,rdB,Region.binds,factAt]at haf;simp[opU,go_sem,haf,e0,e1,Ext.refl,factAt];done)
        |skip
       all_goals
        simp at hio;subst hio;simp[bindD,rdB,Region.binds,factAt]at haf
       ·simp[opU,go_sem,haf,e0,e1,Ext.refl,factAt];refine((HZ9.out.ext hE).apex (by decide)).mono fun e W' h=> ?_;obtain⟨v,h1,h2,h3⟩:=h;exact⟨v,h1,h3,own_base h2 (Nat.le_trans hw9 hE.size)⟩
       ·obtain⟨h1,h3,hgd⟩:=haf;obtain⟨A1,c1,h4,_⟩:=own_form h3;rw[h4]at h3;simp[opU,go_sem,h1,h4,hgd,factAt];exact(Same An A1 n [exL] cn c1 W ((cs_own HAL9.out.2.2.2.2.2.2.1).2.below hE) (cs_own h3).2 HN.out.1.few exL_small.few).mono fun e W' h=>⟨by rw[h.2,hsm],h.1⟩
      ·intro vals W hE hR;have f18:vals 18=.bool true:=hR 18 (by decide);simp[relAct,dstAt,Act.put];rw[f18];have HZW:=hid (HZ9.out.ext hE);have HKW:=hid ((HK02.out.trans HK9.out).trans ((Kept.of_ext hE).mono fun _ _ h=>h.elim:Kept S w9 W));clear hE hR;go_wp2_with fail
       refine bodyPost_ret (v:=.tuple #[]) (results_none rfl _ _ _) rfl ⟨rfl,⟨S,N,T, ?_,by omega,by omega,HKW.out,fun i hi=>.inl hi⟩⟩;rw[HD.out];exact HZW.out
     |true=>
      refine wp_region_m2 mixed0 (by kernel_rfl) [.is (.bool true),.is (.bool false),.is (.bool false),.is (.pointer (some ⟨w.heap.size+1,0,none⟩)),.is (.slice An n.length cn),.is (.pointer (some ⟨w.heap.size,0,none⟩)),.is (.pointer (some ⟨z,0,none⟩)),.own w.heap.size 9 1 1 ([exL].map strV),.is (.bool true),.is (.bool false),.is (.bool false),.is (.bool false),.is (.bool true),.is (.bool false),.is (.bool false),.is (.bool false),.is (.int .i64 (scmpI (soaM d).s1 s0)),.is (.bool (decide (scmpI (soaM d).s1 s0≤0))),.is (.bool (decide (scmpI (soaM d).s1 s0≤0)))] ?_ ?_
      ·intro i o hio vals W hE haf;have e0:=(bcl (o:=0) hE hd9).trans d0;have e1:=(bcl (o:=0) hE hr9).trans r0;have hbW:Below w.heap.size w9 W:=hE.mono hw9;rcases i with _|_|_|_|_|_|_|_|_|_|_|_|_|_|_|_|_|_|_|i
       all_goals first
        |(exfalso;simp at hio;done)
        |(simp at hio;subst hio;simp[bindD,rdB,Region.binds,factAt]at haf;simp[opU,go_sem,haf,e0,e1,Ext.refl,factAt];done)
        |skip
       all_goals
        simp at hio;subst hio;simp[bindD,rdB,Region.binds,factAt]at haf
       ·simp[opU,go_sem,haf,e0,e1,Ext.refl,factAt];refine((HZ9.out.ext hE).apex (by decide)).mono fun e W' h=> ?_;obtain⟨v,h1,h2,h3⟩:=h;exact⟨v,h1,h3,own_base h2 (Nat.le_trans hw9 hE.size)⟩
       ·obtain⟨h1,h3,hgd⟩:=haf;obtain⟨A1,c1,h4,_⟩:=own_form h3;rw[h4]at h3;simp[opU,go_sem,h1,h4,hgd,factAt];exact(Same An A1 n [exL] cn c1 W ((cs_own HAL9.out.2.2.2.2.2.2.1).2.below hE) (cs_own h3).2 HN.out.1.few exL_small.few).mono fun e W' h=>⟨by rw[h.2,hsm],h.1⟩
      ·intro vals W hE hR;have f18:vals 18=.bool (decide (scmpI (soaM d).s1 s0≤0)):=hR 18 (by decide);simp[relAct,dstAt,Act.put];rw[f18];have HZW:=hid (HZ9.out.ext hE);have HKW:Hid (Kept S w2 W):=hid (HK9.out.trans ((Kept.of_ext hE).mono fun _ _ h=>h.elim:Kept S w9 W));have hs9:=hE.size;clear hE hR f18;by_cases hle:scmpI (soaM d).s1 s0≤0
       ·have HD:Hid (putD F n 6 ttl d s0=F):=hid (by
         rw[HP6.out,HNB.out,show decide (0 < scmpI (soaM d).s1 s0)=false from decide_eq_false (by omega),Bool.and_false,Bool.and_false];rfl)
        rw[decide_eq_true hle];go_wp2_with fail;refine bodyPost_ret (v:=.tuple #[]) (results_none rfl _ _ _) rfl ⟨rfl,⟨S,N,T, ?_,by omega,by omega,HK02.out.trans HKW.out,fun i hi=>.inl hi⟩⟩;rw[HD.out];exact HZW.out
       ·have HD:Hid (putD F n 6 ttl d s0=(putC (updC F (lower n) 6 none) (lower n) 6 ttl d (canonD 6 d)).1):=hid (by
         rw[HP6.out,HNB.out,show decide (0 < scmpI (soaM d).s1 s0)=true from decide_eq_true (by omega),hsm,hto];rfl)
        rw[decide_eq_false hle];have HALW:=hid (HALL.out _ HKW.out);have HP1:=hid (HZW.out.dropSet An n cn 6 (own_base HALW.out.2.2.2.2.2.2.1 (Nat.zero_le _)) HN.out.1 HN.out.2 hwt (Nat.le_refl 1) hapn (by omega) (by omega) (by decide));clear d0 r0 r1 r2 r3 r4;obtain⟨d0,r0,r1,r2,r3,r4,_⟩:=HALW.out;go_wp2_with fail;refine HP1.out.mono ?_;rintro e w4 ⟨S1,N1,T1,rfl,hz1,hN1,hT1,hk1,hS1⟩
        have hN1':N1≤2000000000000:=by omega
        have hKA:Kept S w2 w4:=HKW.out.trans hk1;have HAL4:=hid (HALL.out _ hKA);have HP:=hid (hz1.put An n cn Ad d cd 6 ttl (cs_own HAL4.out.2.2.2.2.2.2.1).2 (own_base HAL4.out.2.2.2.2.2.2.2 (Nat.zero_le _)) (canonD 6 d) hrec.out exL_small (Nat.le_refl 1) exL_low (by omega) (by omega));have H4:=hid (And.intro hS1 (HK02.out.trans hKA));have hs34:=hk1.size
        clear hz1 hk1 hS1 hKA d0 r0 r1 r2 r3 r4;obtain⟨d0,r0,r1,r2,r3,r4,_⟩:=HAL4.out;go_wp2_with fail;refine HP.out.mono ?_;rintro e wP ⟨S3,N3,T3,rfl,hz3,hN3,hT3,hk3,hS3⟩;have HE:=hid (And.intro hz3 (And.intro hk3 hS3));clear hz3 hk3 hS3 d0 r0 r1 r2 r3 r4;go_wp2_with fail;refine(umust_yes 2 _).mono ?_;rintro e wQ ⟨rfl,rfl⟩;go_wp2_with fail
        go_end0
        refine⟨rfl,⟨S3,N3,T3, ?_,by omega,by omega,H4.out.2.then HE.out.2.1 (fun i _ e=>H4.out.1 i e),fun i hi=> ?_⟩⟩
        ·rw[HD.out];exact HE.out.1
        ·rcases HE.out.2.2 i hi with e|e
         ·exact .inl (H4.out.1 i e)
         ·exact .inr (by omega)
   ·have ht6b:(t==6)=false:=by simpa using ht6
    have HD:Hid (putD F n t ttl d s0=(putC F (lower n) t ttl d (canonD t d)).1):=hid (by unfold putD;rw[if_neg ht5,if_neg (by rw[←HA.out];decide),if_neg ht6]);have HP:=hid (HZ3.out.put An n cn Ad d cd t ttl (cs_own HAL.out.2.2.2.2.2.2.1).2 (own_base HAL.out.2.2.2.2.2.2.2 (Nat.zero_le _)) (canonD t d) hrec.out exL_small (Nat.le_refl 1) exL_low (by omega) (by omega));go_wp2_with fail
    refine HP.out.mono ?_;rintro e wP ⟨S3,N3,T3,rfl,hz3,hN3,hT3,hk3,hS3⟩;have HE:=hid (And.intro hz3 (And.intro hk3 hS3));clear hz3 hk3 hS3 d0 r0 r1 r2 r3 r4;go_wp2_with fail;refine(umust_yes 2 _).mono ?_;rintro e wQ ⟨rfl,rfl⟩;go_wp2_with fail
    go_end0
    refine⟨rfl,⟨S3,N3,T3, ?_,by omega,hT3,(HK02.out.trans HK3.out).trans HE.out.2.1,fun i hi=> ?_⟩⟩
    ·rw[HD.out];exact HE.out.1
    ·rcases HE.out.2.2 i hi with e|e
     ·exact .inl e
     ·exact .inr (by omega)
def tyU:List Int:=[1,2,5,6,15,16,28,43,99]
structure UF(F:Cont):Prop where
 ty:∀n t x,F n t=some x→t∈tyU
 ok:∀n t ttl ds,F n t=some (ttl,ds)→0≤ttl∧ttl < 4294967296∧∀e∈ds,e.1.length≤100000
 soa:∃ttl s m,s < 4294967296∧m < 4294967296∧F [exL] 6=some (ttl,[(soaD s m,soaD s m)])
section
variable {F:Cont}
theorem UF.few(h:UF F):Few12 F:=fun n=>⟨tyU,by decide,fun t ht=>by
 cases hF:F n t with
 |none=>exact absurd hF ht
 |some x=>exact h.ty n t x hF⟩
theorem UF.short(h:UF F):ShortC F:=fun n t ttl ds hF e he=>(h.ok n t ttl ds hF).2.2 e he
theorem UF.ttl(h:UF F):TtlC F:=fun n t ttl ds hF=>⟨(h.ok n t ttl ds hF).1,(h.ok n t ttl ds hF).2.1⟩
theorem UF.no255(h:UF F)(n:List Lab):F n 255=none:=by
 cases hF:F n 255 with
 |none=>rfl
 |some x=>exact absurd (h.ty n 255 x hF) (by decide)
structure URok(r:UR):Prop where
 ok:UOk r
 inn:within r.n [exL]=true
 ty:r.cl≠255→r.t∈tyU∧chk r.t r.d=true
 cl:r.cl=1∨r.cl=254∨r.cl=255
 soa:r.cl=1→r.t=6→∃s m,s < 4294967296∧m < 4294967296∧r.d=soaD s m
 ttl:0≤r.ttl∧r.ttl < 4294967296
def serF(F:Cont):Nat:=match F [exL] 6 with
 |some (_,(d,_)::_)=>(soaM d).s1
 |_=>0
noncomputable def stepD(F:Cont)(r:UR):Cont:=if r.cl=1 then putD F r.n r.t r.ttl r.d (serF F)else dropD F r.n r.t r.cl r.d
theorem serF_of{ttl:Int}{s m:Nat}(hs:s < 4294967296)(hm:m < 4294967296)(h:F [exL] 6=some (ttl,[(soaD s m,soaD s m)])):serF F=s:=by
 unfold serF;rw[h];simp only;rw[soaD_m hs hm];rfl
theorem insA_mem{ds:List (Lab×Lab)}{d c:Lab}{e:Lab×Lab}(h:e∈insA ds d c):e=(d,c)∨e∈ds:=by
 induction ds with
 |nil=>simp[insA]at h;exact .inl h
 |cons x ds ih=>
  unfold insA at h;split at h
  ·rcases List.mem_cons.1 h with e1|e1
   ·exact .inr (by rw[e1];simp)
   ·rcases ih e1 with e2|e2
    ·exact .inl e2
    ·exact .inr (by simp[e2])
  ·rcases List.mem_cons.1 h with e1|e1
   ·exact .inl e1
   ·exact .inr e1
theorem UF.gone(h:UF F){n:List Lab}{t:Int}(hne:¬(n=[exL]∧t=6)):UF (updC F n t none):=by
 refine⟨fun a b x hx=> ?_,fun a b ttl ds hx=> ?_, ?_⟩
 ·by_cases e:a=n∧b=t
  ·rw[e.1,e.2,updC_at]at hx;cases hx
  ·rw[updC_ne _ _ e]at hx;exact h.ty a b x hx
 ·by_cases e:a=n∧b=t
  ·rw[e.1,e.2,updC_at]at hx;cases hx
  ·rw[updC_ne _ _ e]at hx;exact h.ok a b ttl ds hx
 ·obtain⟨ttl,s,m,h1,h2,h3⟩:=h.soa;exact⟨ttl,s,m,h1,h2,by rw[updC_ne _ _ (fun e=>hne ⟨e.1.symm,e.2.symm⟩)];exact h3⟩
structure UF0(F:Cont):Prop where
 ty:∀n t x,F n t=some x→t∈tyU
 ok:∀n t ttl ds,F n t=some (ttl,ds)→0≤ttl∧ttl < 4294967296∧∀e∈ds,e.1.length≤100000
theorem UF.zero(h:UF F):UF0 F:=⟨h.ty,h.ok⟩
theorem UF0.upd(h:UF0 F){n:List Lab}{t:Int}{x:Option (Int×List (Lab×Lab))}(hx:∀ttl ds,x=some (ttl,ds)→t∈tyU∧0≤ttl∧ttl < 4294967296∧∀e∈ds,e.1.length≤100000):UF0 (updC F n t x):=by
 refine⟨fun a b y hy=> ?_,fun a b ttl ds hy=> ?_⟩
 ·by_cases e:a=n∧b=t
  ·rw[e.1,e.2,updC_at]at hy;obtain⟨a1,a2⟩:=y;rw[e.2];exact(hx a1 a2 hy).1
  ·rw[updC_ne _ _ e]at hy;exact h.ty a b y hy
 ·by_cases e:a=n∧b=t
  ·rw[e.1,e.2,updC_at]at hy;exact(hx ttl ds hy).2
  ·rw[updC_ne _ _ e]at hy;exact h.ok a b ttl ds hy
theorem UF0.put(h:UF0 F){n:List Lab}{t ttl:Int}{d c:Lab}(ht:t∈tyU)(h0:0≤ttl)(h1:ttl < 4294967296)(hd:d.length≤100000):UF0 (putC F n t ttl d c).1:=by
 unfold putC;cases hF:F n t with
 |none=>
  refine h.upd fun ttl' ds e=> ?_;injection e with e;injection e with e1 e2;subst e1 e2;exact⟨ht,h0,h1,fun e he=>by simp at he;rw[he];exact hd⟩
 |some x=>
  obtain⟨t0,ds⟩:=x;have hds:=(h.ok n t t0 ds hF).2.2;simp only;split
  ·refine h.upd fun ttl' ds' e=> ?_;injection e with e;injection e with e1 e2;subst e1 e2;exact⟨ht,h0,h1,hds⟩
  ·refine h.upd fun ttl' ds' e=> ?_;injection e with e;injection e with e1 e2;subst e1 e2;exact⟨ht,h0,h1,fun e he=>by
    rcases insA_mem he with rfl|he
    ·exact hd
    ·exact hds e he⟩
theorem putC_other{n m:List Lab}{t s ttl:Int}{d c:Lab}(hne:¬(m=n∧s=t)):(putC F n t ttl d c).1 m s=F m s:=by
 unfold putC;cases hF:F n t with
 |none=>simp only;rw[updC_ne _ _ hne]
 |some x=>
  obtain⟨t0,ds⟩:=x;simp only;split <;> (simp only;rw[updC_ne _ _ hne])
theorem UF.of0(h:UF0 F){ttl:Int}{s m:Nat}(hs:s < 4294967296)(hm:m < 4294967296)(hF:F [exL] 6=some (ttl,[(soaD s m,soaD s m)])):UF F:=⟨h.ty,h.ok,ttl,s,m,hs,hm,hF⟩
theorem UF.put(h:UF F){r:UR}(hr:URok r)(hc:r.cl=1)(s0:Nat):UF (putD F r.n r.t r.ttl r.d s0):=by
 obtain⟨ttl,s,m,g1,g2,g3⟩:=h.soa;obtain⟨t1,t2⟩:=hr.ty (by rw[hc];decide);unfold putD;split
 ·rename_i h5;split
  ·exact h
  ·have h2:UF0 (updC F (lower r.n) 5 none):=h.zero.upd fun _ _ e=>by cases e
   refine UF.of0 (h2.put (by decide) hr.ttl.1 hr.ttl.2 hr.ok.len) g1 g2 (ttl:=ttl) ?_;rw[putC_other (fun e=>absurd e.2 (by decide)),updC_ne _ _ (fun e=>absurd e.2 (by decide))];exact g3
 ·split
  ·exact h
  ·split
   ·rename_i h6;split
    ·rename_i hsn;rw[Bool.and_eq_true]at hsn;have hl:lower r.n=[exL]:=by have:=(same_iff r.n [exL]).1 hsn.1;rw[this];rfl
     obtain⟨s',m',k1,k2,k3⟩:=hr.soa hc h6;have h2:UF0 (updC F (lower r.n) 6 none):=h.zero.upd fun _ _ e=>by cases e
     refine UF.of0 (h2.put (by decide) hr.ttl.1 hr.ttl.2 hr.ok.len) k1 k2 (ttl:=r.ttl) ?_;rw[hl,k3,soaD_can k1 k2,(next_step g3 s' m' r.ttl).2];show soaC F r.ttl s' m' [exL] 6=_;exact updC_at _ _ _ _
    ·exact h
   ·rename_i h6;refine UF.of0 (h.zero.put t1 hr.ttl.1 hr.ttl.2 hr.ok.len) g1 g2 (ttl:=ttl) ?_;rw[putC_other (fun e=>h6 e.2.symm)];exact g3
theorem held_soa{n:List Lab}(h:lower n=[exL]):heldB n 6=true:=by
 unfold heldB;rw[(same_iff n [exL]).2 (by rw[h];rfl)];rfl
theorem UF.drop(h:UF F){n:List Lab}{t cl:Int}{d:Lab}:UF (dropD F n t cl d):=by
 obtain⟨ttl,s,m,g1,g2,g3⟩:=h.soa;unfold dropD;split
 ·split
  ·refine⟨fun a b x hx=> ?_,fun a b ttl ds hx=> ?_,ttl,s,m,g1,g2, ?_⟩
   ·unfold cutC at hx;split at hx
    ·cases hx
    ·exact h.ty a b x hx
   ·unfold cutC at hx;split at hx
    ·cases hx
    ·exact h.ok a b ttl ds hx
   ·unfold cutC;rw[if_neg]
    ·exact g3
    ·rintro⟨e1,e2⟩;simp only[held_soa e1.symm]at e2;exact absurd e2 (by decide)
  ·split
   ·exact h
   ·rename_i hh;refine h.gone fun e=>hh ?_;rw[e.2];exact held_soa e.1
 ·split
  ·exact h
  ·rename_i h6;cases hF:F (lower n) t with
   |none=>exact h
   |some x=>
    obtain⟨t0,ds⟩:=x;simp only;split
    ·unfold dropC;rw[hF];simp only;split
     ·have h2:UF0 (updC F (lower n) t (if(ds.filter fun e=> !(e.2==canonD t d))=[]then none else some (t0,ds.filter fun e=> !(e.2==canonD t d)))):=h.zero.upd fun ttl' ds' e=>by
       split at e
       ·cases e
       ·injection e with e;injection e with e1 e2;subst e1 e2;have:=h.ok _ _ _ _ hF;exact⟨h.ty _ _ _ hF,this.1,this.2.1,fun e he=>this.2.2 e ((List.mem_filter.1 he).1)⟩
      refine UF.of0 h2 g1 g2 (ttl:=ttl) ?_;simp only;rw[updC_ne _ _ (fun e=>h6 e.2.symm)];exact g3
     ·exact h
    ·exact h
theorem UF.step(h:UF F){r:UR}(hr:URok r):UF (stepD F r):=by
 unfold stepD;split
 ·rename_i hc;exact h.put hr hc _
 ·exact h.drop
theorem UF.next(h:UF F)(ttl:Int)(s m old:Nat)(h0:0≤ttl)(h1:ttl < 4294967296)(ho:old < 4294967296)(hm:m < 4294967296):UF (nextC F ttl s m old):=by
 unfold nextC;split
 ·unfold soaC;refine UF.of0 (h.zero.upd fun ttl' ds e=> ?_) (nextN_lt ho) hm (ttl:=ttl) (updC_at _ _ _ _);injection e with e;injection e with e1 e2;subst e1 e2;exact⟨by decide,h0,h1,fun e he=>by simp at he;rw[he];show(soaD _ _).length≤_;rw[soaD_len];omega⟩
 ·exact h
end
end Nm
namespace Nm
theorem Zo.value{w:World}{B z:Nat}{S:Nat→Prop}{ap:List Lab}{F:Cont}{N T:Nat}(h:Zo w B z S ap F N T):∃A ca bn bb,w.heap[z]? =some (.cells #[.slice A ap.length ca,.map (some bn),.map (some bb),.int .i64 (T:Int)] 103 (0,0)):=by
 obtain⟨bn,bb,P,Q,h1,h2,rfl,rfl,rfl⟩:=h.ex;obtain⟨D,hz,_⟩:=h1.zn;obtain⟨A,ca,g1,g2⟩:=hz.blk;exact⟨A,ca,bn,bb,g1⟩
theorem Zo.moved{w w':World}{B c z:Nat}{S:Nat→Prop}{ap:List Lab}{F:Cont}{N T:Nat}(h:Zo w B c S ap F N T){cs:Array Value}(hz:w.heap[z]? =some (.cells cs 103 (0,0)))(hS:¬S z)(hB:B≤z)(hk:Kept (fun k=>k=z) w w')(he:w'.heap[z]? =w.heap[c]?):
 ∃S',Zo w' B z S' ap F N T∧∀k,S' k→k=z∨S k:=by
 obtain⟨bn,bb,P,Q,h1,h2,rfl,rfl,rfl⟩:=h.ex;have h3:=h1.kept hk (Zonal.cells hz (by unfold zT;decide)) (fun k e=>by rw[e];exact hS);obtain⟨D0,hz0,_⟩:=h1.zn;obtain⟨A0,ca0,g1,g2⟩:=hz0.blk;obtain⟨D,hzn,hE⟩:=h3.zn;obtain⟨A,ca,g3,g4⟩:=hzn.blk;have hcz:c≠z:=fun e=>hS (e▸.inl rfl);have g5:w'.heap[z]? =w'.heap[c]?:=by rw[he,hk.block c (lt_block g1) hcz]
 refine⟨zblk z bn bb P Q,⟨bn,bb,P,Q,⟨⟨D,⟨⟨A,ca,g5.trans g3,g4⟩,hzn.nodes,hzn.below,hzn.ne,hB,hzn.h2,hzn.h3⟩,hE⟩,h3.nd,h3.sd,h3.dbs,h3.ds,h3.dv⟩,h2,rfl,rfl,rfl⟩,fun k hk=> ?_⟩;rcases hk with e|e
 ·exact .inl e
 ·exact .inr (.inr e)
noncomputable def changedB(F G:Cont):Bool:= @decide (∃L M,LstP F L∧LstP G M∧diffL (L.map PR.says) (M.map PR.says)≠[]) (Classical.propDecidable _)
theorem changedB_of{F G:Cont}{L M:List PR}(hL:LstP F L)(hM:LstP G M):changedB F G=true↔diffL (L.map PR.says) (M.map PR.says)≠[]:=by
 unfold changedB;rw[@decide_eq_true_iff _ (Classical.propDecidable _)];constructor
 ·rintro⟨L',M',h1,h2,h3⟩;rw[hL.uniq h1,hM.uniq h2];exact h3
 ·intro h;exact⟨L,M,hL,hM,h⟩
def nextF(F:Cont)(old:Nat):Cont:=match F [exL] 6 with
 |some (ttl,(d,_)::_)=>nextC F ttl (soaM d).s1 (soaM d).s5 old
 |_=>F
theorem nextF_of{F:Cont}{ttl:Int}{s m:Nat}(hs:s < 4294967296)(hm:m < 4294967296)(h:F [exL] 6=some (ttl,[(soaD s m,soaD s m)]))(old:Nat):nextF F old=nextC F ttl s m old:=by
 unfold nextF;rw[h];simp only;rw[soaD_m hs hm];rfl
noncomputable def applyC(F:Cont)(us:List UR):Cont:=if changedB F (us.foldl stepD F)then nextF (us.foldl stepD F) (serF F)else us.foldl stepD F
theorem stepD_in{F:Cont}{n:List Lab}{t ttl:Int}{d:Lab}:stepD F ⟨n,t,1,ttl,d⟩=putD F n t ttl d (serF F):=if_pos rfl
theorem stepD_out{F:Cont}{n:List Lab}{t cl ttl:Int}{d:Lab}(h:¬cl=1):stepD F ⟨n,t,cl,ttl,d⟩=dropD F n t cl d:=if_neg h
structure MsgU(w:World)(bm:Nat)(Aq:Option Addr)(nq:Nat)(cq:Nat)(Ap:Option Addr)(np cp:Nat)(Au:Option Addr)(nu cu:Nat):Prop where
 lt:bm < w.heap.size
 q:w.cell? ⟨bm,8,none⟩=some (.slice Aq nq cq)
 p:w.cell? ⟨bm,9,none⟩=some (.slice Ap np cp)
 u:w.cell? ⟨bm,10,none⟩=some (.slice Au nu cu)
theorem MsgU.below{w w':World}{bm:Nat}{Aq:Option Addr}{nq cq:Nat}{Ap:Option Addr}{np cp:Nat}{Au:Option Addr}{nu cu:Nat}(h:MsgU w bm Aq nq cq Ap np cp Au nu cu)(hb:Below w.heap.size w w'):MsgU w' bm Aq nq cq Ap np cp Au nu cu:=
 ⟨Nat.lt_of_lt_of_le h.lt hb.size,(bcl hb h.lt).trans h.q,(bcl hb h.lt).trans h.p,(bcl hb h.lt).trans h.u⟩
structure QueU(w:World)(bq oq:Nat)(An:Option Addr)(cn:Nat):Prop where
 lt:bq < w.heap.size
 n:w.cell? ⟨bq,oq,none⟩=some (.slice An 1 cn)
 t:w.cell? ⟨bq,oq+1,none⟩=some (.int .u16 6)
 c:w.cell? ⟨bq,oq+2,none⟩=some (.int .u16 1)
 nm:Cs w An ([exL].map strV)
theorem QueU.below{w w':World}{bq oq:Nat}{An:Option Addr}{cn:Nat}(h:QueU w bq oq An cn)(hb:Below w.heap.size w w'):QueU w' bq oq An cn:=
 ⟨Nat.lt_of_lt_of_le h.lt hb.size,(bcl hb h.lt).trans h.n,(bcl hb h.lt).trans h.t,(bcl hb h.lt).trans h.c,h.nm.below hb⟩
theorem cells3{w:World}{g:Nat}{T:TypeId}{c0 c1 c2:Value}(h:w.heap[g]? =some (.cells #[c0,c1,c2] T (0,0))):
 w.cell? ⟨g,0,none⟩=some c0∧w.cell? ⟨g,1,none⟩=some c1∧w.cell? ⟨g,2,none⟩=some c2∧∀i,w.frozen? ⟨g,i,none⟩=false:=by
 refine⟨?_, ?_, ?_,fun i=>by simp[World.frozen?,h]⟩ <;> (rw[cell_of_row w g _ _ _ _ h];rfl)
noncomputable def codeU(F:Cont)(most:Int)(ps us:List UR):Int:=if firstC (pre1 F [exL]) ps=0 then firstC (scan1 [exL] most) us else firstC (pre1 F [exL]) ps
structure ApplyTo(w w':World)(B z bl:Nat)(F:Cont)(N T:Nat)(us:List UR):Prop where
 ex:∃S' N' T' v,∃xs:List ChB,∃L M:List PR,Zo w' B z S' [exL] (applyC F us) N' T'∧N'≤N+24000 *us.length+10000∧T'≤T+us.length∧Kept (fun k=>k=z∨k=bl) w w'∧(∀k,S' k→k=z∨w.heap.size≤k)∧
  w'.heap[bl]? =some (.cells #[v] 82 (0,0))∧ChV w' w.heap.size w.heap.size v xs∧LstP F L∧LstP (applyC F us) M∧xs.map (fun x=>(x.1,x.2.says))=diffL (L.map PR.says) (M.map PR.says)
theorem UApply1_none(w:World)(bm:Nat)(v1 v2 v3:Value)(cq:Nat)(Ap:Option Addr)(np cp:Nat)(Au:Option Addr)(nu cu:Nat)(hm:MsgU w bm none 0 cq Ap np cp Au nu cu):
 Calls prog 93 #[.pointer (some ⟨bm,0,none⟩),v1,v2,v3] w fun e w'=>e=.panicked (refP 1)∧w=w':=by
 have m8:=hm.q;go_enter func93,ntmps93;go_wp2_with fail;refine(umust_no 1 _).mono ?_;rintro e w' ⟨rfl,rfl⟩;go_wp2_with fail;exact⟨rfl,rfl,rfl⟩
theorem UApply1(w:World)(bm bz bt bl:Nat)(B z:Nat)(S:Nat→Prop)(F:Cont)(N T:Nat)(h:Zo w B z S [exL] F N T)(hU:UF F)(most:Int)(lv:Value)
 (bq oq cq:Nat) (Aq:Option Addr) (cn:Nat) (Ap:Option Addr) (ps:List UcB) (cp Bp:Nat) (Au:Option Addr) (us:List UcB) (cu Bu:Nat)
 (hm:MsgU w bm (some ⟨bq,oq,none⟩) 1 cq Ap ps.length cp Au us.length cu) (hq:QueU w bq oq Aq cn) (hbz:w.heap[bz]? =some (.cells #[.pointer (some ⟨z,0,none⟩)] 25 (0,0))) (hbt:w.heap[bt]? =some (.cells #[.int .u32 most] 35 (0,0))) (hbl:w.heap[bl]? =some (.cells #[lv] 82 (0,0)))
 (hps:UcV w Bp (.slice Ap ps.length cp) ps) (hus:UcV w Bu (.slice Au us.length cu) us) (hpl:ps.length≤1000) (hul:us.length≤100) (hT:T+us.length≤800) (hN:N+24000 *us.length≤1800000000000)
 (hpo:∀r∈ps,UOk r.says∧r.cl≠1) (huo:∀r∈us,UOk r.says) (hur:firstC (scan1 [exL] most) (us.map UcB.says)=0→∀r∈us,URok r.says):
 Calls prog 93 #[.pointer (some ⟨bm,0,none⟩),.pointer (some ⟨bz,0,none⟩),.pointer (some ⟨bt,0,none⟩),.pointer (some ⟨bl,0,none⟩)] w fun e w'=>(codeU F most (ps.map UcB.says) (us.map UcB.says)≠0∧e=.panicked (refP (codeU F most (ps.map UcB.says) (us.map UcB.says)))∧Below w.heap.size w w')∨(codeU F most (ps.map UcB.says) (us.map UcB.says)=0∧e=.returned (.tuple #[])∧ApplyTo w w' B z bl F N T (us.map UcB.says)):=by
 have m8:=hm.q;have qn:=hq.n;have qt:=hq.t;have qc:=hq.c;go_enter func93,ntmps93;go_wp2_with fail;refine(umust_yes 1 _).mono ?_;rintro e w' ⟨rfl,rfl⟩
 go_upto_region 2 with fail
 have b1:Below w.heap.size w (w.alloc (.cells #[.slice Aq 1 cn,.int .u16 6,.int .u16 1] 135)):=bAl;have q1:=heap_alloc_new w (.cells #[.slice Aq 1 cn,.int .u16 6,.int .u16 1] 135);generalize w.alloc (.cells #[.slice Aq 1 cn,.int .u16 6,.int .u16 1] 135)=w1 at *;obtain⟨k0,k1,k2,_⟩:=cells3 q1;have hql:=lt_block q1;have hzl:=lt_block hbz;have htl:=lt_block hbt
 have hml:=hm.lt;obtain⟨z0,_⟩:=cells1 hbz;obtain⟨t0,_⟩:=cells1 hbt;obtain⟨c1,hc1⟩:∃c,firstC (pre1 F [exL]) (ps.map UcB.says)=c:=⟨_,rfl⟩
 obtain⟨c2,hc2⟩:∃c,firstC (scan1 [exL] most) (us.map UcB.says)=c:=⟨_,rfl⟩
 have HC:Hid (codeU F most (ps.map UcB.says) (us.map UcB.says)=if c1=0 then c2 else c1):=hid (by unfold codeU;rw[hc1,hc2]);have HPre:Hid (∀W,Below w.heap.size w W→Calls prog 41 #[.pointer (some ⟨z,0,none⟩),.slice Ap ps.length cp] W fun e w'=>Below W.heap.size W w'∧e=.returned (.int .i64 c1)):=hid fun W hW=>by
  have:=UPrereq W B z S [exL] F N T (h.ext hW) (by omega) hU.few hU.short exL_small Ap ps cp Bp (hps.below hW) (by omega) (fun r hr=>(hpo r hr).1) (fun r hr=>(hpo r hr).2);rw[hc1]at this;exact this
 have HScan:Hid (∀W,Below w.heap.size w W→Calls prog 43 #[.pointer (some ⟨z,0,none⟩),.int .u32 most,.slice Au us.length cu] W fun e w'=>Below W.heap.size W w'∧e=.returned (.int .i64 c2)):=hid fun W hW=>by
  have:=UScan W B z S [exL] F N T (h.ext hW) exL_small Au us cu Bu most (hus.below hW) (by omega) huo;rw[hc2]at this;exact this
 rw[hc2]at hur;have m9:=hm.p;have m10:=hm.u;have HH:=hid (And.intro h (And.intro hbz (And.intro hbl (And.intro hus hur))));have HQN:=hid hq.nm;have HM:=hid hm;clear h hbz hbt hps hpo huo hur hc1 hc2 q1 m8 qn qt qc hm hq
 refine wp_region_m2 mixed0 (by kernel_rfl) [.is (.pointer (some ⟨w.heap.size,2,none⟩)),.is (.int .u16 1),.is (.bool true),.is (.bool true),.is (.pointer (some ⟨w.heap.size,0,none⟩)),.is (.slice Aq 1 cn),.is (.pointer (some ⟨z,0,none⟩)),.own w.heap.size 9 1 1 ([exL].map strV),.is (.bool true),.is (.bool true),.is (.tuple #[])] ?_ ?_
 ·intro i o hio vals W hE haf;have hbW:Below w.heap.size w W:=b1.trans (hE.mono b1.size);have e0:=(bcl (o:=0) hE hql).trans k0;have e2:=(bcl (o:=2) hE hql).trans k2;have ez:=(bcl (o:=0) hbW hzl).trans z0;rcases i with _|_|_|_|_|_|_|_|_|_|_|i
  all_goals first
   |(exfalso;simp at hio;done)
   |(simp at hio;subst hio;simp[bindD,rdB,Region.binds,factAt]at haf;simp[opU,go_sem,haf,e0,e2,ez,Ext.refl,factAt];done)
   |skip
  all_goals
   simp at hio;subst hio;simp[bindD,rdB,Region.binds,factAt]at haf
  ·simp[opU,go_sem,haf,e0,e2,ez,Ext.refl,factAt];refine((HH.out.1.ext hbW).apex (by decide)).mono fun e W' h=> ?_;obtain⟨v,h1,h2,h3⟩:=h;exact⟨v,h1,h3,own_base h2 hbW.size⟩
  ·obtain⟨h1,h3,hgd⟩:=haf;obtain⟨A1,c3,h4,_⟩:=own_form h3;rw[h4]at h3;simp[opU,go_sem,h1,h4,hgd,factAt];exact(Same Aq A1 [exL] [exL] cn c3 W (HQN.out.below hbW) (cs_own h3).2 exL_small.few exL_small.few).mono fun e W' h=>⟨by rw[h.2];rfl,h.1⟩
  ·simp[opU,go_sem,haf,e0,e2,ez,Ext.refl,factAt];exact(umust_yes 9 W).mono fun e W' h=>⟨h.1,by rw[←h.2];exact Ext.refl W⟩
 ·intro vals W hE hR;have hbW:Below w.heap.size w W:=b1.trans (hE.mono b1.size);simp[relAct,dstAt,Act.put];clear hR k0 k1 k2 hql;have z0:=(bcl (o:=0) hbW hzl).trans z0;have t0:=(bcl (o:=0) hbW htl).trans t0;have m9:=(bcl (o:=9) hbW hml).trans m9;have m10:=(bcl (o:=10) hbW hml).trans m10;have hzl2:=Nat.lt_of_lt_of_le hzl hbW.size;have htl2:=Nat.lt_of_lt_of_le htl hbW.size
  have hml2:=Nat.lt_of_lt_of_le hml hbW.size;have hb2:=hbW;clear hbW hE
  go_upto_region 3 with fail
  generalize W=w2 at *
  refine wp_region_m2 mixed0 (by kernel_rfl) [.is (.pointer (some ⟨z,0,none⟩)),.is (.pointer (some ⟨bm,9,none⟩)),.is (.slice Ap ps.length cp),.is (.int .i64 c1),.is (.pointer (some ⟨z,0,none⟩)),.is (.int .u32 most),.is (.pointer (some ⟨bm,10,none⟩)),.is (.slice Au us.length cu),.is (.int .i64 c2),.own w2.heap.size 3 1 2 [.int .i64 c1,.int .i64 c2],.is (.int .i64 2),.is (.int .i64 0)] ?_ ?_
  ·intro i o hio vals W hE haf;have hbW:Below w.heap.size w W:=hb2.trans (hE.mono hb2.size);have ez:=(bcl (o:=0) hE hzl2).trans z0;have et:=(bcl (o:=0) hE htl2).trans t0;have e9:=(bcl (o:=9) hE hml2).trans m9;have e10:=(bcl (o:=10) hE hml2).trans m10;rcases i with _|_|_|_|_|_|_|_|_|_|_|_|i
   all_goals first
    |(exfalso;simp at hio;done)
    |(simp at hio;subst hio;simp[bindD,rdB,Region.binds,factAt]at haf;simp[opU,go_sem,haf,ez,et,e9,e10,Ext.refl,factAt];done)
    |skip
   all_goals
    simp at hio;subst hio;simp[bindD,rdB,Region.binds,factAt]at haf
   ·simp[opU,go_sem,haf,ez,et,e9,e10,Ext.refl,factAt];exact(HPre.out W hbW).mono fun e W' h=>⟨h.2,h.1⟩
   ·simp[opU,go_sem,haf,ez,et,e9,e10,Ext.refl,factAt];exact(HScan.out W hbW).mono fun e W' h=>⟨h.2,h.1⟩
   ·simp[opU,go_sem,haf,ez,et,e9,e10,Ext.refl,factAt];exact⟨bAl,own_row W w2.heap.size 3 [.int .i64 c1,.int .i64 c2] hE.size (by simp)⟩
   ·obtain⟨A1,c3,h4,_⟩:=own_form haf;simp[opU,go_sem,h4,Ext.refl,factAt]
  ·intro vals2 W hE hR;have f9:W.ownsRow w2.heap.size 3 1 (vals2 9) 2 [.int .i64 c1,.int .i64 c2]:=hR 9 (by decide);have f10:vals2 10=.int .i64 2:=hR 10 (by decide);have f11:vals2 11=.int .i64 0:=hR 11 (by decide);obtain⟨A9,c9,e9,_⟩:=own_form f9;rw[e9]at f9;simp[relAct,dstAt,Act.put];rw[f10,f11,e9];have hb3:Below w.heap.size w W:=hb2.trans (hE.mono hb2.size);have hw2:=hb2.size
   have z0:=(bcl (o:=0) hE hzl2).trans z0;have m10:=(bcl (o:=10) hE hml2).trans m10;have HR9:=hid f9;clear hR hE f9 f10 f11 e9 t0 m9
   go_upto_region 4 with fail
   go_loopw [52] (fun i wr=>wr=W∧∃k:Nat,k≤2∧i=.int .i64 (k:Int)∧(1≤k→c1=0)∧(2≤k→c2=0)) (fun i _=>2 - (intOf i).toNat)
   case atStart=>exact⟨rfl,0,by omega,rfl,fun h=>by omega,fun h=>by omega⟩
   case round=>
    obtain⟨rfl,k,hk,rfl,hk1,hk2⟩:=hrel;have hcase:k=0∨k=1∨k=2:=by omega
    rcases hcase with rfl|rfl|rfl
    ·obtain⟨b9,o9,rfl,hb9,hc9⟩:=(cs_own HR9.out).2 0 _ rfl;rw[Nat.add_zero]at hc9;by_cases h0:c1=0
     ·have h0b:(c1==0)=true:=by simpa using h0
      go_wp2_with fail
      first|refine(umust_yes 0 _).mono ?_ |refine(umust_yes c1 _).mono ?_
      rintro e w' ⟨rfl,rfl⟩;go_wp2_with fail
      go_roundw
      case rel=>exact⟨trivial,1,by omega,by go_num,fun _=>h0,fun h=>by omega⟩
      case measure=>simp[intOf]
     ·have h0b:(c1==0)=false:=by simpa using h0
      go_wp2_with fail;refine(umust_no c1 _).mono ?_;rintro e w' ⟨rfl,rfl⟩;go_wp2_with fail;exact⟨rfl,.inl ⟨by rw[HC.out,if_neg h0];exact h0,by rw[HC.out,if_neg h0],hb3⟩⟩
    ·obtain⟨b9,o9,rfl,hb9,hc9⟩:=(cs_own HR9.out).2 1 _ rfl;have h1:=hk1 (by omega);by_cases h0:c2=0
     ·have h0b:(c2==0)=true:=by simpa using h0
      go_wp2_with fail
      first|refine(umust_yes 0 _).mono ?_ |refine(umust_yes c2 _).mono ?_
      rintro e w' ⟨rfl,rfl⟩;go_wp2_with fail
      go_roundw
      case rel=>exact⟨trivial,2,by omega,by go_num,fun _=>h1,fun _=>h0⟩
      case measure=>simp[intOf]
     ·have h0b:(c2==0)=false:=by simpa using h0
      go_wp2_with fail;refine(umust_no c2 _).mono ?_;rintro e w' ⟨rfl,rfl⟩;go_wp2_with fail;exact⟨rfl,.inl ⟨by rw[HC.out,if_pos h1];exact h0,by rw[HC.out,if_pos h1],hb3⟩⟩
    ·have h1:=hk1 (by omega);have h2:=hk2 (by omega);have HUR:=hid (HH.out.2.2.2.2 h2);have HZW:=hid (HH.out.1.ext hb3);have HCP:=hid (HZW.out.copy (by omega));go_wp2_with fail;refine HCP.out.mono ?_;rintro e w4 ⟨hb4,zc,Sc,rfl,hzc,hSc⟩;obtain⟨ttl0,s0,m0,hs0,hm0,hF6⟩:=hU.soa
     have b5:Below w4.heap.size w4 (w4.alloc (.cells #[.pointer (some ⟨zc,0,none⟩)] 156)):=bAl;have q5:=heap_alloc_new w4 (.cells #[.pointer (some ⟨zc,0,none⟩)] 156);have hScl:∀k,Sc k→w.heap.size≤k∧k < w4.heap.size:=fun k hk=>⟨Nat.le_trans hb3.size (hSc k hk),(hzc.lt hk).1⟩
     have hb04:Below w.heap.size w w4:=hb3.trans (hb4.mono hb3.size);dsimp only
     go_upto_region 9 with fail
     generalize w4.alloc (.cells #[.pointer (some ⟨zc,0,none⟩)] 156)=w5 at *;have hb05:Below w.heap.size w w5:=hb04.trans (b5.mono hb04.size);have HSO:=hid (USoa w5 B zc Sc [exL] F (N+2000) T (hzc.ext b5) (by omega) exL_small exL_low ttl0 _ _ hF6 (soaD_b s0 m0) (by rw[soaD_len];omega));have HZ5:=hid (hzc.ext b5);have HSC:=hid hScl;have hg45:w4.heap.size < w5.heap.size:=lt_block q5
     have hw4:w.heap.size≤w4.heap.size:=hb04.size;generalize w4.heap.size=g7 at *;obtain⟨d0,_⟩:=cells1 q5;clear hzc hSc hScl b5 hb4 hb04 z0 m10 hb3 HCP HZW;go_wp2_with fail;refine HSO.out.mono ?_;rintro e w6 ⟨hb6,u,Sm,ca,Sx,cb,rfl,hset,_,_⟩;obtain⟨Am,cm,Ad2,cd2,_,rfl,_⟩:=hset;rw[soaD_m hs0 hm0];unfold SoaM.v;dsimp only[soaG];have hb06:=hb05.trans (hb6.mono hb05.size)
     have q6:=(hb6.block _ (lt_block q5)).trans q5;have HZ6:=hid (HZ5.out.ext hb6);have hs56:=hb6.size;clear hb6 HSO d0 q5 HZ5
     go_upto_region 10 with fail
     have bAA:Below w6.heap.size w6 ((w6.alloc (.cells #[.slice Am 1 cm,.int .u16 6,.int .u32 ttl0,.slice Ad2 1 cd2] 54)).alloc (.cells #[.slice Sm (owner 1).length ca,.slice Sx (owner 2).length cb,.int .u32 (s0:Int),.int .u32 1,.int .u32 2,.int .u32 3,.int .u32 (m0:Int)] 91)):=bAl.alloc (by simp) _
     have gx:=heap_alloc_new (w6.alloc (.cells #[.slice Am 1 cm,.int .u16 6,.int .u32 ttl0,.slice Ad2 1 cd2] 54)) (.cells #[.slice Sm (owner 1).length ca,.slice Sx (owner 2).length cb,.int .u32 (s0:Int),.int .u32 1,.int .u32 2,.int .u32 3,.int .u32 (m0:Int)] 91);have sA1:(w6.alloc (.cells #[.slice Am 1 cm,.int .u16 6,.int .u32 ttl0,.slice Ad2 1 cd2] 54)).heap.size=w6.heap.size+1:=by simp
     rw[sA1]at gx;generalize(w6.alloc (.cells #[.slice Am 1 cm,.int .u16 6,.int .u32 ttl0,.slice Ad2 1 cd2] 54)).alloc (.cells #[.slice Sm (owner 1).length ca,.slice Sx (owner 2).length cb,.int .u32 (s0:Int),.int .u32 1,.int .u32 2,.int .u32 3,.int .u32 (m0:Int)] 91)=w7 at *;clear sA1;have hb07:=hb06.trans (bAA.mono hb06.size);have q7:=(bAA.block _ (lt_block q6)).trans q6
     have HZ7:=hid (HZ6.out.ext bAA);have hs67:=bAA.size;have hg6:g7 < w6.heap.size:=by omega
     generalize w6.heap.size=g9 at *;have M7:=hid (HM.out.below hb07);have HQ7:=hid (And.intro q7 gx);have HB7:=hid hb07;have hw7:w.heap.size≤w7.heap.size:=hb07.size;have hg97:g9+1 < w7.heap.size:=lt_block gx;clear bAA q6 HZ6 hb05 hb06 hb07 q7 gx;have mu:=M7.out.u
     go_upto_region 11 with fail
     go_loopw [73] (fun i wk=>∃k:Nat,k≤us.length∧i=.int .i64 (k:Int)∧Kept Sc w7 wk∧∃Sk Nk Tk,Zo wk B zc Sk [exL] ((us.map UcB.says).take k |>.foldl stepD F) Nk Tk∧UF ((us.map UcB.says).take k |>.foldl stepD F)∧Nk≤N+2000+24000 *k∧Tk≤T+k∧∀i,Sk i→Sc i∨w7.heap.size≤i) (fun i _=>us.length - (intOf i).toNat)
     case atStart=>exact⟨0,Nat.zero_le _,rfl,Kept.refl _ _,Sc,N+2000,T,HZ7.out,hU,by omega,by omega,fun i h=>.inl h⟩
     case round=>
      generalize wr=wk at *;obtain⟨k,hk,rfl,hKk,Sk,Nk,Tk,hzk,hUk,hNk,hTk,hSk⟩:=hrel;by_cases hlt:k < us.length
      ·have hbk:Below w.heap.size w wk:=HB7.out.trans (hKk.below hw7 (fun i _ e=>by have:=(HSC.out i e).1;omega));obtain⟨bu,off,rfl,hbu,r0,r1,r2,r3,r4⟩:=(hus.below hbk).at hlt;have hro:=hus.own _ (List.getElem_mem hlt);have hrk:=HUR.out _ (List.getElem_mem hlt)
       have HST:Hid (∀r,us[k]=r→((us.map UcB.says).take (k+1)).foldl stepD F=stepD (((us.map UcB.says).take k).foldl stepD F) r.says):=hid (by
        rintro r rfl;rw[List.take_succ_eq_append_getElem (by simpa using hlt),List.foldl_append];simp)
       have HST:=hid (HST.out _ rfl);generalize us[k]=r at *;obtain⟨⟨An,n,cn⟩,t,cl,ttl,⟨Ad,d,cd⟩⟩:=r;simp only[UcB.says,NmB.v,Blob.v]at r0 r1 r2 r3 r4 hrk;have HST:Hid (((us.map UcB.says).take (k+1)).foldl stepD F=stepD (((us.map UcB.says).take k).foldl stepD F) ⟨n,t,cl,ttl,d⟩):=HST;obtain⟨ttl1,s1,m1,hs1,hm1,hF1⟩:=hUk.soa;have hse:=serF_of hs1 hm1 hF1
       have hbk1:Below wk.heap.size wk (wk.alloc (.cells #[.slice An n.length cn,.int .u16 t,.int .u16 cl,.int .u32 ttl,.slice Ad d.length cd] 39)):=bAl;have qr:=heap_alloc_new wk (.cells #[.slice An n.length cn,.int .u16 t,.int .u16 cl,.int .u32 ttl,.slice Ad d.length cd] 39)
       have qd:=(hbk1.block g7 (Nat.lt_of_lt_of_le (lt_block HQ7.out.1) hKk.size)).trans ((hKk.block g7 (lt_block HQ7.out.1) (fun e=>by have:=(HSC.out _ e).2;omega)).trans HQ7.out.1)
       go_upto_region 13 with fail
       generalize wk.alloc (.cells #[.slice An n.length cn,.int .u16 t,.int .u16 cl,.int .u32 ttl,.slice Ad d.length cd] 39)=wk1 at *;generalize hgk:wk.heap.size=gk at *;have hkk1:w7.heap.size≤wk1.heap.size:=by have:=hKk.size;have:=hbk1.size;omega
       have hnr:wk1.ownsRow Bu 9 1 (.slice An n.length cn) n.length (n.map strV):=own_below (own_below hro.1 hbk) (by rw[hgk];exact hbk1);have hdr:wk1.ownsRow Bu 5 1 (.slice Ad d.length cd) d.length (d.map byteV):=own_below (own_below hro.2 hbk) (by rw[hgk];exact hbk1);have hz1:=hzk.ext (by rw[hgk];exact hbk1)
       have hK1:Kept Sc w7 wk1:=hKk.trans ((Kept.of_ext (by rw[hgk];exact hbk1)).mono fun _ _ h=>h.elim);obtain⟨x0,x1,x2,x3,x4,_⟩:=cells5 qr;obtain⟨d0,_⟩:=cells1 qd;have HK1:=hid hK1;have HSK:=hid hSk;clear hgk r0 r1 r2 r3 r4 hbk hbk1 hro hK1 hSk hzk hKk qr qd;by_cases hc1:cl=1
       ·subst hc1;have HP:=hid (UPut wk1 B zc Sk _ Nk Tk hz1 (by omega) (by omega) hUk.few hUk.short Bu An n cn t ttl Ad d cd hnr hdr (rec_of hrk.ok.small hrk.ok.name hrk.inn hrk.ok.easy hrk.ok.wf (hrk.ty (show(1:Int)≠255 by decide)).2 hrk.ok.len (own_caps hnr).1 (own_caps hnr).2 (own_caps hdr).1 (own_caps hdr).2) ttl1 s1 m1 hs1 hm1 hF1);have HUS:=hid (hUk.step hrk)
        have HE1:Hid (((us.map UcB.says).take (k+1)).foldl stepD F=putD (((us.map UcB.says).take k).foldl stepD F) n t ttl d s1):=hid (by rw[HST.out,stepD_in,hse]);clear hz1 hnr hdr hrk;go_wp2_with fail;refine HP.out.mono ?_;rintro e w8 ⟨rfl,hto⟩;obtain⟨S',N',T',g1,g2,g3,g4,g5⟩:=hto.ex;have HG:=hid (And.intro g1 (And.intro g4 g5));clear hto g1 g4 g5 x0 x1 x2 x3 x4 d0;go_wp2_with fail
        go_roundw
        case rel=>
         (repeat apply Exists.intro)
         refine⟨⟨k+1,hlt,by go_num,HK1.out.then HG.out.2.1 (fun i hi e=> ?_),S',N',T',by rw[HE1.out];exact HG.out.1,by rw[HST.out];exact HUS.out,by omega,by omega,fun i hi=> ?_⟩,rfl⟩
         ·rcases HSK.out i e with e|e
          ·exact e
          ·omega
         ·rcases HG.out.2.2 i hi with e|e
          ·exact HSK.out i e
          ·exact .inr (by omega)
        case measure=>simp[intOf];omega
       ·have hc1b:(cl==1)=false:=by simpa using hc1
        have hcc:cl=255∨cl=254∧t≠255∧easyT t∧chk t d=true∧d.length≤100000:=by
         rcases hrk.cl with e|e|e
         ·exact absurd e hc1
         ·have e:cl=254:=e;obtain⟨y1,y2⟩:=hrk.ty (by show cl≠255;omega);exact .inr ⟨e,fun e2=>by have e2:t=255:=e2;subst e2;exact absurd y1 (show ¬(255:Int)∈tyU by decide),hrk.ok.easy,y2,hrk.ok.len⟩
         ·exact .inl e
        have HP:=hid (UDrop wk1 B zc Sk _ Nk Tk hz1 (by omega) (by omega) hUk.few hUk.short hUk.no255 Bu An n cn t cl ttl Ad d cd hnr hdr hrk.ok.small hrk.ok.name hrk.inn hrk.ok.wf hcc);have HUS:=hid (hUk.step hrk);have HE1:Hid (((us.map UcB.says).take (k+1)).foldl stepD F=dropD (((us.map UcB.says).take k).foldl stepD F) n t cl d):=hid (by rw[HST.out,stepD_out hc1]);clear hz1 hnr hdr hrk
        go_wp2_with fail;refine HP.out.mono ?_;rintro e w8 ⟨rfl,hto⟩;obtain⟨S',N',T',g1,g2,g3,g4,g5⟩:=hto.ex;have HG:=hid (And.intro g1 (And.intro g4 g5));clear hto g1 g4 g5 x0 x1 x2 x3 x4 d0;go_wp2_with fail
        go_roundw
        case rel=>
         (repeat apply Exists.intro)
         refine⟨⟨k+1,hlt,by go_num,HK1.out.then HG.out.2.1 (fun i hi e=> ?_),S',N',T',by rw[HE1.out];exact HG.out.1,by rw[HST.out];exact HUS.out,by omega,by omega,fun i hi=> ?_⟩,rfl⟩
         ·rcases HSK.out i e with e|e
          ·exact e
          ·omega
         ·rcases HG.out.2.2 i hi with e|e
          ·exact HSK.out i e
          ·exact .inr (by omega)
        case measure=>simp[intOf];omega
      ·have hkk:k=us.length:=by omega
       have hall:((us.map UcB.says).take k)=us.map UcB.says:=List.take_of_length_le (by rw[List.length_map];omega);rw[hall]at hzk hUk;have hbk:Below w.heap.size w wk:=HB7.out.trans (hKk.below hw7 (fun i _ e=>by have:=(HSC.out i e).1;omega));have hSkw:∀i,Sk i→w.heap.size≤i:=fun i hi=>by
        rcases hSk i hi with e|e
        ·exact(HSC.out i e).1
        ·omega
       have qd:=(hKk.block g7 (lt_block HQ7.out.1) (fun e=>by have:=(HSC.out _ e).2;omega)).trans HQ7.out.1;have gx:=(hKk.block (g9+1) (lt_block HQ7.out.2) (fun e=>by have:=(HSC.out _ e).2;omega)).trans HQ7.out.2;have zb:=(hbk.block _ (lt_block HH.out.2.1)).trans HH.out.2.1;have lb:=(hbk.block _ (lt_block HH.out.2.2.1)).trans HH.out.2.2.1;have hzz:=HH.out.1.ext hbk
       have HSK:=hid (And.intro hSkw (And.intro hKk hSk));have HBX:=hid (And.intro qd (And.intro gx (And.intro zb lb)));have HZK:=hid (And.intro hzk (And.intro hzz (And.intro hUk hbk)));have HCH:=hid (UChanges wk B z B zc S Sk [exL] F _ N T Nk Tk hzz hzk (by omega) (by omega) hU.few hUk.few hU.short hUk.short hU.ttl hUk.ttl);obtain⟨d0,_⟩:=cells1 qd;obtain⟨z0,_⟩:=cells1 zb
       have hkw:w.heap.size≤wk.heap.size:=hbk.size;have hlk:=lt_block gx;clear hzk hUk hbk hSkw hKk hSk qd gx zb lb hzz hall;generalize hF1:(us.map UcB.says).foldl stepD F=F1 at *;go_wp2_with fail;refine HCH.out.mono ?_;rintro e wc ⟨hbc,v,xs,L,L',rfl,hch,hL,hL',hdi⟩;have hsc:=hbc.size;obtain⟨Ax,cx,rfl,_⟩:=own_form hch.row;have HCB:Hid (changedB F F1=decide (0 < xs.length)):=hid (by
        rw[Bool.eq_iff_iff,changedB_of hL hL',decide_eq_true_iff,←hdi];cases xs <;> simp)
       have qd:=(hbc.block _ (lt_block HBX.out.1)).trans HBX.out.1;have gx:=(hbc.block _ (lt_block HBX.out.2.1)).trans HBX.out.2.1;have zb:=(hbc.block _ (lt_block HBX.out.2.2.1)).trans HBX.out.2.2.1;have lb:=(hbc.block _ (lt_block HBX.out.2.2.2)).trans HBX.out.2.2.2;have hzk:=HZK.out.1.ext hbc;have hzz:=HZK.out.2.1.ext hbc;have hUk:=HZK.out.2.2.1
       have HK:=hid (HSK.out.2.1.trans ((Kept.of_ext hbc).mono fun _ _ h=>h.elim:Kept Sc wk wc));have hbwc:Below w.heap.size w wc:=HZK.out.2.2.2.trans (hbc.mono HZK.out.2.2.2.size);clear hch hL hL' hdi hbc d0 z0 HCH;obtain⟨d0,_⟩:=cells1 qd;obtain⟨z0,_⟩:=cells1 zb;obtain⟨_,_,x2,_⟩:=cells7 gx;by_cases hx:0 < xs.length
       ·have hxi:(0:Int) < (xs.length:Int):=by omega
        rw[decide_eq_true hx]at HCB;obtain⟨ttl1,s1,m1,hs1,hm1,hF6'⟩:=hUk.soa;have HP:=hid (UNext wc B zc Sk F1 Nk Tk hzk (by omega) (by omega) ttl1 s1 m1 s0 hs1 hm1 hs0 hF6');have HAP:Hid (applyC F (us.map UcB.says)=nextC F1 ttl1 s1 m1 s0):=hid (by
         unfold applyC;rw[hF1,HCB.out,if_pos rfl,nextF_of hs1 hm1 hF6',serF_of hs0 hm0 hF6])
        have HZZ:=hid hzz;have HZO:=hid hzk.zonal;have hUn:=hUk.next ttl1 s1 m1 s0 (by have:=hUk.ok _ _ _ _ hF6';exact this.1) (by have:=hUk.ok _ _ _ _ hF6';exact this.2.1) hs0 hm1;clear hzk hzz;go_wp2_with fail;refine HP.out.mono ?_;rintro e wn ⟨rfl,Sn,Nn,Tn,hzn,hNn,hTn,hkn,hSn⟩;have hSnw:∀i,Sn i→w.heap.size≤i:=fun i hi=>by
         rcases hSn i hi with e|e
         ·exact HSK.out.1 i e
         ·have:=hbwc.size;omega
        have hng:¬Sk g7:=fun e=>by
         rcases HSK.out.2.2 g7 e with e|e
         ·have:=(HSC.out _ e).2;omega
         ·omega
        have qdn:=(hkn.block _ (lt_block qd) hng).trans qd;have zbn:=(hkn.block _ (lt_block zb) (fun e=>by have:=HSK.out.1 _ e;omega)).trans zb;have lbn:=(hkn.block _ (lt_block lb) (fun e=>by have:=HSK.out.1 _ e;have:=lt_block HH.out.2.2.1;omega)).trans lb;have hbwn:Below w.heap.size w wn:=hbwc.trans (hkn.below hbwc.size fun i hi e=>by have:=HSK.out.1 _ e;omega)
        have hzzn:=HZZ.out.kept hkn HZO.out (fun i e e2=>by have:=HSK.out.1 _ e;have:=(HH.out.1.lt e2).1;omega);have HC2:=hid (UChanges wn B z B zc S Sn [exL] F _ N T Nn Tn hzzn hzn (by omega) (by omega) hU.few hUn.few hU.short hUn.short hU.ttl hUn.ttl);have HZ2:=hid (And.intro hzzn hzn);clear hzzn hzn hkn hSn x2 gx;dsimp only;clear d0 z0;obtain⟨d0,_⟩:=cells1 qdn;obtain⟨z0,_⟩:=cells1 zbn
        have zbW:=zbn;have lbW:=lbn;have qdW:=qdn;go_wp2_with fail;refine HC2.out.mono ?_;rintro e wd ⟨hbd,v2,xs2,L2,L2',rfl,hch2,hL2,hL2',hdi2⟩;obtain⟨A2,k2,rfl,_⟩:=own_form hch2.row;have lbd:=(hbd.block _ (lt_block lbW)).trans lbW;have zbd:=(hbd.block _ (lt_block zbW)).trans zbW;have qdd:=(hbd.block _ (lt_block qdW)).trans qdW;have hzz3:=HZ2.out.1.ext hbd;have hzc3:=HZ2.out.2.ext hbd
        have hneb:bz≠bl:=ne_cells zbd lbd (by decide);have hneg:g7≠bl:=ne_cells qdd lbd (by decide);have hke:Kept (fun k=>k=bl) wd (wd.setCell ⟨bl,0,none⟩ (.slice A2 xs2.length k2)):=(Kept.refl (fun k=>k=bl) wd).setCell (p:=⟨bl,0,none⟩) (fun _=>rfl) _
        have lbe:(wd.setCell ⟨bl,0,none⟩ (.slice A2 xs2.length k2)).heap[bl]? =some (.cells #[.slice A2 xs2.length k2] 82 (0,0)):=heap_set (i:=0) (v:=.slice A2 xs2.length k2) lbd;obtain⟨l0,lf⟩:=cells1 lbd;have lf0:=lf 0;dsimp only;clear d0 z0;obtain⟨d0,_⟩:=cells1 qdd;obtain⟨z0,_⟩:=cells1 zbd
        go_upto_region 20 with fail
        generalize wd.setCell ⟨bl,0,none⟩ (.slice A2 xs2.length k2)=we at *;have zbe:=(hke.block _ (lt_block zbd) hneb).trans zbd;have qde:=(hke.block _ (lt_block qdd) hneg).trans qdd;have hzz4:=hzz3.other lbd (by unfold farT;decide) hke;have hzc4:=hzc3.other lbd (by unfold farT;decide) hke;obtain⟨Az,caz,bnz,bbz,vz⟩:=hzz4.value;obtain⟨Ac,cac,bnc,bbc,vc⟩:=hzc4.value;clear d0 z0
        obtain⟨d0,_⟩:=cells1 qde;obtain⟨z0,_⟩:=cells1 zbe;obtain⟨p0,p1,p2,p3,pf⟩:=cells4 vz;obtain⟨o0,o1,o2,o3,_⟩:=cells4 vc;have pf0:=pf 0;have pf1:=pf 1;have pf2:=pf 2;have pf3:=pf 3
        go_region
        obtain⟨qz,hkz⟩:=set4 vz (.slice Ac 1 cac) (.map (some bnc)) (.map (some bbc)) (.int .i64 (Tn:Int)) rfl;have hkz2:=hkz.drew;generalize((((we.setCell ⟨z,0,none⟩ (.slice Ac 1 cac)).setCell ⟨z,1,none⟩ (.map (some bnc))).setCell ⟨z,2,none⟩ (.map (some bbc))).setCell ⟨z,3,none⟩ (.int .i64 (Tn:Int)))=wf at *;have hzS:¬Sn z:=fun e=>by
         have h1:=hSnw z e;have h2:=(HH.out.1.lt HH.out.1.at_z).1;omega
        obtain⟨Sf,hzf,hSf⟩:=hzc4.moved vz hzS (HH.out.1.lt HH.out.1.at_z).2 hkz2 (show wf.heap[z]? =we.heap[zc]? from qz.trans vc.symm);have hbl2:bl≠z:=ne_cells lbe vz (by decide);have hbwd:Below w.heap.size w wd:=hbwn.trans (hbd.mono hbwn.size);have hwd:=hbwd.size
        have hKF:Kept (fun k=>k=z∨k=bl) w wf.drew:=((Kept.of_ext hbwd).mono fun _ _ h=>h.elim:Kept (fun k=>k=z∨k=bl) w wd).then ((hke.mono fun k _ e=>.inr e:Kept (fun k=>k=z∨k=bl) wd we).trans (hkz2.mono fun k _ e=>.inl e)) (fun i _ e=>e)
        have lbf:wf.heap[bl]? =some (.cells #[.slice A2 xs2.length k2] 82 (0,0)):=(hkz.block _ (lt_block lbe) hbl2).trans lbe;have hwc:w.heap.size≤wn.heap.size:=hbwn.size
        have hrr:∀{e:TypeId} {size:Nat} {v:Value} {m:Nat} {ys:List Value},wd.ownsRow wn.heap.size e size v m ys→e≠82→e≠103→wf.drew.ownsRow w.heap.size e size v m ys:=fun hr e1 e2=>own_base (row_store (row_store hr lbd e1 hke) vz e2 hkz2) hwc
        go_end0
        exact .inr ⟨by rw[HC.out,if_pos h1,h2],rfl,⟨Sf,_,_,_,xs2,L2,L2',by rw[HAP.out];exact hzf,by rw[List.length_map];omega,by rw[List.length_map];omega,hKF,fun i hi=>by
         rcases hSf i hi with e|e
         ·exact .inl e
         ·exact .inr (hSnw i e),lbf,⟨hrr hch2.row (by decide) (by decide),fun x hx=>⟨hrr (hch2.own x hx).1 (by decide) (by decide),hrr (hch2.own x hx).2 (by decide) (by decide)⟩⟩,hL2,by rw[HAP.out];exact hL2',hdi2⟩⟩
       ·have hxi:¬(0:Int) < (xs.length:Int):=by omega
        rw[decide_eq_false hx]at HCB;have HAP:Hid (applyC F (us.map UcB.says)=F1):=hid (by
         unfold applyC;rw[hF1,HCB.out,if_neg (by decide)])
        have HC2:=hid (UChanges wc B z B zc S Sk [exL] F F1 N T Nk Tk hzz hzk (by omega) (by omega) hU.few hUk.few hU.short hUk.short hU.ttl hUk.ttl);have HZ2:=hid (And.intro hzz hzk);clear hzz hzk;have zbW:=zb;have lbW:=lb;have qdW:=qd;go_wp2_with fail;refine HC2.out.mono ?_;rintro e wd ⟨hbd,v2,xs2,L2,L2',rfl,hch2,hL2,hL2',hdi2⟩;obtain⟨A2,k2,rfl,_⟩:=own_form hch2.row
        have lbd:=(hbd.block _ (lt_block lbW)).trans lbW;have zbd:=(hbd.block _ (lt_block zbW)).trans zbW;have qdd:=(hbd.block _ (lt_block qdW)).trans qdW;have hzz3:=HZ2.out.1.ext hbd;have hzc3:=HZ2.out.2.ext hbd;have hneb:bz≠bl:=ne_cells zbd lbd (by decide);have hneg:g7≠bl:=ne_cells qdd lbd (by decide)
        have hke:Kept (fun k=>k=bl) wd (wd.setCell ⟨bl,0,none⟩ (.slice A2 xs2.length k2)):=(Kept.refl (fun k=>k=bl) wd).setCell (p:=⟨bl,0,none⟩) (fun _=>rfl) _;have lbe:(wd.setCell ⟨bl,0,none⟩ (.slice A2 xs2.length k2)).heap[bl]? =some (.cells #[.slice A2 xs2.length k2] 82 (0,0)):=heap_set (i:=0) (v:=.slice A2 xs2.length k2) lbd;obtain⟨l0,lf⟩:=cells1 lbd;have lf0:=lf 0;dsimp only
        clear d0 z0;obtain⟨d0,_⟩:=cells1 qdd;obtain⟨z0,_⟩:=cells1 zbd
        go_upto_region 20 with fail
        generalize wd.setCell ⟨bl,0,none⟩ (.slice A2 xs2.length k2)=we at *;have zbe:=(hke.block _ (lt_block zbd) hneb).trans zbd;have qde:=(hke.block _ (lt_block qdd) hneg).trans qdd;have hzz4:=hzz3.other lbd (by unfold farT;decide) hke;have hzc4:=hzc3.other lbd (by unfold farT;decide) hke;obtain⟨Az,caz,bnz,bbz,vz⟩:=hzz4.value;obtain⟨Ac,cac,bnc,bbc,vc⟩:=hzc4.value;clear d0 z0
        obtain⟨d0,_⟩:=cells1 qde;obtain⟨z0,_⟩:=cells1 zbe;obtain⟨p0,p1,p2,p3,pf⟩:=cells4 vz;obtain⟨o0,o1,o2,o3,_⟩:=cells4 vc;have pf0:=pf 0;have pf1:=pf 1;have pf2:=pf 2;have pf3:=pf 3
        go_region
        obtain⟨qz,hkz⟩:=set4 vz (.slice Ac 1 cac) (.map (some bnc)) (.map (some bbc)) (.int .i64 (Tk:Int)) rfl;have hkz2:=hkz.drew;generalize((((we.setCell ⟨z,0,none⟩ (.slice Ac 1 cac)).setCell ⟨z,1,none⟩ (.map (some bnc))).setCell ⟨z,2,none⟩ (.map (some bbc))).setCell ⟨z,3,none⟩ (.int .i64 (Tk:Int)))=wf at *;have hzS:¬Sk z:=fun e=>by
         have h1:=HSK.out.1 z e;have h2:=(HH.out.1.lt HH.out.1.at_z).1;omega
        obtain⟨Sf,hzf,hSf⟩:=hzc4.moved vz hzS (HH.out.1.lt HH.out.1.at_z).2 hkz2 (show wf.heap[z]? =we.heap[zc]? from qz.trans vc.symm);have hbl2:bl≠z:=ne_cells lbe vz (by decide);have hbwd:Below w.heap.size w wd:=hbwc.trans (hbd.mono hbwc.size);have hwd:=hbwd.size
        have hKF:Kept (fun k=>k=z∨k=bl) w wf.drew:=((Kept.of_ext hbwd).mono fun _ _ h=>h.elim:Kept (fun k=>k=z∨k=bl) w wd).then ((hke.mono fun k _ e=>.inr e:Kept (fun k=>k=z∨k=bl) wd we).trans (hkz2.mono fun k _ e=>.inl e)) (fun i _ e=>e)
        have lbf:wf.heap[bl]? =some (.cells #[.slice A2 xs2.length k2] 82 (0,0)):=(hkz.block _ (lt_block lbe) hbl2).trans lbe;have hwc:w.heap.size≤wc.heap.size:=hbwc.size
        have hrr:∀{e:TypeId} {size:Nat} {v:Value} {m:Nat} {ys:List Value},wd.ownsRow wc.heap.size e size v m ys→e≠82→e≠103→wf.drew.ownsRow w.heap.size e size v m ys:=fun hr e1 e2=>own_base (row_store (row_store hr lbd e1 hke) vz e2 hkz2) hwc
        go_end0
        exact .inr ⟨by rw[HC.out,if_pos h1,h2],rfl,⟨Sf,_,_,_,xs2,L2,L2',by rw[HAP.out];exact hzf,by rw[List.length_map];omega,by rw[List.length_map];omega,hKF,fun i hi=>by
         rcases hSf i hi with e|e
         ·exact .inl e
         ·exact .inr (HSK.out.1 i e),lbf,⟨hrr hch2.row (by decide) (by decide),fun x hx=>⟨hrr (hch2.own x hx).1 (by decide) (by decide),hrr (hch2.own x hx).2 (by decide) (by decide)⟩⟩,hL2,by rw[HAP.out];exact hL2',hdi2⟩⟩
def msgV(id op:Int)(q p u:Value):Array Value:= #[.int .u16 id,.bool false,.int .i64 op,.bool false,.bool false,.bool false,.bool false,.int .i64 0,q,p,u,.slice none 0 0,.bool false,.int .u16 0,.bool false]
theorem msgU_of{w:World}{bm:Nat}{id op:Int}{Aq:Option Addr}{nq cq:Nat}{Ap:Option Addr}{np cp:Nat}{Au:Option Addr}{nu cu:Nat}(h:w.heap[bm]? =some (.cells (msgV id op (.slice Aq nq cq) (.slice Ap np cp) (.slice Au nu cu)) 74 (0,0))):MsgU w bm Aq nq cq Ap np cp Au nu cu:=by
 refine⟨lt_block h, ?_, ?_, ?_⟩ <;> (rw[cell_of_row w bm _ _ _ _ h];rfl)
theorem boxes4(w:World)(o0 o1 o2 o3:Obj):Below w.heap.size w ((((w.alloc o0).alloc o1).alloc o2).alloc o3)∧((((w.alloc o0).alloc o1).alloc o2).alloc o3).heap.size=w.heap.size+4∧
 ((((w.alloc o0).alloc o1).alloc o2).alloc o3).heap[w.heap.size]? =some o0∧((((w.alloc o0).alloc o1).alloc o2).alloc o3).heap[w.heap.size+1]? =some o1∧((((w.alloc o0).alloc o1).alloc o2).alloc o3).heap[w.heap.size+1+1]? =some o2∧((((w.alloc o0).alloc o1).alloc o2).alloc o3).heap[w.heap.size+1+1+1]? =some o3:=by
 have h0:=heap_alloc_new w o0;have h1:=heap_alloc_new (w.alloc o0) o1;have h2:=heap_alloc_new ((w.alloc o0).alloc o1) o2;have h3:=heap_alloc_new (((w.alloc o0).alloc o1).alloc o2) o3;simp only[World.size_alloc]at h1 h2 h3;have l0:=lt_block h0;have l1:=lt_block h1;have l2:=lt_block h2
 refine⟨((bAl.alloc (by simp only[World.size_alloc];omega) _).alloc (by simp only[World.size_alloc];omega) _).alloc (by simp only[World.size_alloc];omega) _,by simp only[World.size_alloc], ?_, ?_, ?_,h3⟩
 ·exact(Below.heap_alloc _ o3 _ (by simp only[World.size_alloc];omega)).trans ((Below.heap_alloc _ o2 _ (by simp only[World.size_alloc];omega)).trans ((Below.heap_alloc _ o1 _ l0).trans h0))
 ·exact(Below.heap_alloc _ o3 _ (by simp only[World.size_alloc];omega)).trans ((Below.heap_alloc _ o2 _ l1).trans h1)
 ·exact(Below.heap_alloc _ o3 _ l2).trans h2
theorem UApply_none(w:World)(z:Nat)(most id op:Int)(cq:Nat)(Ap:Option Addr)(np cp:Nat)(Au:Option Addr)(nu cu:Nat):
 Calls prog 47 #[.pointer (some ⟨z,0,none⟩),.int .u32 most,.agg (msgV id op (.slice none 0 cq) (.slice Ap np cp) (.slice Au nu cu))] w fun e w'=>Below w.heap.size w w'∧e=.returned (.tuple #[.int .i64 1,.slice none 0 0]):=by
 have hmf:∀(fn:Fn) (first cap:Array Value) (w:World),(Instr.makeFunc fn first cap).run prog w=.ok (.func fn first cap) w:=fun _ _ _ _=>rfl;obtain⟨bb,sb,c0,c1,c2,c3⟩:=boxes4 w (.cells #[.pointer (some ⟨z,0,none⟩)] 25) (.cells #[.int .u32 most] 35) (.cells (msgV id op (.slice none 0 cq) (.slice Ap np cp) (.slice Au nu cu)) 74) (.cells #[.slice none 0 0] 82);unfold msgV at *
 go_enter func47,ntmps47
 go_upto_region 2 with fail
 generalize(((w.alloc (.cells #[.pointer (some ⟨z,0,none⟩)] 25)).alloc (.cells #[.int .u32 most] 35)).alloc (.cells #[.int .u16 id,.bool false,.int .i64 op,.bool false,.bool false,.bool false,.bool false,.int .i64 0,.slice none 0 cq,.slice Ap np cp,.slice Au nu cu,.slice none 0 0,.bool false,.int .u16 0,.bool false] 74)).alloc (.cells #[.slice none 0 0] 82)=w4 at *
 have HS:=hid (UCaughtA (.pointer (some ⟨w.heap.size+1+1,0,none⟩)) (.pointer (some ⟨w.heap.size,0,none⟩)) (.pointer (some ⟨w.heap.size+1,0,none⟩)) (.pointer (some ⟨w.heap.size+1+1+1,0,none⟩)) w4 (fun c W W'=>c=1∧W=W') (fun W hW hs hc=>by
  refine(UApply1_none W (w.heap.size+1+1) _ _ _ cq Ap np cp Au nu cu (msgU_of ((hW.block _ (lt_block c2)).trans c2))).mono ?_;rintro e W' ⟨rfl,rfl⟩;exact⟨.inr ⟨1,rfl,rfl,rfl⟩,hc⟩))
 have hw4:=bb.size;clear c0 c1 c2 c3 sb;go_wp2_with fail;refine HS.out.mono ?_;rintro e w5 ⟨c,W,W',cs,rfl,hbW,hlt,⟨rfl,rfl⟩,_,hk⟩;have hF:=bb.trans ((kept_new hbW (Below.refl _ _) hk (Nat.le_refl _)).mono hw4);go_wp2_with fail
 go_ret2
 exact⟨hF,rfl⟩
theorem UApply(w:World)(B z:Nat)(S:Nat→Prop)(F:Cont)(N T:Nat)(h:Zo w B z S [exL] F N T)(hU:UF F)(most id op:Int)
 (bq oq cq:Nat) (Aq:Option Addr) (cn:Nat) (Ap:Option Addr) (ps:List UcB) (cp Bp:Nat) (Au:Option Addr) (us:List UcB) (cu Bu:Nat) (hq:QueU w bq oq Aq cn)
 (hps:UcV w Bp (.slice Ap ps.length cp) ps) (hus:UcV w Bu (.slice Au us.length cu) us) (hpl:ps.length≤1000) (hul:us.length≤100) (hT:T+us.length≤800) (hN:N+24000 *us.length≤1800000000000)
 (hpo:∀r∈ps,UOk r.says∧r.cl≠1) (huo:∀r∈us,UOk r.says) (hur:firstC (scan1 [exL] most) (us.map UcB.says)=0→∀r∈us,URok r.says):
 Calls prog 47 #[.pointer (some ⟨z,0,none⟩),.int .u32 most,.agg (msgV id op (.slice (some ⟨bq,oq,none⟩) 1 cq) (.slice Ap ps.length cp) (.slice Au us.length cu))] w fun e w'=>(codeU F most (ps.map UcB.says) (us.map UcB.says)≠0∧e=.returned (.tuple #[.int .i64 (codeU F most (ps.map UcB.says) (us.map UcB.says)),.slice none 0 0])∧Below w.heap.size w w')∨(codeU F most (ps.map UcB.says) (us.map UcB.says)=0∧∃S' N' T' v,∃xs:List ChB,∃L M:List PR,e=.returned (.tuple #[.int .i64 0,v])∧Zo w' B z S' [exL] (applyC F (us.map UcB.says)) N' T'∧N'≤N+24000 *us.length+10000∧T'≤T+us.length∧Kept (fun k=>k=z) w w'∧(∀k,S' k→k=z∨w.heap.size≤k)∧
  ChV w' w.heap.size w.heap.size v xs∧LstP F L∧LstP (applyC F (us.map UcB.says)) M∧xs.map (fun x=>(x.1,x.2.says))=diffL (L.map PR.says) (M.map PR.says)):=by
 have hmf:∀(fn:Fn) (first cap:Array Value) (w:World),(Instr.makeFunc fn first cap).run prog w=.ok (.func fn first cap) w:=fun _ _ _ _=>rfl
 obtain⟨bb,sb,c0,c1,c2,c3⟩:=boxes4 w (.cells #[.pointer (some ⟨z,0,none⟩)] 25) (.cells #[.int .u32 most] 35) (.cells (msgV id op (.slice (some ⟨bq,oq,none⟩) 1 cq) (.slice Ap ps.length cp) (.slice Au us.length cu)) 74) (.cells #[.slice none 0 0] 82);unfold msgV at *;go_enter func47,ntmps47
 go_upto_region 2 with fail
 generalize(((w.alloc (.cells #[.pointer (some ⟨z,0,none⟩)] 25)).alloc (.cells #[.int .u32 most] 35)).alloc (.cells #[.int .u16 id,.bool false,.int .i64 op,.bool false,.bool false,.bool false,.bool false,.int .i64 0,.slice (some ⟨bq,oq,none⟩) 1 cq,.slice Ap ps.length cp,.slice Au us.length cu,.slice none 0 0,.bool false,.int .u16 0,.bool false] 74)).alloc (.cells #[.slice none 0 0] 82)=w4 at *
 have hw4:=bb.size;have hzl:=(h.lt h.at_z).1
 have HS:=hid (UCaughtA (.pointer (some ⟨w.heap.size+1+1,0,none⟩)) (.pointer (some ⟨w.heap.size,0,none⟩)) (.pointer (some ⟨w.heap.size+1,0,none⟩)) (.pointer (some ⟨w.heap.size+1+1+1,0,none⟩)) w4 (fun c W W'=>(codeU F most (ps.map UcB.says) (us.map UcB.says)≠0∧c=codeU F most (ps.map UcB.says) (us.map UcB.says)∧Below W.heap.size W W')∨(codeU F most (ps.map UcB.says) (us.map UcB.says)=0∧c=0∧ApplyTo W W' B z (w.heap.size+1+1+1) F N T (us.map UcB.says))) (fun W hW hs hc=>by
  have hbW:=bb.trans (hW.mono bb.size)
  refine(UApply1 W (w.heap.size+1+1) (w.heap.size) (w.heap.size+1) (w.heap.size+1+1+1) B z S F N T (h.ext hbW) hU most _ bq oq cq Aq cn Ap ps cp Bp Au us cu Bu (msgU_of ((hW.block _ (lt_block c2)).trans c2)) (hq.below hbW) ((hW.block _ (lt_block c0)).trans c0) ((hW.block _ (lt_block c1)).trans c1) ((hW.block _ (lt_block c3)).trans c3) (hps.below hbW) (hus.below hbW) hpl hul hT hN hpo huo hur).mono ?_
  rintro e W' hcase;rcases hcase with⟨h0,rfl,hb⟩|⟨h0,rfl,hto⟩
  ·exact⟨.inr ⟨_,rfl,.inl ⟨h0,rfl,hb⟩⟩,(hb.block _ (lt_block hc)).trans hc⟩
  ·refine⟨.inl ⟨rfl,.inr ⟨h0,rfl,hto⟩⟩, ?_⟩;obtain⟨S',N',T',v,xs,L,M,_,_,_,hk,_⟩:=hto.ex;exact(hk.block _ (lt_block hc) (by omega)).trans hc))
 clear c0 c1 c2 c3 hps hus hq hpo huo hur;go_wp2_with fail;refine HS.out.mono ?_;rintro e w5 ⟨c,W,W',cs,rfl,hbW,hlt,hcase,hcs,hk⟩;have hbW':=bb.trans (hbW.mono hw4);have hsW:=hbW'.size;rcases hcase with⟨h0,rfl,hb⟩|⟨h0,rfl,hto⟩
 ·have hF:=bb.trans ((kept_new hbW hb hk (Nat.le_refl _)).mono hw4);have h0b:(codeU F most (ps.map UcB.says) (us.map UcB.says) !=0)=true:=by simpa using h0
  go_wp2_with fail
  go_ret2
  exact .inl ⟨h0,rfl,hF⟩
 ·obtain⟨S',N',T',v,xs,L,M,g1,g2,g3,g4,g5,g6,g7,g8,g9,g10⟩:=hto.ex;have hz5:=g1.other hcs far_int hk;have g65:=(hk.block _ (lt_block g6) (by omega)).trans g6;have hk5:Kept (fun k=>k=z) w w5:=(((Kept.of_ext hbW').mono fun _ _ h=>h.elim:Kept (fun k=>k=z) w W).then g4 (fun i hi e=>by rcases e with e|e;exact e;omega)).then hk (fun i hi e=>by omega)
  have hrow:∀{e:TypeId} {size:Nat} {v:Value} {m:Nat} {ys:List Value},W'.ownsRow W.heap.size e size v m ys→e≠3→w5.ownsRow w.heap.size e size v m ys:=fun hr he=>own_base (row_store hr hcs he hk) hsW;have hch5:ChV w5 w.heap.size w.heap.size v xs:=⟨hrow g7.row (by decide),fun x hx=>⟨hrow (g7.own x hx).1 (by decide),hrow (g7.own x hx).2 (by decide)⟩⟩
  obtain⟨Av,cv,rfl,_⟩:=own_form hch5.row;obtain⟨l0,_⟩:=cells1 g65;have HE:=hid (And.intro hz5 (And.intro hk5 (And.intro hch5 (And.intro g8 (And.intro g9 g10)))));have h0b:((0:Int) !=0)=false:=rfl;rw[List.length_map]at g2 g3;clear hz5 hk5 hch5 g8 g9 g10 g1 g4 g6 g7 hto hcs hk hrow;go_wp2_with fail
  go_region
  go_wp2_with fail
  go_ret2
  have hbd:Below w5.heap.size w5 w5.drew:=⟨rfl,rfl,rfl,Nat.le_refl _,fun _ _=>rfl⟩
  refine .inr ⟨h0,S',N',T',.slice Av xs.length cv,xs,L,M,rfl,HE.out.1.ext hbd,g2,g3,HE.out.2.1.drew,fun k hk=> ?_,⟨own_below HE.out.2.2.1.row hbd,fun x hx=>⟨own_below (HE.out.2.2.1.own x hx).1 hbd,own_below (HE.out.2.2.1.own x hx).2 hbd⟩⟩,HE.out.2.2.2.1,HE.out.2.2.2.2.1,HE.out.2.2.2.2.2⟩;rcases g5 k hk with e|e
  ·exact .inl e
  ·exact .inr (by omega)
def ttlL(L:List PR)(n:List Lab)(t ttl:Int):List PR:=L.map fun x=>if x.n=n∧x.t=t then{x with ttl:=ttl}else x
theorem ltP_cases(a b:PR)(ha:lower a.n=a.n)(hb:lower b.n=b.n):ltP a b∨(a.n=b.n∧a.t=b.t∧a.c=b.c)∨ltP b a:=by
 have f1:=cmpN_flip a.n b.n;by_cases h1:cmpN a.n b.n < 0
 ·exact .inl (.inl h1)
 by_cases h2:cmpN b.n a.n < 0
 ·exact .inr (.inr (.inl h2))
 have h0:cmpN a.n b.n=0:=by omega
 have hn:a.n=b.n:=by have:=(cmpN_zero a.n b.n).1 h0;rw[ha,hb]at this;exact this
 have h0':cmpN b.n a.n=0:=by omega
 by_cases h3:a.t < b.t
 ·exact .inl (.inr ⟨h0,.inl h3⟩)
 by_cases h4:b.t < a.t
 ·exact .inr (.inr (.inr ⟨h0',.inl h4⟩))
 have ht:a.t=b.t:=by omega
 have f2:=cb_flip a.c b.c;by_cases h5:Lib.compareBytes a.c b.c < 0
 ·exact .inl (.inr ⟨h0,.inr ⟨ht,h5⟩⟩)
 by_cases h6:Lib.compareBytes b.c a.c < 0
 ·exact .inr (.inr (.inr ⟨h0',.inr ⟨ht.symm,h6⟩⟩))
 have h7:Lib.compareBytes a.c b.c=0:=by omega
 exact .inr (.inl ⟨hn,ht,(cb_zero _ _).1 h7⟩)
theorem ltP_core{a b a' b':PR}(h1:a'.n=a.n)(h2:a'.t=a.t)(h3:a'.c=a.c)(h4:b'.n=b.n)(h5:b'.t=b.t)(h6:b'.c=b.c):ltP a' b'↔ltP a b:=by
 unfold ltP;rw[h1,h2,h3,h4,h5,h6]
def ttlX(n:List Lab)(t ttl:Int)(x:PR):PR:=if x.n=n∧x.t=t then{x with ttl:=ttl}else x
theorem ttlX_core(n:List Lab)(t ttl:Int)(x:PR):(ttlX n t ttl x).n=x.n∧(ttlX n t ttl x).t=x.t∧(ttlX n t ttl x).d=x.d∧(ttlX n t ttl x).c=x.c:=by
 unfold ttlX;split <;> exact⟨rfl,rfl,rfl,rfl⟩
theorem ttlL_map(L:List PR)(n:List Lab)(t ttl:Int):ttlL L n t ttl=L.map (ttlX n t ttl):=rfl
theorem ttlL_srt{L:List PR}(h:L.Pairwise ltP)(n:List Lab)(t ttl:Int):(ttlL L n t ttl).Pairwise ltP:=by
 rw[ttlL_map,List.pairwise_map];refine h.imp fun{a b} hab=> ?_;obtain⟨a1,a2,_,a3⟩:=ttlX_core n t ttl a;obtain⟨b1,b2,_,b3⟩:=ttlX_core n t ttl b;exact(ltP_core a1 a2 a3 b1 b2 b3).2 hab
theorem ttlX_in{n:List Lab}{t ttl:Int}{x:PR}(h:x.n=n∧x.t=t):ttlX n t ttl x={x with ttl:=ttl}:=if_pos h
theorem ttlX_out{n:List Lab}{t ttl:Int}{x:PR}(h:¬(x.n=n∧x.t=t)):ttlX n t ttl x=x:=if_neg h
theorem insA_mem2{ds:List (Lab×Lab)}{d c:Lab}(e:Lab×Lab):e∈insA ds d c↔e=(d,c)∨e∈ds:=by
 induction ds with
 |nil=>simp[insA]
 |cons x ds ih=>
  unfold insA;split
  ·rw[List.mem_cons,ih,List.mem_cons];constructor
   ·rintro(h|h|h)
    ·exact .inr (.inl h)
    ·exact .inl h
    ·exact .inr (.inr h)
   ·rintro(h|h|h)
    ·exact .inr (.inl h)
    ·exact .inl h
    ·exact .inr (.inr h)
  ·rw[List.mem_cons]
theorem lst_there{F:Cont}{L:List PR}(h:LstP F L){n:List Lab}{t ttl:Int}{d c:Lab}{y:PR}(hy:y∈L)(h1:y.n=n)(h2:y.t=t)(h3:y.c=c):
 ∃ds,F n t=some (y.ttl,ds)∧(putC F n t ttl d c)=(updC F n t (some (ttl,ds)),y.ttl !=ttl):=by
 obtain⟨ds,g1,g2⟩:=(h.mem y).1 hy;rw[h1,h2]at g1;refine⟨ds,g1, ?_⟩;unfold putC;rw[g1];simp only;rw[if_pos];rw[List.any_eq_true];exact⟨_,g2,by simp[h3]⟩
theorem lst_ttl{F:Cont}{L:List PR}(h:LstP F L){n:List Lab}{t t0 ttl:Int}{ds:List (Lab×Lab)}(hF:F n t=some (t0,ds)):LstP (updC F n t (some (ttl,ds))) (ttlL L n t ttl):=by
 refine⟨ttlL_srt h.srt _ _ _,fun x=> ?_⟩;rw[ttlL_map,List.mem_map];constructor
 ·rintro⟨y,hy,rfl⟩;obtain⟨ds',g1,g2⟩:=(h.mem y).1 hy;by_cases e:y.n=n∧y.t=t
  ·rw[ttlX_in e];rw[e.1,e.2,hF]at g1;injection g1 with g1;injection g1 with g3 g4;subst g4;exact⟨ds,by show updC F n t _ y.n y.t=_;rw[e.1,e.2,updC_at],g2⟩
  ·rw[ttlX_out e];exact⟨ds',by rw[updC_ne _ _ e];exact g1,g2⟩
 ·rintro⟨ds',g1,g2⟩;by_cases e:x.n=n∧x.t=t
  ·rw[e.1,e.2,updC_at]at g1;injection g1 with g1;injection g1 with g3 g4;subst g4;refine⟨{x with ttl:=t0},(h.mem _).2 ⟨ds, ?_,g2⟩, ?_⟩
   ·show F x.n x.t=_;rw[e.1,e.2,hF]
   ·rw[ttlX_in (x:={x with ttl:=t0}) e,g3]
  ·rw[updC_ne _ _ e]at g1;exact⟨x,(h.mem x).2 ⟨ds',g1,g2⟩,ttlX_out e⟩
theorem lst_put{F:Cont}{A R:List PR}(h:LstP F (A++R)){n:List Lab}{t ttl:Int}{d c:Lab}(hA:∀y∈A,ltP y ⟨n,t,ttl,d,c⟩)(hR:∀y∈R,ltP ⟨n,t,ttl,d,c⟩ y):
 LstP (putC F n t ttl d c).1 (ttlL (A++⟨n,t,ttl,d,c⟩::R) n t ttl)∧(putC F n t ttl d c).2=true:=by
 have hnot:∀y∈A++R,¬(y.n=n∧y.t=t∧y.c=c):=by
  intro y hy ⟨e1,e2,e3⟩;rcases List.mem_append.1 hy with hy|hy
  ·exact ltP.irr y ((ltP_core (b:=⟨n,t,ttl,d,c⟩) (b':=y) rfl rfl rfl e1 e2 e3).2 (hA y hy))
  ·exact ltP.irr y ((ltP_core (a:=⟨n,t,ttl,d,c⟩) (a':=y) e1 e2 e3 rfl rfl rfl).2 (hR y hy))
 obtain⟨ds,hds,hput⟩:∃ds',(∀e,e∈ds'↔e=(d,c)∨∃t0 ds,F n t=some (t0,ds)∧e∈ds)∧putC F n t ttl d c=(updC F n t (some (ttl,ds')),true):=by
  unfold putC;cases hF:F n t with
  |none=>exact⟨[(d,c)],fun e=>by simp,rfl⟩
  |some p=>
   obtain⟨t0,ds⟩:=p;simp only;rw[if_neg]
   ·exact⟨insA ds d c,fun e=>by
     rw[insA_mem2];constructor
     ·rintro(h|h)
      ·exact .inl h
      ·exact .inr ⟨t0,ds,rfl,h⟩
     ·rintro(h|⟨_,_,e1,h⟩)
      ·exact .inl h
      ·injection e1 with e1;injection e1 with _ e2;subst e2;exact .inr h,rfl⟩
   ·intro ha;obtain⟨e,he,hc⟩:=List.any_eq_true.1 ha;have hc:e.2=c:=by simpa using hc
    exact hnot ⟨n,t,t0,e.1,e.2⟩ ((h.mem _).2 ⟨ds,hF,he⟩) ⟨rfl,rfl,hc⟩
 rw[hput];refine⟨(?_ :LstP (updC F n t (some (ttl,ds))) (ttlL (A++⟨n,t,ttl,d,c⟩::R) n t ttl)),rfl⟩;refine⟨ttlL_srt ?_ _ _ _,fun x=> ?_⟩
 ·obtain⟨p1,p2,p3⟩:=List.pairwise_append.1 h.srt;refine List.pairwise_append.2 ⟨p1,List.pairwise_cons.2 ⟨hR,p2⟩,fun a ha b hb=> ?_⟩;rcases List.mem_cons.1 hb with rfl|hb
  ·exact hA a ha
  ·exact p3 a ha b hb
 ·rw[ttlL_map,List.mem_map];have hmem:∀y,y∈A++(⟨n,t,ttl,d,c⟩:PR)::R↔y=⟨n,t,ttl,d,c⟩∨y∈A++R:=fun y=>by
   simp only[List.mem_append,List.mem_cons];constructor
   ·rintro(h|h|h)
    ·exact .inr (.inl h)
    ·exact .inl h
    ·exact .inr (.inr h)
   ·rintro(h|h|h)
    ·exact .inr (.inl h)
    ·exact .inl h
    ·exact .inr (.inr h)
  constructor
  ·rintro⟨y,hy,rfl⟩;rcases(hmem y).1 hy with rfl|hy
   ·rw[show ttlX n t ttl ⟨n,t,ttl,d,c⟩=⟨n,t,ttl,d,c⟩from ttlX_in (x:=⟨n,t,ttl,d,c⟩) ⟨rfl,rfl⟩];exact⟨ds,updC_at _ _ _ _,(hds _).2 (.inl rfl)⟩
   ·obtain⟨ds',g1,g2⟩:=(h.mem y).1 hy;by_cases e:y.n=n∧y.t=t
    ·rw[ttlX_in e];rw[e.1,e.2]at g1;exact⟨ds,by show updC F n t _ y.n y.t=_;rw[e.1,e.2,updC_at],(hds _).2 (.inr ⟨_,_,g1,g2⟩)⟩
    ·rw[ttlX_out e];exact⟨ds',by rw[updC_ne _ _ e];exact g1,g2⟩
  ·rintro⟨ds',g1,g2⟩;by_cases e:x.n=n∧x.t=t
   ·rw[e.1,e.2,updC_at]at g1;injection g1 with g1;injection g1 with g3 g4;subst g4;rcases(hds _).1 g2 with e2|⟨t0,ds0,e3,e4⟩
    ·injection e2 with e2 e3;refine⟨⟨n,t,ttl,d,c⟩,(hmem _).2 (.inl rfl), ?_⟩;rw[show ttlX n t ttl ⟨n,t,ttl,d,c⟩=⟨n,t,ttl,d,c⟩from ttlX_in (x:=⟨n,t,ttl,d,c⟩) ⟨rfl,rfl⟩];cases x;simp only at e e2 e3 g3;obtain⟨e,e'⟩:=e;subst e e' e2 e3 g3;rfl
    ·refine⟨{x with ttl:=t0},(hmem _).2 (.inr ((h.mem _).2 ⟨ds0, ?_,e4⟩)), ?_⟩
     ·show F x.n x.t=_;rw[e.1,e.2,e3]
     ·rw[ttlX_in (x:={x with ttl:=t0}) e,g3]
   ·rw[updC_ne _ _ e]at g1;exact⟨x,(hmem x).2 (.inr ((h.mem x).2 ⟨ds',g1,g2⟩)),ttlX_out e⟩
end Nm
end Go.Proofs.YtmbdoacafhljkaaGreat
