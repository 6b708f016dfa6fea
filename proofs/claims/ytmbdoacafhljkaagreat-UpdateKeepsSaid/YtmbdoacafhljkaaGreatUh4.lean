/- Texts merged by a program: Soa1, CanonS, ReadS, Soa, Canon6, Zone1, Zone2, Find, Find2, Zone3, Ptr, At, Cnt, Counted, Sort1. -/
import Derived.Maps.OwnSet
import Derived.Carry
import Derived.Deep.Cut
import Derived.Test.YtmbdoacafhljkaaGreatUh1
import Derived.Test.YtmbdoacafhljkaaGreatUh2
import Derived.Test.YtmbdoacafhljkaaGreatUh3
set_option linter.unusedSimpArgs false
set_option linter.unusedVariables false
set_option maxRecDepth 1000000
set_option maxHeartbeats 20000000
open Go.Proofs.Tryz
namespace Go.Proofs.YtmbdoacafhljkaaGreat
open Go.RowKit
namespace Nm
def soaK(l:Lab):Nat:=openK l+openK (l.drop (openK l))
def soaM(l:Lab):SoaM:=⟨openN l,openN (l.drop (openK l)),numOf ((l.drop (soaK l)).take 4) 0,numOf ((l.drop (soaK l+4)).take 4) 0,numOf ((l.drop (soaK l+8)).take 4) 0,numOf ((l.drop (soaK l+12)).take 4) 0,numOf ((l.drop (soaK l+16)).take 4) 0⟩
theorem soa_some{l:Lab}{m x:List Lab}{i k:Nat}(h1:openO l=some (m,i))(h2:openO (l.drop i)=some (x,k)):openN l=m∧openK l=i∧openN (l.drop i)=x∧soaK l=i+k∧(soaO l).isSome=decide (l.length=i+k+20):=by
 obtain⟨_,_,_,e1,e2⟩:=openO_some h1;obtain⟨_,_,_,e3,e4⟩:=openO_some h2;refine⟨e1,e2,e3, ?_, ?_⟩
 ·unfold soaK;rw[e2,e4]
 ·unfold soaO;rw[h1];simp only[];rw[h2];simp only[];split <;> simp_all
theorem heap_set{w:World}{g i:Nat}{cs:Array Value}{T:TypeId}{fr:Nat×Nat}{v:Value}(h:w.heap[g]? =some (.cells cs T fr)):(w.setCell ⟨g,i,none⟩ v).heap[g]? =some (.cells (cs.setIfInBounds i v) T fr):=by
 simp[World.setCell,Array.getElem?_modify,h]
theorem Soa1(r:Nat)(A:Option Addr)(l:Lab)(cap:Nat)(w:World)(h:Rdr w r A l cap 0)(hrw:r < w.heap.size):
 Calls prog 171 #[.pointer (some ⟨r,0,none⟩)] w fun e w'=>
  Kept (fun b=>b=r) w w'∧((∃j Am ca Bx cb,e=.returned ((soaM l).v Am ca Bx cb)∧Rdr w' r A l cap j∧(soaO l).isSome=decide (j=l.length)∧
   w'.ownsRow w.heap.size 9 1 (.slice Am (soaM l).m.length ca) (soaM l).m.length ((soaM l).m.map strV)∧w'.ownsRow w.heap.size 9 1 (.slice Bx (soaM l).x.length cb) (soaM l).x.length ((soaM l).x.map strV))∨((soaO l).isSome=false∧e=.panicked mustP)):=by
 have hlen:=h.len;have H:=hid h;clear h;go_enter func171,ntmps171;go_wp2_with fail;generalize hw1:w.alloc (.cells #[.slice none 0 0,.slice none 0 0,.int .u32 0,.int .u32 0,.int .u32 0,.int .u32 0,.int .u32 0] 91)=w1;have hb1:Below w.heap.size w w1:=by rw[←hw1];exact bAl
 have hz1:w1.heap.size=w.heap.size+1:=by rw[←hw1];simp
 have hq1:w1.heap[w.heap.size]? =some (.cells #[.slice none 0 0,.slice none 0 0,.int .u32 0,.int .u32 0,.int .u32 0,.int .u32 0,.int .u32 0] 91 (0,0)):=by
  rw[←hw1];exact heap_alloc_new w _
 have hR1:=H.out.ext hb1;have hk01:=(Kept.of_ext hb1).mono (S':=fun b=>b=r) (fun _ _ h=>h.elim);clear hw1;refine(name r A l cap 0 w1 hR1).mono ?_;rintro e w2 ⟨hk2,⟨m,i,v2,ho,rfl,hr2,hown2⟩|⟨ho,rfl⟩⟩
 ·rw[List.drop_zero]at ho;rw[Nat.zero_add]at hr2;obtain⟨Am,ca,rfl,_,_⟩:=Cs.of_own hown2;have HO1:=hid ho;have HW2:=hid hown2;have hz2:=hk2.size;clear ho hown2;go_wp2_with fail;refine(name r A l cap i w2 hr2).mono ?_;rintro e w3 ⟨hk3,⟨x,k,v3,ho,rfl,hr3,hown3⟩|⟨ho,rfl⟩⟩
  ·obtain⟨Bx,cb,rfl,_,_⟩:=Cs.of_own hown3;obtain⟨e1,e2,e3,e4,e5⟩:=soa_some HO1.out ho;have HE1:=hid e1;have HE2:=hid e2;have HE3:=hid e3;have HE4:=hid e4;have HE5:=hid e5;have HW3:=hid hown3;have hz3:=hk3.size;clear ho hown3 e1 e2 e3 e4 e5 HO1;go_wp2_with fail;generalize hkk:i+k=kk at *;clear hkk
   generalize hw4:w3.alloc (.cells #[.slice Am m.length ca,.slice Bx x.length cb,.int .u32 0,.int .u32 0,.int .u32 0,.int .u32 0,.int .u32 0] 91)=w4;have hb4:Below w3.heap.size w3 w4:=by rw[←hw4];exact bAl
   have hz4:w4.heap.size=w3.heap.size+1:=by rw[←hw4];simp
   have hg4:w4.heap[w3.heap.size]? =some (.cells #[.slice Am m.length ca,.slice Bx x.length cb,.int .u32 0,.int .u32 0,.int .u32 0,.int .u32 0,.int .u32 0] 91 (0,0)):=by rw[←hw4];exact heap_alloc_new w3 _
   have hr4:=hr3.ext hb4;have hq4:=(hb4.block _ (show w.heap.size < w3.heap.size by omega)).trans ((hk3.block _ (show w.heap.size < w2.heap.size by omega) (by omega)).trans ((hk2.block _ (show w.heap.size < w1.heap.size by omega) (by omega)).trans hq1));have hk04:=((hk01.trans hk2).trans hk3).trans ((Kept.of_ext hb4).mono (S':=fun b=>b=r) (fun _ _ h=>h.elim))
   have HW2':=hid (own_below (Kept.row HW2.out hk3 (fun b hb=>by have:=(HW2.out.lt b hb).1;omega)) hb4);have HW3':=hid (own_below HW3.out hb4);have hgA:∀a,A=some a→l.map byteV≠[]→¬a.block=w3.heap.size:=fun a ha hx=>by have:=H.out.cs.where ha hx;omega
   have HGA:=hid hgA;have hgr:¬w3.heap.size=r:=by omega
   have hwr:¬w.heap.size=r:=by omega
   have hwg:¬w.heap.size=w3.heap.size:=by omega
   generalize hg3:w3.heap.size=g at *;clear hw4 hr3 hq1 hgA hR1 hr2 hb1 hk01 hk2 hk3 hb4;by_cases hc1:kk+4≤l.length
   ·refine(num_yes r A l cap (kk) 4 w4 hr4 hc1).mono ?_;rintro e wn1 ⟨rfl,hrn1,hkn1⟩;have hqn1:=(hkn1.block _ (show w.heap.size < w4.heap.size from lt_block hq4) hwr).trans hq4;have hgn1:=(hkn1.block _ (lt_block hg4) hgr).trans hg4;have hkk1:=hk04.trans hkn1;have HA1:=hid (Kept.row HW2'.out hkn1 (fun b hb hbr=>by have:=(HW2.out.lt b hb).1;omega))
    have HB1:=hid (Kept.row HW3'.out hkn1 (fun b hb hbr=>by have:=(HW3.out.lt b hb).1;omega));have HNU1:=numOf_lt ((l.drop (kk)).take 4) 0 (by omega);generalize hNE:numOf ((l.drop (kk)).take 4) 0=n1 at *;have HNE1:Hid (numOf ((l.drop (kk+0)).take 4) 0=n1):=hid hNE;clear hNE;go_wp2_with fail;by_cases hc2:kk+4+4≤l.length
    ·refine(num_yes r A l cap (kk+4) 4 wn1 hrn1 hc2).mono ?_;rintro e wn2 ⟨rfl,hrn2,hkn2⟩;have hqn2:=(hkn2.block _ (show w.heap.size < wn1.heap.size from lt_block hqn1) hwr).trans hqn1;have hgn2:=(hkn2.block _ (lt_block hgn1) hgr).trans hgn1;have hkk2:=hkk1.trans hkn2;have HA2:=hid (Kept.row HA1.out hkn2 (fun b hb hbr=>by have:=(HW2.out.lt b hb).1;omega))
     have HB2:=hid (Kept.row HB1.out hkn2 (fun b hb hbr=>by have:=(HW3.out.lt b hb).1;omega));have HNU2:=numOf_lt ((l.drop (kk+4)).take 4) 0 (by omega);generalize hNE:numOf ((l.drop (kk+4)).take 4) 0=n2 at *;have HNE2:Hid (numOf ((l.drop (kk+4)).take 4) 0=n2):=hid hNE;clear hNE;go_wp2_with fail;by_cases hc3:kk+4+4+4≤l.length
     ·refine(num_yes r A l cap (kk+4+4) 4 wn2 hrn2 hc3).mono ?_;rintro e wn3 ⟨rfl,hrn3,hkn3⟩;have hqn3:=(hkn3.block _ (show w.heap.size < wn2.heap.size from lt_block hqn2) hwr).trans hqn2;have hgn3:=(hkn3.block _ (lt_block hgn2) hgr).trans hgn2;have hkk3:=hkk2.trans hkn3;have HA3:=hid (Kept.row HA2.out hkn3 (fun b hb hbr=>by have:=(HW2.out.lt b hb).1;omega))
      have HB3:=hid (Kept.row HB2.out hkn3 (fun b hb hbr=>by have:=(HW3.out.lt b hb).1;omega));have HNU3:=numOf_lt ((l.drop (kk+4+4)).take 4) 0 (by omega);generalize hNE:numOf ((l.drop (kk+4+4)).take 4) 0=n3 at *;have HNE3:Hid (numOf ((l.drop (kk+8)).take 4) 0=n3):=hid hNE;clear hNE;obtain⟨u0,u1,u2,u3,u4,u5,u6,uf⟩:=cells7 hgn3;have uf2:=uf 2;have uf3:=uf 3;have uf4:=uf 4;go_wp2_with fail
      clear u0 u1 u2 u3 u4 u5 u6 uf uf2 uf3 uf4;generalize hw8:((wn3.setCell ⟨g,2,none⟩ (.int .u32 n1)).setCell ⟨g,3,none⟩ (.int .u32 n2)).setCell ⟨g,4,none⟩ (.int .u32 n3)=w8;have hk8:Kept (fun b=>b=g) wn3 w8:=by rw[←hw8];exact(((Kept.refl (fun b=>b=g) _).setCell (p:=⟨g,2,none⟩) (fun _=>rfl) _).setCell (p:=⟨g,3,none⟩) (fun _=>rfl) _).setCell (p:=⟨g,4,none⟩) (fun _=>rfl) _
      have hg8:w8.heap[g]? =some (.cells #[.slice Am m.length ca,.slice Bx x.length cb,.int .u32 n1,.int .u32 n2,.int .u32 n3,.int .u32 0,.int .u32 0] 91 (0,0)):=by rw[←hw8];exact heap_set (heap_set (heap_set hgn3))
      have hq8:=(hk8.block _ (lt_block hqn3) hwg).trans hqn3;have hr8:=hrn3.kept hk8 (fun h=>hgr h.symm) HGA.out;have hk08:=hkk3.then hk8 (fun b hb h=>by omega);have HA8:=hid (Kept.row HA3.out hk8 (fun b hb hbr=>by have:=(HW2.out.lt b hb).2;omega));have HB8:=hid (Kept.row HB3.out hk8 (fun b hb hbr=>by have:=(HW3.out.lt b hb).2;omega))
      clear hw8 hqn1 hqn2 hqn3 hgn1 hgn2 hgn3 hrn1 hrn2 hrn3 hk8 hg4 hq4;by_cases hc4:kk+4+4+4+4≤l.length
      ·refine(num_yes r A l cap (kk+4+4+4) 4 w8 hr8 hc4).mono ?_;rintro e wn4 ⟨rfl,hrn4,hkn4⟩;have hqn4:=(hkn4.block _ (show w.heap.size < w8.heap.size from lt_block hq8) hwr).trans hq8;have hgn4:=(hkn4.block _ (lt_block hg8) hgr).trans hg8;have hkk4:=hk08.trans hkn4;have HA4:=hid (Kept.row HA8.out hkn4 (fun b hb hbr=>by have:=(HW2.out.lt b hb).1;omega))
       have HB4:=hid (Kept.row HB8.out hkn4 (fun b hb hbr=>by have:=(HW3.out.lt b hb).1;omega));have HNU4:=numOf_lt ((l.drop (kk+4+4+4)).take 4) 0 (by omega);generalize hNE:numOf ((l.drop (kk+4+4+4)).take 4) 0=n4 at *;have HNE4:Hid (numOf ((l.drop (kk+12)).take 4) 0=n4):=hid hNE;clear hNE;go_wp2_with fail;by_cases hc5:kk+4+4+4+4+4≤l.length
       ·refine(num_yes r A l cap (kk+4+4+4+4) 4 wn4 hrn4 hc5).mono ?_;rintro e wn5 ⟨rfl,hrn5,hkn5⟩;have hqn5:=(hkn5.block _ (show w.heap.size < wn4.heap.size from lt_block hqn4) hwr).trans hqn4;have hgn5:=(hkn5.block _ (lt_block hgn4) hgr).trans hgn4;have hkk5:=hkk4.trans hkn5;have HA5:=hid (Kept.row HA4.out hkn5 (fun b hb hbr=>by have:=(HW2.out.lt b hb).1;omega))
        have HB5:=hid (Kept.row HB4.out hkn5 (fun b hb hbr=>by have:=(HW3.out.lt b hb).1;omega));have HNU5:=numOf_lt ((l.drop (kk+4+4+4+4)).take 4) 0 (by omega);generalize hNE:numOf ((l.drop (kk+4+4+4+4)).take 4) 0=n5 at *;have HNE5:Hid (numOf ((l.drop (kk+16)).take 4) 0=n5):=hid hNE;clear hNE;obtain⟨u0,u1,u2,u3,u4,u5,u6,uf⟩:=cells7 hgn5;obtain⟨q0,q1,q2,q3,q4,q5,q6,qf⟩:=cells7 hqn5
        have uf5:=uf 5;have uf6:=uf 6;have qf0:=qf 0;have qf1:=qf 1;have qf2:=qf 2;have qf3:=qf 3;have qf4:=qf 4;have qf5:=qf 5;have qf6:=qf 6;go_wp2_with fail
        have hkg:Kept (fun b=>b=g) wn5 ((wn5.setCell ⟨g,5,none⟩ (.int .u32 n4)).setCell ⟨g,6,none⟩ (.int .u32 n5)):=((Kept.refl (fun b=>b=g) wn5).setCell (p:=⟨g,5,none⟩) (fun _=>rfl) (.int .u32 n4)).setCell (p:=⟨g,6,none⟩) (fun _=>rfl) (.int .u32 n5);have hq10:=(hkg.block _ (lt_block hqn5) hwg).trans hqn5
        have hkw:Kept (fun b=>b=w.heap.size) ((wn5.setCell ⟨g,5,none⟩ (.int .u32 n4)).setCell ⟨g,6,none⟩ (.int .u32 n5)) (((((((((wn5.setCell ⟨g,5,none⟩ (.int .u32 n4)).setCell ⟨g,6,none⟩ (.int .u32 n5)).setCell ⟨w.heap.size,0,none⟩ (.slice Am m.length ca)).setCell ⟨w.heap.size,1,none⟩ (.slice Bx x.length cb)).setCell ⟨w.heap.size,2,none⟩ (.int .u32 n1)).setCell ⟨w.heap.size,3,none⟩ (.int .u32 n2)).setCell ⟨w.heap.size,4,none⟩ (.int .u32 n3)).setCell ⟨w.heap.size,5,none⟩ (.int .u32 n4)).setCell ⟨w.heap.size,6,none⟩ (.int .u32 n5)):=((((((((Kept.refl (fun b=>b=w.heap.size) _).setCell (p:=⟨w.heap.size,0,none⟩) (fun _=>rfl) (.slice Am m.length ca)).setCell (p:=⟨w.heap.size,1,none⟩) (fun _=>rfl) (.slice Bx x.length cb)).setCell (p:=⟨w.heap.size,2,none⟩) (fun _=>rfl) (.int .u32 n1)).setCell (p:=⟨w.heap.size,3,none⟩) (fun _=>rfl) (.int .u32 n2)).setCell (p:=⟨w.heap.size,4,none⟩) (fun _=>rfl) (.int .u32 n3)).setCell (p:=⟨w.heap.size,5,none⟩) (fun _=>rfl) (.int .u32 n4)).setCell (p:=⟨w.heap.size,6,none⟩) (fun _=>rfl) (.int .u32 n5))
        have hq11:(((((((((wn5.setCell ⟨g,5,none⟩ (.int .u32 n4)).setCell ⟨g,6,none⟩ (.int .u32 n5)).setCell ⟨w.heap.size,0,none⟩ (.slice Am m.length ca)).setCell ⟨w.heap.size,1,none⟩ (.slice Bx x.length cb)).setCell ⟨w.heap.size,2,none⟩ (.int .u32 n1)).setCell ⟨w.heap.size,3,none⟩ (.int .u32 n2)).setCell ⟨w.heap.size,4,none⟩ (.int .u32 n3)).setCell ⟨w.heap.size,5,none⟩ (.int .u32 n4)).setCell ⟨w.heap.size,6,none⟩ (.int .u32 n5)).heap[w.heap.size]? =some (.cells #[.slice Am m.length ca,.slice Bx x.length cb,.int .u32 n1,.int .u32 n2,.int .u32 n3,.int .u32 n4,.int .u32 n5] 91 (0,0)):=(heap_set (heap_set (heap_set (heap_set (heap_set (heap_set (heap_set hq10)))))))
        generalize(((((((((wn5.setCell ⟨g,5,none⟩ (.int .u32 n4)).setCell ⟨g,6,none⟩ (.int .u32 n5)).setCell ⟨w.heap.size,0,none⟩ (.slice Am m.length ca)).setCell ⟨w.heap.size,1,none⟩ (.slice Bx x.length cb)).setCell ⟨w.heap.size,2,none⟩ (.int .u32 n1)).setCell ⟨w.heap.size,3,none⟩ (.int .u32 n2)).setCell ⟨w.heap.size,4,none⟩ (.int .u32 n3)).setCell ⟨w.heap.size,5,none⟩ (.int .u32 n4)).setCell ⟨w.heap.size,6,none⟩ (.int .u32 n5))=w11 at *
        have hrF:=(hrn5.kept hkg (fun h=>hgr h.symm) HGA.out).kept hkw (fun h=>hwr h.symm) (fun a ha hx=>by have:=H.out.cs.where ha hx;omega);have hkF:=(hkk5.then hkg (fun b hb h=>by omega)).then hkw (fun b hb h=>by omega)
        have HAF:=own_base (Kept.row (Kept.row HA5.out hkg (fun b hb hbr=>by have:=(HW2.out.lt b hb).2;omega)) hkw (fun b hb hbr=>by have:=(HW2.out.lt b hb).1;omega)) (show w.heap.size≤w1.heap.size by omega)
        have HBF:=own_base (Kept.row (Kept.row HB5.out hkg (fun b hb hbr=>by have:=(HW3.out.lt b hb).2;omega)) hkw (fun b hb hbr=>by have:=(HW3.out.lt b hb).1;omega)) (show w.heap.size≤w2.heap.size by omega);obtain⟨z0,z1,z2,z3,z4,z5,z6,_⟩:=cells7 hq11;have hM:soaM l=⟨m,x,n1,n2,n3,n4,n5⟩:=by
         unfold soaM;rw[HE1.out,HE2.out,HE3.out,HE4.out,HNE2.out,HNE3.out,HNE4.out,HNE5.out,show(l.drop kk).take 4=(l.drop (kk+0)).take 4 from rfl,HNE1.out]
        rw[hM];refine bodyPost_ret (v:=.agg #[.slice Am m.length ca,.slice Bx x.length cb,.int .u32 n1,.int .u32 n2,.int .u32 n3,.int .u32 n4,.int .u32 n5]) ?_ rfl ⟨hkF,.inl ⟨_,Am,ca,Bx,cb,rfl,hrF, ?_,HAF,HBF⟩⟩
        ·simp[results,results171,go_sem,z0,z1,z2,z3,z4,z5,z6]
        ·rw[HE5.out,Bool.eq_iff_iff];simp;omega
       ·refine(num_no r A l cap (kk+4+4+4+4) 4 wn4 hrn4 hc5 (by omega)).mono ?_;rintro e wx ⟨rfl,hkx⟩;have HN:Hid ((soaO l).isSome=false):=hid (by rw[HE5.out];simp;omega);go_wp2_with fail;exact⟨rfl,hkk4.trans hkx,.inr ⟨HN.out,rfl⟩⟩
      ·refine(num_no r A l cap (kk+4+4+4) 4 w8 hr8 hc4 (by omega)).mono ?_;rintro e wx ⟨rfl,hkx⟩;have HN:Hid ((soaO l).isSome=false):=hid (by rw[HE5.out];simp;omega);go_wp2_with fail;exact⟨rfl,hk08.trans hkx,.inr ⟨HN.out,rfl⟩⟩
     ·refine(num_no r A l cap (kk+4+4) 4 wn2 hrn2 hc3 (by omega)).mono ?_;rintro e wx ⟨rfl,hkx⟩;have HN:Hid ((soaO l).isSome=false):=hid (by rw[HE5.out];simp;omega);go_wp2_with fail;exact⟨rfl,hkk2.trans hkx,.inr ⟨HN.out,rfl⟩⟩
    ·refine(num_no r A l cap (kk+4) 4 wn1 hrn1 hc2 (by omega)).mono ?_;rintro e wx ⟨rfl,hkx⟩;have HN:Hid ((soaO l).isSome=false):=hid (by rw[HE5.out];simp;omega);go_wp2_with fail;exact⟨rfl,hkk1.trans hkx,.inr ⟨HN.out,rfl⟩⟩
   ·refine(num_no r A l cap (kk) 4 w4 hr4 hc1 (by omega)).mono ?_;rintro e wx ⟨rfl,hkx⟩;have HN:Hid ((soaO l).isSome=false):=hid (by rw[HE5.out];simp;omega);go_wp2_with fail;exact⟨rfl,hk04.trans hkx,.inr ⟨HN.out,rfl⟩⟩
  ·have HO:=hid ho;clear ho;go_wp2_with fail;refine⟨rfl,(hk01.trans hk2).trans hk3,.inr ⟨?_,rfl⟩⟩;unfold soaO;rw[HO1.out];simp only[];rw[HO.out];rfl
 ·have HO:=hid ho;clear ho;go_wp2_with fail;refine⟨rfl,hk01.trans hk2,.inr ⟨?_,rfl⟩⟩;have:=HO.out;rw[List.drop_zero]at this;unfold soaO;rw[this];rfl
theorem isN_bools{t:Int}(ht:isN t):(t==2)=true∨(t==2)=false∧(t==5)=true∨(t==2)=false∧(t==5)=false∧(t==15)=true:=by
 rcases ht with rfl|rfl|rfl
 ·exact .inl rfl
 ·exact .inr (.inl ⟨rfl,rfl⟩)
 ·exact .inr (.inr ⟨rfl,rfl,rfl⟩)
theorem Target(t:Int)(ht:isN t)(A:Option Addr)(l:Lab)(cap:Nat)(w:World)(hc:Cs w A (l.map byteV))(hl:l.length≤100000)(hcap:l.length≤cap)(hcap2:cap≤maxLen):
 Calls prog 195 #[.int .u16 t,.slice A l.length cap] w fun e w'=>
  Below w.heap.size w w'∧∃v,e=.returned (.tuple #[v,.int .i64 (code50 (shp t l))])∧w'.ownsRow w.heap.size 9 1 v (tgt t l).length ((tgt t l).map strV):=by
 have hmf:∀(fn:Fn) (first cap:Array Value) (w:World),(Instr.makeFunc fn first cap).run prog w=.ok (.func fn first cap) w:=fun _ _ _ _=>rfl;have hb1:Below w.heap.size w (w.alloc (.cells #[.int .u16 t] 36)):=bAl
 have hr:=readN ⟨w.heap.size,0,none⟩ t ht A l cap (w.alloc (.cells #[.int .u16 t] 36)) (by simp[go_sem]) (by simp) rfl (hc.below hb1) hl hcap hcap2;have HR:=hid hr;have hbs:=isN_bools ht;clear hr hc ht;rcases hbs with h1|⟨h1,h2⟩|⟨h1,h2,h3⟩
 all_goals
  go_enter func195,ntmps195;go_wp2_with fail;refine HR.out.mono ?_;rintro e w2 ⟨hb2,v,rfl,hown⟩;go_wp2_with fail
  go_ret2
  exact⟨hb1.trans (hb2.mono (by simp)),_,rfl,own_base hown (by simp)⟩
def canonR(t:Int)(l:Lab):Lab:=if chk t l then canonO t l else[]
theorem canonR_yes{t:Int}{l:Lab}(h:chk t l=true):canonR t l=canonO t l:=by unfold canonR;rw[h];rfl
theorem canonR_no{t:Int}{l:Lab}(h:chk t l=false):canonR t l=[]:=by unfold canonR;rw[h];rfl
theorem canonO_name{t:Int}(ht:isN t)(l:Lab):canonO t l=l.take (ahd t)++wire (lower (openN (l.drop (ahd t)))):=by
 rcases ht with rfl|rfl|rfl
 ·rfl
 ·rfl
 ·rfl
theorem shp_of_chk{t:Int}(h1:t≠6)(h2:t≠46)(h3:t≠48){l:Lab}(h:chk t l=true):shp t l=true∧l.length≤8192:=by
 rw[chk_shp h1 h2 h3]at h;simp at h;exact⟨h.2,h.1⟩
theorem openN_small(b:Lab):Small (openN b):=by
 cases hO:openO b with
 |none=>rw[(openO_none hO).2.1];exact⟨by simp,by simp⟩
 |some p=>
  obtain⟨n,k⟩:=p;obtain⟨_,h2,_,h4,_⟩:=openO_some hO;obtain⟨g1,g2,g3,g4⟩:=openO_le hO;rw[h4];exact⟨by omega,fun l hl=>by have:=(g3 l hl).2;omega⟩
theorem wire_small{n:List Lab}(h:Small n):(wire n).length≤1001001:=by
 have:=wires_few h;unfold wire;simp;omega
theorem CanonN(t:Int)(ht:isN t)(A:Option Addr)(l:Lab)(cap:Nat)(w:World)(hc:Cs w A (l.map byteV))(hl:l.length≤100000)(hcap:l.length≤cap)(hcap2:cap≤maxLen):
 Calls prog 148 #[.int .u16 t,.slice A l.length cap] w fun e w'=>
  Below w.heap.size w w'∧∃v,e=.returned (.tuple #[v,.int .i64 (code50 (chk t l))])∧w'.ownsRow w.heap.size 5 1 v (canonR t l).length ((canonR t l).map byteV):=by
 have q1:t≠6:=by rcases ht with rfl|rfl|rfl <;> decide
 have q2:t≠46:=by rcases ht with rfl|rfl|rfl <;> decide
 have q3:t≠48:=by rcases ht with rfl|rfl|rfl <;> decide
 have q4:t≠50:=by rcases ht with rfl|rfl|rfl <;> decide
 have hC:=CheckS t A l cap w q1 q2 q3 q4 hc hl hcap hcap2;have HC:=hid hC;clear hC;cases hk:chk t l with
 |false=>
  have HE:=hid (canonR_no hk);have HK:=hid hk;clear hk hc;rw[HK.out]at HC;go_enter func148,ntmps148;go_wp2_with fail;refine HC.out.mono ?_;rintro e w1 ⟨hb1,rfl⟩;unfold code50;go_wp2_with fail
  go_ret2
  exact⟨hb1,_,rfl,by rw[HE.out];exact World.ownsRow_nil _ _ _ _⟩
 |true=>
  obtain⟨hs,hl8⟩:=shp_of_chk q1 q2 q3 hk;have HE:=hid ((canonR_yes hk).trans (canonO_name ht l));have HTg:Hid (tgt t l=openN (l.drop (ahd t))):=hid (by unfold tgt;rw[hs];rfl);have hsm:=openN_small (l.drop (ahd t));have HK:=hid hk;have hbs:=isN_bools ht;have ha2:ahd t≤l.length:=by
   have:=shp_name ht l;rw[hs]at this;simp at this;exact this.1
  have hC2:Cs w A ((l.take (ahd t)).map byteV):=by rw[List.map_take];exact hc.take' _
  have HT:Hid (∀W,Below w.heap.size w W→Calls prog 195 #[.int .u16 t,.slice A l.length cap] W fun e w'=>
   Below W.heap.size W w'∧∃v,e=.returned (.tuple #[v,.int .i64 (code50 (shp t l))])∧w'.ownsRow W.heap.size 9 1 v (tgt t l).length ((tgt t l).map strV)):=hid fun W hW=>Target t ht A l cap W (hc.below hW) hl hcap hcap2
  rw[HK.out]at HC;rw[hs,HTg.out]at HT;have HC2:=hid hC2;have htl:(l.take (ahd t)).length=ahd t:=by rw[List.length_take];omega
  have HTL:=hid htl;have HA:Hid (∀W,Calls prog 196 #[.int .u16 t] W fun e w'=>e=.returned (.int .i64 (ahd t))∧W=w'):=hid (ahead t);have HE2:Hid (canonR t l=l.take (ahd t)++wire (lower (openN (l.drop (ahd t))))):=HE;clear hk hs ht hc HE hC2 htl HTg q1 q2 q3 q4;generalize canonR t l=cr at *;generalize openN (l.drop (ahd t))=nm at *;generalize hpre:l.take (ahd t)=pr at *;clear hpre
  generalize ahd t=a at *;unfold maxLen at hcap2;unfold code50 at *;rcases hbs with h1|⟨h1,h2⟩|⟨h1,h2,h3⟩
  all_goals
   go_enter func148,ntmps148;go_wp2_with fail;refine HC.out.mono ?_;rintro e w1 ⟨hb1,rfl⟩;go_wp2_with fail;refine(HT.out w1 hb1).mono ?_;rintro e w2 ⟨hb2,v,rfl,hown⟩;obtain⟨A5,c5,rfl,_,hcs5⟩:=Cs.of_own hown;have hb12:=hb1.trans (hb2.mono hb1.size);clear hown;have HCS:=hid hcs5;clear hcs5;go_wp2_with fail;refine(HA.out _).mono ?_;rintro e w3 ⟨rfl,rfl⟩
   have hcl:=CloneB A pr cap w2 (HC2.out.below hb12) (by rw[HTL.out];omega);rw[HTL.out]at hcl;go_wp2_with fail;refine hcl.mono ?_;rintro e w3 ⟨v3,rfl,hown3,hb3⟩;have hb123:=hb12.trans (hb3.mono hb12.size);go_wp2_with fail;refine(Lower A5 nm c5 w3 (HCS.out.below hb3) hsm.few).mono ?_;rintro e w4 ⟨v4,rfl,hown4,hb4⟩;obtain⟨A6,c6,rfl,_,hcs6⟩:=Cs.of_own hown4
   have hb1234:=hb123.trans (hb4.mono hb123.size);have hown34:=own_below hown3 hb4;have HCS6:Hid (Cs w4 A6 ((lower nm).map strV)):=hid (by exact hcs6);have hll:(lower nm).length=nm.length:=lower_len nm;have hwi:=Wire A6 (lower nm) c6 w4 HCS6.out hsm.lower;rw[hll]at hwi;have HWI:=hid hwi;have hwl:=wire_small hsm.lower;clear hcs6 hwi hll hown3 hown4;go_wp2_with fail;refine HWI.out.mono ?_
   rintro e w5 ⟨v5,rfl,hown5,hb5⟩;obtain⟨A7,c7,rfl,_,hcs7⟩:=Cs.of_own hown5;have hb12345:=hb1234.trans (hb5.mono hb1234.size);have hown35:=own_below hown34 hb5;have hz1:=hb12.size;have hz2:=hb12345.size;have hz3:=hb123.size;have hz4:=hb1234.size;clear hown5 hown34;have HCS7:=hid hcs7;clear hcs7;generalize wire (lower nm)=wl at *;have hown36:=own_base hown35 hz1;clear hown35
   go_wp2_with (first|(at_builtin;refine wpList_bytes hown36 hz2 HCS7.out rfl _ _ underlying37 rfl rfl rfl (by omega) ?_;intro v8 w8 hown8 hbw8;have hbw9:=hb12345.trans hbw8))
   go_ret2
   refine⟨hbw9,_,rfl, ?_⟩;rw[HE2.out,List.length_append,HTL.out];exact hown8
theorem CanonP(t:Int)(p1:t≠2)(p2:t≠5)(p3:t≠15)(q1:t≠6)(q2:t≠46)(q3:t≠48)(q4:t≠50)(A:Option Addr)(l:Lab)(cap:Nat)(w:World)(hc:Cs w A (l.map byteV))(hl:l.length≤100000)(hcap:l.length≤cap)(hcap2:cap≤maxLen):
 Calls prog 148 #[.int .u16 t,.slice A l.length cap] w fun e w'=>
  Below w.heap.size w w'∧∃v,e=.returned (.tuple #[v,.int .i64 (code50 (chk t l))])∧w'.ownsRow w.heap.size 5 1 v (canonR t l).length ((canonR t l).map byteV):=by
 have hC:=CheckS t A l cap w q1 q2 q3 q4 hc hl hcap hcap2;have HC:=hid hC;have b1:(t==2)=false:=by simpa using p1
 have b2:(t==5)=false:=by simpa using p2
 have b3:(t==15)=false:=by simpa using p3
 have b4:(t==6)=false:=by simpa using q1
 have b5:(t==46)=false:=by simpa using q2
 clear hC;cases hk:chk t l with
 |false=>
  have HE:=hid (canonR_no hk);have HK:=hid hk;clear hk hc;rw[HK.out]at HC;go_enter func148,ntmps148;go_wp2_with fail;refine HC.out.mono ?_;rintro e w1 ⟨hb1,rfl⟩;unfold code50;go_wp2_with fail
  go_ret2
  exact⟨hb1,_,rfl,by rw[HE.out];exact World.ownsRow_nil _ _ _ _⟩
 |true=>
  have HE:Hid (canonR t l=l):=hid ((canonR_yes hk).trans (by
   unfold canonO;rw[if_neg (fun h=>h.elim p1 p2),if_neg p3,if_neg q1,if_neg q2]))
  have HK:=hid hk;clear hk;rw[HK.out]at HC;have HCs:=hid hc;clear hc p1 p2 p3 q1 q2 q3 q4;unfold code50 at *;go_enter func148,ntmps148;go_wp2_with fail;refine HC.out.mono ?_;rintro e w1 ⟨hb1,rfl⟩;go_wp2_with fail;refine(CloneB A l cap w1 (HCs.out.below hb1) (by omega)).mono ?_;rintro e w3 ⟨v3,rfl,hown3,hb3⟩;go_wp2_with fail
  go_ret2
  exact⟨hb1.trans (hb3.mono hb1.size),_,rfl,by rw[HE.out];exact own_base hown3 hb1.size⟩
theorem set7{w:World}{a:Nat}{y0 y1 y2 y3 y4 y5 y6:Value}{T:TypeId}(h:w.heap[a]? =some (.cells #[y0,y1,y2,y3,y4,y5,y6] T (0,0)))(v0 v1 v2 v3 v4 v5 v6:Value){w':World}(hw:w'=(((((((w.setCell ⟨a,0,none⟩ v0).setCell ⟨a,1,none⟩ v1).setCell ⟨a,2,none⟩ v2).setCell ⟨a,3,none⟩ v3).setCell ⟨a,4,none⟩ v4).setCell ⟨a,5,none⟩ v5).setCell ⟨a,6,none⟩ v6)):
 w'.heap[a]? =some (.cells #[v0,v1,v2,v3,v4,v5,v6] T (0,0))∧Kept (fun k=>k=a) w w':=by
 subst hw
 exact⟨(heap_set (heap_set (heap_set (heap_set (heap_set (heap_set (heap_set h))))))),((((((((Kept.refl (fun k=>k=a) w).setCell (p:=⟨a,0,none⟩) (fun _=>rfl) v0).setCell (p:=⟨a,1,none⟩) (fun _=>rfl) v1).setCell (p:=⟨a,2,none⟩) (fun _=>rfl) v2).setCell (p:=⟨a,3,none⟩) (fun _=>rfl) v3).setCell (p:=⟨a,4,none⟩) (fun _=>rfl) v4).setCell (p:=⟨a,5,none⟩) (fun _=>rfl) v5).setCell (p:=⟨a,6,none⟩) (fun _=>rfl) v6)⟩
theorem readS1_panic(a b:Nat)(y0 y1 y2 y3 y4 y5 y6 x1:Value)(w:World)(h0:w.heap[a]? =some (.cells #[y0,y1,y2,y3,y4,y5,y6] 91 (0,0)))(h1:w.cell? ⟨b,0,none⟩=some x1)
 (f1:w.frozen? ⟨b,0,none⟩=false) (l0:a < w.heap.size) (l1:b < w.heap.size) (hab:a < b):
 CallsD prog 216 #[.pointer (some ⟨a,0,none⟩),.pointer (some ⟨b,0,none⟩)] (.panicking mustP) w fun e u' w'=>
  e=.returned (.tuple #[])∧u'=mustR∧w'.heap[a]? =some (.cells #[.slice none 0 0,.slice none 0 0,.int .u32 0,.int .u32 0,.int .u32 0,.int .u32 0,.int .u32 0] 91 (0,0))∧w'.cell? ⟨b,0,none⟩=some (.int .i64 50)∧Below a w w':=by
 have hta:=asserted_must;obtain⟨g0,g1,g2,g3,g4,g5,g6,gf⟩:=cells7 h0;have gf0:=gf 0;have gf1:=gf 1;have gf2:=gf 2;have gf3:=gf 3;have gf4:=gf 4;have gf5:=gf 5;have gf6:=gf 6;refine callsD_of_wpS func216 rfl fun c₀ cs hu=> ?_;apply wpS_seq;apply wpS_region;simp[wpOpsS,go_sem,recoverD,mustP,hu,ntmps216,Exit.thenS];refine wpS_of_wp ?_
 simp only[Array.replicate_succ,Array.replicate_zero,List.push_toArray,List.append_toArray,List.nil_append,List.cons_append,List.setIfInBounds_toArray,List.set_cons_succ,List.set_cons_zero];have n0:¬a=w.heap.size:=by omega
 have n1:¬b=w.heap.size:=by omega
 have m0:¬w.heap.size=a:=by omega
 have m1:¬w.heap.size=b:=by omega
 have n2:¬a=w.heap.size+1:=by omega
 have n3:¬b=w.heap.size+1:=by omega
 have m2:¬w.heap.size+1=a:=by omega
 have m3:¬w.heap.size+1=b:=by omega
 have d0:¬a=b:=by omega
 have d1:¬b=a:=by omega
 go_wp2_with fail;obtain⟨z0,hk⟩:=set7 h0 (.slice none 0 0) (.slice none 0 0) (.int .u32 0) (.int .u32 0) (.int .u32 0) (.int .u32 0) (.int .u32 0) rfl;have z1:=setc_same (v:=.int .i64 50) ((hk.cell (o:=0) l1 (by omega)).trans h1);have hs:=hk.size;have hk2:=hk.setCell (S:=fun k=>k=a) (p:=⟨b,0,none⟩)
 have z2:((World.setCell (((((((w.setCell ⟨a,0,none⟩ (.slice none 0 0)).setCell ⟨a,1,none⟩ (.slice none 0 0)).setCell ⟨a,2,none⟩ (.int .u32 0)).setCell ⟨a,3,none⟩ (.int .u32 0)).setCell ⟨a,4,none⟩ (.int .u32 0)).setCell ⟨a,5,none⟩ (.int .u32 0)).setCell ⟨a,6,none⟩ (.int .u32 0)) ⟨b,0,none⟩ (.int .i64 50))).heap[a]? =some (.cells #[.slice none 0 0,.slice none 0 0,.int .u32 0,.int .u32 0,.int .u32 0,.int .u32 0,.int .u32 0] 91 (0,0)):=
  (Below.heap_setCell _ _ _ _ (show a≠b by omega)).trans z0
 have hB:=((hk.below (B:=a) (by omega) (fun k hk=>by omega)).setCell (p:=⟨b,0,none⟩) (show a≤b by omega) (.int .i64 50))
 have hBs:=hB.size;clear hk2 z0 hk;generalize(World.setCell (((((((w.setCell ⟨a,0,none⟩ (.slice none 0 0)).setCell ⟨a,1,none⟩ (.slice none 0 0)).setCell ⟨a,2,none⟩ (.int .u32 0)).setCell ⟨a,3,none⟩ (.int .u32 0)).setCell ⟨a,4,none⟩ (.int .u32 0)).setCell ⟨a,5,none⟩ (.int .u32 0)).setCell ⟨a,6,none⟩ (.int .u32 0)) ⟨b,0,none⟩ (.int .i64 50))=W at *
 have la:a < W.heap.size:=by omega
 exact⟨rfl,_,rfl,_,results_none rfl _ _ _,rfl,rfl,(Below.heap_alloc _ _ _ (by simp;omega)).trans ((Below.heap_alloc _ _ _ la).trans z2),alloc_cell _ (alloc_cell _ z1),(hB.alloc (by omega) _).alloc (by simp;omega) _⟩
theorem readS1_idle(a b:Addr)(w:World):CallsD prog 216 #[.pointer (some a),.pointer (some b)] .returning w fun e u' w'=>e=.returned (.tuple #[])∧u'=.returning∧w'=w:=by
 refine callsD_of_wpS func216 rfl fun c₀ cs hu=> ?_;apply wpS_seq;apply wpS_region;simp[wpOpsS,go_sem,recoverD,hu,ntmps216,Exit.thenS];refine wpS_of_wp ?_;simp only[Array.replicate_succ,Array.replicate_zero,List.push_toArray,List.append_toArray,List.nil_append,List.cons_append,List.setIfInBounds_toArray,List.set_cons_succ,List.set_cons_zero];go_wp2_with fail
 exact⟨rfl,.returning,by cases c₀;simp_all,_,results_none rfl _ _ _,rfl,rfl,rfl⟩
def soaB(l:Lab):Bool:=(soaO l).isSome
def SoaPost(w w':World)(l:Lab)(v:Value):Prop:=(soaB l=false→v=.agg #[.slice none 0 0,.slice none 0 0,.int .u32 0,.int .u32 0,.int .u32 0,.int .u32 0,.int .u32 0])∧(soaB l=true→∃Am ca Bx cb,v=(soaM l).v Am ca Bx cb∧
 w'.ownsRow w.heap.size 9 1 (.slice Am (soaM l).m.length ca) (soaM l).m.length ((soaM l).m.map strV)∧w'.ownsRow w.heap.size 9 1 (.slice Bx (soaM l).x.length cb) (soaM l).x.length ((soaM l).x.map strV))
theorem readS(A:Option Addr)(l:Lab)(cap:Nat)(w:World)(hc:Cs w A (l.map byteV))(hl:l.length≤100000)(hcap:l.length≤cap)(hcap2:cap≤maxLen):
 Calls prog 170 #[.slice A l.length cap,.func (.func 171) #[] #[]] w fun e w'=>
  Below w.heap.size w w'∧∃v,e=.returned (.tuple #[v,.int .i64 (code50 (soaB l))])∧SoaPost w w' l v:=by
 have hmf:∀(fn:Fn) (first cap:Array Value) (w:World),(Instr.makeFunc fn first cap).run prog w=.ok (.func fn first cap) w:=fun _ _ _ _=>rfl
 go_enter_defers func170,ntmps170
 go_wp2_with fail;generalize hw3:((w.alloc (.cells #[.slice none 0 0,.slice none 0 0,.int .u32 0,.int .u32 0,.int .u32 0,.int .u32 0,.int .u32 0] 91)).alloc (.cells #[.int .i64 0] 96)).alloc (.cells #[.slice A l.length cap,.int .i64 0] 260)=w3;have hb3:Below w.heap.size w w3:=by rw[←hw3];exact(bAl.alloc (by simp) _).alloc (by simp;omega) _
 have hsz3:w3.heap.size=w.heap.size+3:=by rw[←hw3];simp
 have q3:w3.heap[w.heap.size]? =some (.cells #[.slice none 0 0,.slice none 0 0,.int .u32 0,.int .u32 0,.int .u32 0,.int .u32 0,.int .u32 0] 91 (0,0)):=by
  rw[←hw3];rw[Below.heap_alloc _ _ _ (by simp;omega),Below.heap_alloc _ _ _ (by simp)];exact heap_alloc_new w _
 have c1:w3.cell? ⟨w.heap.size+1,0,none⟩=some (.int .i64 0):=by rw[←hw3];simp[go_sem]
 have f1:w3.frozen? ⟨w.heap.size+1,0,none⟩=false:=by rw[←hw3];simp[go_sem]
 have hR:Rdr w3 (w.heap.size+1+1) A l cap 0:=by
  refine⟨by rw[←hw3];simp[go_sem],by rw[←hw3];simp[go_sem],by rw[←hw3];simp[go_sem],by omega,hc.below hb3, ?_,hl,hcap,hcap2,Nat.zero_le _⟩;intro a ha hx;have:=hc.where ha hx;omega
 clear hw3;refine(Soa1 (w.heap.size+1+1) A l cap w3 hR (by omega)).mono ?_;rintro e w4 ⟨hk4,hcase⟩;have q4:=(hk4.block _ (show w.heap.size < w3.heap.size by omega) (by omega)).trans q3;have d1:=(hk4.cell (b:=w.heap.size+1) (o:=0) (by omega) (by omega)).trans c1;have g1:=(hk4.frozen (b:=w.heap.size+1) (o:=0) (by omega) (by omega)).trans f1;have hsz4:=hk4.size
 have hb4:Below w.heap.size w w4:=hb3.trans (hk4.below (by omega) (fun k hk=>by omega));clear c1 f1 hR q3 hk4;have door:∀(y0 y1 y2 y3 y4 y5 y6:Value) (W:World),Below w.heap.size w W→W.heap[w.heap.size]? =some (.cells #[y0,y1,y2,y3,y4,y5,y6] 91 (0,0))→W.cell? ⟨w.heap.size+1,0,none⟩=some (.int .i64 0)→W.frozen? ⟨w.heap.size+1,0,none⟩=false→w.heap.size+3≤W.heap.size→
  CallsD prog 216 #[.pointer (some ⟨w.heap.size,0,none⟩),.pointer (some ⟨w.heap.size+1,0,none⟩)] (.panicking mustP) W fun e u' w'=>
  e=.returned (.tuple #[])∧u'=mustR∧w'.heap[w.heap.size]? =some (.cells #[.slice none 0 0,.slice none 0 0,.int .u32 0,.int .u32 0,.int .u32 0,.int .u32 0,.int .u32 0] 91 (0,0))∧w'.cell? ⟨w.heap.size+1,0,none⟩=some (.int .i64 50)∧Below w.heap.size w w':=fun y0 y1 y2 y3 y4 y5 y6 W hb k0 k1 j1 hs=>
  (readS1_panic w.heap.size (w.heap.size+1) _ _ _ _ _ _ _ _ W k0 k1 j1 (by omega) (by omega) (by omega)).mono fun e u' w' ⟨h1,h2,h3,h4,h5⟩=>⟨h1,h2,h3,h4,hb.trans h5⟩
 have HD:=hid door;clear door;obtain⟨M,X,n1,n2,n3,n4,n5,hsm⟩:∃M X n1 n2 n3 n4 n5,soaM l=⟨M,X,n1,n2,n3,n4,n5⟩:=⟨_,_,_,_,_,_,_,rfl⟩
 rw[hsm]at hcase;unfold SoaM.v at hcase;simp only at hcase;have HSM:=hid hsm;clear hsm;have HSO:Hid ((soaO l).isSome=soaB l):=hid rfl;rw[HSO.out]at hcase;have n0:¬w.heap.size=w.heap.size+1:=by omega
 have nn1:¬w.heap.size=w.heap.size+1+1:=by omega
 have nn2:¬w.heap.size+1=w.heap.size:=by omega
 have nn3:¬w.heap.size+1+1=w.heap.size:=by omega
 rcases hcase with⟨j,Am,ca,Bx,cb,rfl,hr,hs,hownM,hownX⟩|⟨hs,rfl⟩
 ·have HS:=hid hs;have e1:=hr.c1;have hlj:=hr.le;obtain⟨u0,u1,u2,u3,u4,u5,u6,uf⟩:=cells7 q4;have uf0:=uf 0;have uf1:=uf 1;have uf2:=uf 2;have uf3:=uf 3;have uf4:=uf 4;have uf5:=uf 5;have uf6:=uf 6;clear hs hr;by_cases hj:j=l.length
  ·have hjb:((j:Int)==(l.length:Int))=true:=by simp[hj]
   have HT:Hid (soaB l=true):=hid (by rw[HS.out];simpa using hj);clear hj HS;go_wp2_with fail;obtain⟨qA,hkA⟩:=set7 q4 (.slice Am M.length ca) (.slice Bx X.length cb) (.int .u32 n1) (.int .u32 n2) (.int .u32 n3) (.int .u32 n4) (.int .u32 n5) rfl
   generalize(((((((w4.setCell ⟨w.heap.size,0,none⟩ (.slice Am M.length ca)).setCell ⟨w.heap.size,1,none⟩ (.slice Bx X.length cb)).setCell ⟨w.heap.size,2,none⟩ (.int .u32 n1)).setCell ⟨w.heap.size,3,none⟩ (.int .u32 n2)).setCell ⟨w.heap.size,4,none⟩ (.int .u32 n3)).setCell ⟨w.heap.size,5,none⟩ (.int .u32 n4)).setCell ⟨w.heap.size,6,none⟩ (.int .u32 n5))=w5 at *
   have hbA:Below w.heap.size w w5:=hb4.trans (hkA.below (B:=w.heap.size) (by omega) (fun k hk=>by omega));have hsA:=hkA.size;have dA:=(hkA.cell (b:=w.heap.size+1) (o:=0) (by omega) (by omega)).trans d1;have gA:=(hkA.frozen (b:=w.heap.size+1) (o:=0) (by omega) (by omega)).trans g1;obtain⟨t0,t1,t2,t3,t4,t5,t6,tf⟩:=cells7 qA;have tf0:=tf 0;have tf1:=tf 1;have tf2:=tf 2;have tf3:=tf 3;have tf4:=tf 4
   have tf5:=tf 5;have tf6:=tf 6;have hownM':=Kept.row hownM hkA (fun k hk=>by have:=(hownM.lt k hk).1;omega);have hownX':=Kept.row hownX hkA (fun k hk=>by have:=(hownX.lt k hk).1;omega);clear u0 u1 u2 u3 u4 u5 u6 uf uf0 uf1 uf2 uf3 uf4 uf5 uf6 q4 d1 g1 e1 hkA;refine(must_yes _).mono ?_;rintro e w' ⟨rfl,rfl⟩;go_wp2_with fail
   obtain⟨qB,hkB⟩:=set7 qA (.slice Am M.length ca) (.slice Bx X.length cb) (.int .u32 n1) (.int .u32 n2) (.int .u32 n3) (.int .u32 n4) (.int .u32 n5) rfl;have hsB:=hkB.size;have dB:=(hkB.cell (b:=w.heap.size+1) (o:=0) (by omega) (by omega)).trans dA;have hbB:=hbA.trans (hkB.below (B:=w.heap.size) (by omega) (fun k hk=>by omega))
   have hownM2:=Kept.row hownM' hkB (fun k hk=>by have:=(hownM.lt k hk).1;omega);have hownX2:=Kept.row hownX' hkB (fun k hk=>by have:=(hownX.lt k hk).1;omega)
   generalize(((((((w5.setCell ⟨w.heap.size,0,none⟩ (.slice Am M.length ca)).setCell ⟨w.heap.size,1,none⟩ (.slice Bx X.length cb)).setCell ⟨w.heap.size,2,none⟩ (.int .u32 n1)).setCell ⟨w.heap.size,3,none⟩ (.int .u32 n2)).setCell ⟨w.heap.size,4,none⟩ (.int .u32 n3)).setCell ⟨w.heap.size,5,none⟩ (.int .u32 n4)).setCell ⟨w.heap.size,6,none⟩ (.int .u32 n5))=w6 at *
   have hkC:Kept (fun k=>k=w.heap.size+1) w6 (w6.setCell ⟨w.heap.size+1,0,none⟩ (.int .i64 0)):=(Kept.refl _ _).setCell (S:=fun k=>k=w.heap.size+1) (p:=⟨w.heap.size+1,0,none⟩) (fun _=>rfl) _;have qC:=(hkC.block _ (show w.heap.size < w6.heap.size by omega) (by omega)).trans qB;have dC:=setc_same (v:=.int .i64 0) dB
   have hbC:=hbB.trans (hkC.below (B:=w.heap.size) (by omega) (fun k hk=>by omega));have hownM3:=Kept.row hownM2 hkC (fun k hk=>by have:=(hownM.lt k hk).1;omega);have hownX3:=Kept.row hownX2 hkC (fun k hk=>by have:=(hownX.lt k hk).1;omega);generalize w6.setCell ⟨w.heap.size+1,0,none⟩ (.int .i64 0)=w7 at *
   refine leaves_cons (f:=216) (args:= #[.pointer (some ⟨w.heap.size,0,none⟩),.pointer (some ⟨w.heap.size+1,0,none⟩)]) (by simp) (by simp[go_sem]) ?_;refine(readS1_idle _ _ _).mono ?_;rintro e u' w9 ⟨rfl,rfl,rfl⟩;obtain⟨y0,y1,y2,y3,y4,y5,y6,_⟩:=cells7 qC;simp[Leaves,settle,results,results170,go_sem,y0,y1,y2,y3,y4,y5,y6,dC]
   refine⟨hbC,_,⟨rfl,by rw[HT.out];rfl⟩,fun h=> ?_,fun _=>⟨Am,ca,Bx,cb, ?_, ?_, ?_⟩⟩
   ·rw[HT.out]at h;cases h
   ·rw[HSM.out];rfl
   ·rw[HSM.out];exact own_base hownM3 (by omega)
   ·rw[HSM.out];exact own_base hownX3 (by omega)
  ·have hjb:((j:Int)==(l.length:Int))=false:=by simp;omega
   have HT:Hid (soaB l=false):=hid (by rw[HS.out];simpa using hj);clear hj HS;go_wp2_with fail;obtain⟨qA,hkA⟩:=set7 q4 (.slice Am M.length ca) (.slice Bx X.length cb) (.int .u32 n1) (.int .u32 n2) (.int .u32 n3) (.int .u32 n4) (.int .u32 n5) rfl
   generalize(((((((w4.setCell ⟨w.heap.size,0,none⟩ (.slice Am M.length ca)).setCell ⟨w.heap.size,1,none⟩ (.slice Bx X.length cb)).setCell ⟨w.heap.size,2,none⟩ (.int .u32 n1)).setCell ⟨w.heap.size,3,none⟩ (.int .u32 n2)).setCell ⟨w.heap.size,4,none⟩ (.int .u32 n3)).setCell ⟨w.heap.size,5,none⟩ (.int .u32 n4)).setCell ⟨w.heap.size,6,none⟩ (.int .u32 n5))=w5 at *
   have hbA:Below w.heap.size w w5:=hb4.trans (hkA.below (B:=w.heap.size) (by omega) (fun k hk=>by omega));have hsA:=hkA.size;have dA:=(hkA.cell (b:=w.heap.size+1) (o:=0) (by omega) (by omega)).trans d1;have gA:=(hkA.frozen (b:=w.heap.size+1) (o:=0) (by omega) (by omega)).trans g1;clear u0 u1 u2 u3 u4 u5 u6 uf uf0 uf1 uf2 uf3 uf4 uf5 uf6 q4 d1 g1 e1 hkA;refine(must_no _).mono ?_
   rintro e w' ⟨rfl,rfl⟩;go_wp2_with fail;refine leaves_cons (f:=216) (args:= #[.pointer (some ⟨w.heap.size,0,none⟩),.pointer (some ⟨w.heap.size+1,0,none⟩)]) (by simp) (by simp[go_sem]) ?_;refine(HD.out _ _ _ _ _ _ _ w5 hbA qA dA gA (by omega)).mono ?_;rintro e u' w9 ⟨rfl,rfl,zq,z1,hb5⟩;obtain⟨y0,y1,y2,y3,y4,y5,y6,_⟩:=cells7 zq
   simp[Leaves,settle,mustR,results,results170,go_sem,y0,y1,y2,y3,y4,y5,y6,z1];refine⟨hb5,_,⟨rfl,by rw[HT.out];rfl⟩,fun _=>rfl,fun h=> ?_⟩;rw[HT.out]at h;cases h
 ·have HS:=hid hs;clear hs;go_wp2_with fail;refine leaves_cons (f:=216) (args:= #[.pointer (some ⟨w.heap.size,0,none⟩),.pointer (some ⟨w.heap.size+1,0,none⟩)]) (by simp) (by simp[go_sem]) ?_;refine(HD.out _ _ _ _ _ _ _ w4 hb4 q4 d1 g1 (by omega)).mono ?_;rintro e u' w5 ⟨rfl,rfl,zq,z1,hb5⟩;obtain⟨y0,y1,y2,y3,y4,y5,y6,_⟩:=cells7 zq
  simp[Leaves,settle,mustR,results,results170,go_sem,y0,y1,y2,y3,y4,y5,y6,z1];refine⟨hb5,_,⟨rfl,by rw[HS.out];rfl⟩,fun _=>rfl,fun h=> ?_⟩;rw[HS.out]at h;cases h
theorem Soa(A:Option Addr)(l:Lab)(cap:Nat)(w:World)(hc:Cs w A (l.map byteV))(hl:l.length≤100000)(hcap:l.length≤cap)(hcap2:cap≤maxLen):
 Calls prog 124 #[.slice A l.length cap] w fun e w'=>Below w.heap.size w w'∧∃v,e=.returned (.tuple #[v,.int .i64 (code50 (soaB l))])∧SoaPost w w' l v:=by
 go_enter func124,ntmps124;go_wp2_with fail;generalize hw2:w.alloc (.cells #[.slice none 0 0,.slice none 0 0,.int .u32 0,.int .u32 0,.int .u32 0,.int .u32 0,.int .u32 0] 91)=w2;have hb2:Below w.heap.size w w2:=by rw[←hw2];exact bAl
 have hz2:w2.heap.size=w.heap.size+1:=by rw[←hw2];simp
 have q2:w2.heap[w.heap.size]? =some (.cells #[.slice none 0 0,.slice none 0 0,.int .u32 0,.int .u32 0,.int .u32 0,.int .u32 0,.int .u32 0] 91 (0,0)):=by rw[←hw2];exact heap_alloc_new w _
 clear hw2;refine(readS A l cap w2 (hc.below hb2) hl hcap hcap2).mono ?_;rintro e w3 ⟨hb3,v,rfl,hp⟩;have q3:=(hb3.block _ (show w.heap.size < w2.heap.size by omega)).trans q2;have hz3:=hb3.size;have hb13:=hb2.trans (hb3.mono (by omega));obtain⟨u0,u1,u2,u3,u4,u5,u6,uf⟩:=cells7 q3;have uf0:=uf 0;have uf1:=uf 1;have uf2:=uf 2;have uf3:=uf 3;have uf4:=uf 4;have uf5:=uf 5;have uf6:=uf 6
 cases hso:soaB l with
 |false=>
  have hv:=hp.1 hso;subst hv;go_wp2_with fail;obtain⟨qA,hkA⟩:=set7 q3 (.slice none 0 0) (.slice none 0 0) (.int .u32 0) (.int .u32 0) (.int .u32 0) (.int .u32 0) (.int .u32 0) rfl;have hbF:=hb13.trans (hkA.below (B:=w.heap.size) (by omega) (fun k hk=>by omega))
  generalize(((((((w3.setCell ⟨w.heap.size,0,none⟩ (.slice none 0 0)).setCell ⟨w.heap.size,1,none⟩ (.slice none 0 0)).setCell ⟨w.heap.size,2,none⟩ (.int .u32 0)).setCell ⟨w.heap.size,3,none⟩ (.int .u32 0)).setCell ⟨w.heap.size,4,none⟩ (.int .u32 0)).setCell ⟨w.heap.size,5,none⟩ (.int .u32 0)).setCell ⟨w.heap.size,6,none⟩ (.int .u32 0))=w5 at *
  obtain⟨z0,z1,z2,z3,z4,z5,z6,_⟩:=cells7 qA;refine bodyPost_ret (v:=.tuple #[.agg #[.slice none 0 0,.slice none 0 0,.int .u32 0,.int .u32 0,.int .u32 0,.int .u32 0,.int .u32 0],.int .i64 (code50 (soaB l))]) ?_ rfl ⟨hbF,_,rfl,fun _=>rfl,(fun h=>by rw[hso]at h;cases h)⟩;simp[results,results124,go_sem,z0,z1,z2,z3,z4,z5,z6,hso]
 |true=>
  obtain⟨Am,ca,Bx,cb,hv,hownM,hownX⟩:=hp.2 hso;obtain⟨M,X,n1,n2,n3,n4,n5,hsm⟩:∃M X n1 n2 n3 n4 n5,soaM l=⟨M,X,n1,n2,n3,n4,n5⟩:=⟨_,_,_,_,_,_,_,rfl⟩
  rw[hsm]at hv hownM hownX;unfold SoaM.v at hv;simp only at hv hownM hownX;have HSM:=hid hsm;clear hsm hp;subst hv;go_wp2_with fail;obtain⟨qA,hkA⟩:=set7 q3 (.slice Am M.length ca) (.slice Bx X.length cb) (.int .u32 n1) (.int .u32 n2) (.int .u32 n3) (.int .u32 n4) (.int .u32 n5) rfl;have hbF:=hb13.trans (hkA.below (B:=w.heap.size) (by omega) (fun k hk=>by omega))
  have hownM2:=Kept.row hownM hkA (fun k hk=>by have:=(hownM.lt k hk).1;omega);have hownX2:=Kept.row hownX hkA (fun k hk=>by have:=(hownX.lt k hk).1;omega)
  generalize(((((((w3.setCell ⟨w.heap.size,0,none⟩ (.slice Am M.length ca)).setCell ⟨w.heap.size,1,none⟩ (.slice Bx X.length cb)).setCell ⟨w.heap.size,2,none⟩ (.int .u32 n1)).setCell ⟨w.heap.size,3,none⟩ (.int .u32 n2)).setCell ⟨w.heap.size,4,none⟩ (.int .u32 n3)).setCell ⟨w.heap.size,5,none⟩ (.int .u32 n4)).setCell ⟨w.heap.size,6,none⟩ (.int .u32 n5))=w5 at *
  obtain⟨z0,z1,z2,z3,z4,z5,z6,_⟩:=cells7 qA;refine bodyPost_ret (v:=.tuple #[.agg #[.slice Am M.length ca,.slice Bx X.length cb,.int .u32 n1,.int .u32 n2,.int .u32 n3,.int .u32 n4,.int .u32 n5],.int .i64 (code50 (soaB l))]) ?_ rfl ⟨hbF,_,rfl,(fun h=>by rw[hso]at h;cases h),fun _=>⟨Am,ca,Bx,cb, ?_, ?_, ?_⟩⟩
  ·simp[results,results124,go_sem,z0,z1,z2,z3,z4,z5,z6,hso]
  ·rw[HSM.out];rfl
  ·rw[HSM.out];exact own_base hownM2 (by omega)
  ·rw[HSM.out];exact own_base hownX2 (by omega)
theorem chk6(l:Lab):chk 6 l=(decide (l.length≤8192)&&soaB l):=rfl
theorem Check6(A:Option Addr)(l:Lab)(cap:Nat)(w:World)(hc:Cs w A (l.map byteV))(hl:l.length≤100000)(hcap:l.length≤cap)(hcap2:cap≤maxLen):
 Calls prog 81 #[.int .u16 6,.slice A l.length cap] w fun e w'=>Below w.heap.size w w'∧e=.returned (.int .i64 (code50 (chk 6 l))):=by
 have HC:=hid (chk6 l);have hb1:Below w.heap.size w (w.alloc (.cells #[.int .u16 6] 36)):=bAl;by_cases h8:8192 < l.length
 ·have HE:Hid (chk 6 l=false):=hid (by rw[HC.out];simp;omega);go_enter func81,ntmps81;go_wp2_with fail;go_ret;exact⟨hb1,by rw[HE.out];rfl⟩
 ·have HE:Hid (chk 6 l=soaB l):=hid (by rw[HC.out];simp;omega);have hr:=Soa A l cap (w.alloc (.cells #[.int .u16 6] 36)) (hc.below hb1) hl hcap hcap2;have HR:=hid hr;clear hr hc;go_enter func81,ntmps81;go_wp2_with fail;refine HR.out.mono ?_;rintro e w2 ⟨hb2,v,rfl,hp⟩;go_wp2_with fail;go_ret;exact⟨hb1.trans (hb2.mono (by simp)),by rw[HE.out];rfl⟩
theorem be4_num(p:Lab)(h:p.length=4):be4 (numOf p 0)=p:=by
 match p,h with
 |[a,b,c,d],_=>
  have ha:=UInt8.toNat_lt a;have hb:=UInt8.toNat_lt b;have hc:=UInt8.toNat_lt c;have hd:=UInt8.toNat_lt d;have hn:numOf [a,b,c,d] 0=a.toNat *16777216+b.toNat *65536+c.toNat *256+d.toNat:=by
   simp only[numOf];omega
  have q:∀(x:UInt8) (n:Nat),n %256=x.toNat→UInt8.ofNat n=x:=by
   intro x n hx;apply UInt8.toNat_inj.1;rw[UInt8.toNat_ofNat'];exact hx
  unfold be4;rw[hn,q a _ (by omega),q b _ (by omega),q c _ (by omega),q d _ (by omega)]
def SoaM.low(g:SoaM):SoaM:={g with m:=lower g.m,x:=lower g.x}
theorem soa_fits(l:Lab):(soaM l).low.fits:=
 ⟨(openN_small _).lower,(openN_small _).lower,numOf_lt _ _ (by omega),numOf_lt _ _ (by omega),numOf_lt _ _ (by omega),numOf_lt _ _ (by omega),numOf_lt _ _ (by omega)⟩
theorem canonO_soa{l:Lab}(h:soaB l=true):canonO 6 l=(soaM l).low.bytes:=by
 unfold soaB at h;have hE:canonO 6 l=match soaO l with|none=>[]|some (m,x,k)=>wire (lower m)++wire (lower x)++l.drop k:=rfl
 rw[hE];cases h1:openO l with
 |none=>exfalso;unfold soaO at h;rw[h1]at h;cases h
 |some p=>
  obtain⟨m,i⟩:=p;cases h2:openO (l.drop i)with
  |none=>exfalso;unfold soaO at h;rw[h1]at h;simp only[]at h;rw[h2]at h;cases h
  |some q=>
   obtain⟨x,k⟩:=q;obtain⟨e1,e2,e3,e4,e5⟩:=soa_some h1 h2;rw[e5]at h;have hl:l.length=i+k+20:=by simpa using h
   have hS:soaO l=some (m,x,i+k):=by
    unfold soaO;rw[h1];simp only[];rw[h2];simp only[];rw[if_pos hl]
   rw[hS];unfold SoaM.bytes SoaM.low soaM;simp only;rw[e2,e1,e3,e4];have hd:∀j,j+4≤20→be4 (numOf ((l.drop (i+k+j)).take 4) 0)=(l.drop (i+k+j)).take 4:=fun j hj=>be4_num _ (by rw[List.length_take,List.length_drop];omega);have h0:=hd 0 (by omega);rw[Nat.add_zero]at h0;rw[h0,hd 4 (by omega),hd 8 (by omega),hd 12 (by omega),hd 16 (by omega)];generalize hr:l.drop (i+k)=r
   have hrl:r.length=20:=by rw[←hr,List.length_drop];omega
   have hj:∀j,l.drop (i+k+j)=r.drop j:=fun j=>by rw[←hr,List.drop_drop]
   rw[hj 4,hj 8,hj 12,hj 16];simp only[List.append_assoc];congr 2;have c1:=(List.take_append_drop 4 r).symm;have c2:=(List.take_append_drop 4 (r.drop 4)).symm;have c3:=(List.take_append_drop 4 (r.drop 8)).symm;have c4:=(List.take_append_drop 4 (r.drop 12)).symm;have c5:(r.drop 16).take 4=r.drop 16:=List.take_of_length_le (by rw[List.length_drop];omega);rw[List.drop_drop]at c2 c3 c4
   rw[c5,←c4,←c3,←c2,←c1]
theorem setc_side{w:World}{b o k:Nat}{v:Value}(h:o≠k):(w.setCell ⟨b,o,none⟩ v).cell? ⟨b,k,none⟩=w.cell? ⟨b,k,none⟩:=World.cell?_setCell_other (w:=w) (a:=⟨b,o,none⟩) (b:=⟨b,k,none⟩) (v:=v) (by intro e;cases e;exact h rfl)
theorem Canon6(A:Option Addr)(l:Lab)(cap:Nat)(w:World)(hc:Cs w A (l.map byteV))(hl:l.length≤100000)(hcap:l.length≤cap)(hcap2:cap≤maxLen):
 Calls prog 148 #[.int .u16 6,.slice A l.length cap] w fun e w'=>
  Below w.heap.size w w'∧∃v,e=.returned (.tuple #[v,.int .i64 (code50 (chk 6 l))])∧w'.ownsRow w.heap.size 5 1 v (canonR 6 l).length ((canonR 6 l).map byteV):=by
 have HC:=hid (Check6 A l cap w hc hl hcap hcap2);cases hk:chk 6 l with
 |false=>
  have HE:=hid (canonR_no hk);have HK:=hid hk;clear hk hc;rw[HK.out]at HC;go_enter func148,ntmps148;go_wp2_with fail;refine HC.out.mono ?_;rintro e w1 ⟨hb1,rfl⟩;unfold code50;go_wp2_with fail
  go_ret2
  exact⟨hb1,_,rfl,by rw[HE.out];exact World.ownsRow_nil _ _ _ _⟩
 |true=>
  have hsb:soaB l=true:=by rw[chk6]at hk;simp at hk;exact hk.2
  have HE:=hid ((canonR_yes hk).trans (canonO_soa hsb));have HK:=hid hk;have HSB:=hid hsb;have HF:=hid (soa_fits l);have HSo:Hid (∀W,Below w.heap.size w W→Calls prog 124 #[.slice A l.length cap] W fun e w'=>Below W.heap.size W w'∧∃v,e=.returned (.tuple #[v,.int .i64 (code50 (soaB l))])∧SoaPost W w' l v):=hid fun W hW=>Soa A l cap W (hc.below hW) hl hcap hcap2
  rw[HSB.out]at HSo;rw[HK.out]at HC;clear hk hsb hc;unfold code50 at *;go_enter func148,ntmps148;go_wp2_with fail;refine HC.out.mono ?_;rintro e w1 ⟨hb1,rfl⟩;go_wp2_with fail;refine(HSo.out w1 hb1).mono ?_;rintro e w2 ⟨hb2,v,rfl,hp⟩;obtain⟨Am,ca,Bx,cb,hv,hownM,hownX⟩:=hp.2 HSB.out;obtain⟨_,_,hcM⟩:∃(_:True) (_:True),Cs w2 Am ((soaM l).m.map strV):=by
   obtain⟨A6,c6,e6,_,h6⟩:=Cs.of_own hownM;cases e6;exact⟨trivial,trivial,h6⟩
  obtain⟨_,_,hcX⟩:∃(_:True) (_:True),Cs w2 Bx ((soaM l).x.map strV):=by
   obtain⟨A6,c6,e6,_,h6⟩:=Cs.of_own hownX;cases e6;exact⟨trivial,trivial,h6⟩
  have hsM:Small (soaM l).m:=openN_small _;have hsX:Small (soaM l).x:=openN_small _;obtain⟨M,X,n1,n2,n3,n4,n5,hsm⟩:∃M X n1 n2 n3 n4 n5,soaM l=⟨M,X,n1,n2,n3,n4,n5⟩:=⟨_,_,_,_,_,_,_,rfl⟩
  rw[hsm]at hv hcM hcX hsM hsX HE HF;unfold SoaM.v at hv;unfold SoaM.low at HE HF;simp only at hv hcM hcX hsM hsX HE HF;subst hv;have hb12:=hb1.trans (hb2.mono hb1.size);clear hownM hownX hp hsm;go_wp2_with fail;generalize hw3:w2.alloc (.cells #[.slice Am M.length ca,.slice Bx X.length cb,.int .u32 n1,.int .u32 n2,.int .u32 n3,.int .u32 n4,.int .u32 n5] 91)=w3
  have hb3:Below w2.heap.size w2 w3:=by rw[←hw3];exact bAl
  have hz3:w3.heap.size=w2.heap.size+1:=by rw[←hw3];simp
  have hg3:w3.heap[w2.heap.size]? =some (.cells #[.slice Am M.length ca,.slice Bx X.length cb,.int .u32 n1,.int .u32 n2,.int .u32 n3,.int .u32 n4,.int .u32 n5] 91 (0,0)):=by rw[←hw3];exact heap_alloc_new w2 _
  have HLM:Hid (∀W,Below w2.heap.size w3 W→Calls prog 51 #[.slice Am M.length ca] W fun e w'=>∃v,e=.returned v∧w'.ownsRow W.heap.size 9 1 v M.length ((lower M).map strV)∧Below W.heap.size W w'):=hid fun W hW=>Lower Am M ca W (hcM.below (hb3.trans hW)) hsM.few
  have HLX:Hid (∀W,Below w2.heap.size w3 W→Calls prog 51 #[.slice Bx X.length cb] W fun e w'=>∃v,e=.returned v∧w'.ownsRow W.heap.size 9 1 v X.length ((lower X).map strV)∧Below W.heap.size W w'):=hid fun W hW=>Lower Bx X cb W (hcX.below (hb3.trans hW)) hsX.few;have hb13:=hb12.trans (hb3.mono (by have:=hb12.size;omega));have hzw:=hb12.size;clear hw3 hcM hcX
  generalize hgg:w2.heap.size=g at *;refine wp_region_rel0 (by kernel_rfl) (by kernel_rfl) (fun _ _=>false) (by kernel_rfl)
   (fun i W W'=>if i=7 then ∃v,W'=W.setCell ⟨g,0,none⟩ v else if i=9 then ∃v,W'=W.setCell ⟨g,1,none⟩ v else Ext W W')
   (fun W=>Below g w3 W∧∃c0 c1,W.heap[g]? =some (.cells #[c0,c1,.int .u32 n1,.int .u32 n2,.int .u32 n3,.int .u32 n4,.int .u32 n5] 91 (0,0)))
   (fun i v W=>match i with
     |0=>v=.pointer (some ⟨g,0,none⟩)
     |1=>v=.slice Am M.length ca
     |2=>W.ownsRow w3.heap.size 9 1 v M.length ((lower M).map strV)
     |3=>v=.pointer (some ⟨g,1,none⟩)
     |4=>v=.slice Bx X.length cb
     |5=>W.ownsRow w3.heap.size 9 1 v X.length ((lower X).map strV)
     |6=>v=.pointer (some ⟨g,0,none⟩)
     |7=>∃A5 c5,W.cell? ⟨g,0,none⟩=some (.slice A5 M.length c5)∧W.ownsRow w3.heap.size 9 1 (.slice A5 M.length c5) M.length ((lower M).map strV)
     |8=>v=.pointer (some ⟨g,1,none⟩)
     |9=>∃A5 c5,W.cell? ⟨g,1,none⟩=some (.slice A5 X.length c5)∧W.ownsRow w3.heap.size 9 1 (.slice A5 X.length c5) X.length ((lower X).map strV)
     |_=>True)
   (fun W=>W.cell? ⟨g,0,none⟩=some (.slice Am M.length ca)∧W.cell? ⟨g,1,none⟩=some (.slice Bx X.length cb)) (fun i=>i==7||i==9) ?_ ?_ ?_ ?_ ?_ ?_ ?_
  ·exact⟨(by show w3.cell? _=_;rw[cell_of_row _ _ 0 _ _ _ hg3];rfl),(by show w3.cell? _=_;rw[cell_of_row _ _ 1 _ _ _ hg3];rfl)⟩
  ·intro i W W' hk hC hI hT;have h7:i≠7:=fun h=>by subst h;cases hk
   have h9:i≠9:=fun h=>by subst h;cases hk
   simp only[h7,h9,if_false]at hT;obtain⟨_,c0,c1,hq⟩:=hC;exact⟨(bcl hT (lt_block hq)).trans hI.1,(bcl hT (lt_block hq)).trans hI.2⟩
  ·exact⟨⟨rfl,rfl,rfl,Nat.le_refl _,fun _ _=>rfl⟩,_,_,hg3⟩
  ·intro i W W' hC hT;obtain⟨hb,c0,c1,hq⟩:=hC;have hz:=hb.size;by_cases h7:i=7
   ·simp only[h7,if_true]at hT;obtain⟨v,rfl⟩:=hT;exact⟨hb.setCell (p:=⟨g,0,none⟩) (Nat.le_refl _) _,v,c1,heap_set hq⟩
   ·by_cases h9:i=9
    ·simp only[h9,if_true,show ¬(9:Nat)=7 by omega,if_false]at hT;obtain⟨v,rfl⟩:=hT;exact⟨hb.setCell (p:=⟨g,1,none⟩) (Nat.le_refl _) _,c0,v,heap_set hq⟩
    ·simp only[h7,h9,if_false]at hT;exact⟨hb.trans (hT.mono (by omega)),c0,c1,(hT.block _ (lt_block hq)).trans hq⟩
  ·intro i j v W W' hij _ hw hC hR hT;obtain⟨hb,c0,c1,hq⟩:=hC;by_cases h79:i=7∨i=9
   ·have hk:Kept (fun b=>b=g) W W':=by
     rcases h79 with rfl|rfl
     ·simp only[if_true]at hT;obtain⟨u,rfl⟩:=hT;exact(Kept.refl (fun b=>b=g) W).setCell (p:=⟨g,0,none⟩) (fun _=>rfl) u
     ·simp only[if_true,show ¬(9:Nat)=7 by omega,if_false]at hT;obtain⟨u,rfl⟩:=hT;exact(Kept.refl (fun b=>b=g) W).setCell (p:=⟨g,1,none⟩) (fun _=>rfl) u
    have hrow:∀{u:Value} {n:Nat} {xs:List Value},W.ownsRow w3.heap.size 9 1 u n xs→W'.ownsRow w3.heap.size 9 1 u n xs:=fun h=>Kept.row h hk (fun k hk2=>by have:=(h.lt k hk2).1;omega);rcases j with _|_|_|_|_|_|_|_|_|_|j
    ·exact hR
    ·exact hR
    ·exact hrow hR
    ·exact hR
    ·exact hR
    ·exact hrow hR
    ·exact hR
    ·obtain⟨A5,c5,h1,h2⟩:=hR;refine⟨A5,c5, ?_,hrow h2⟩;rcases h79 with rfl|rfl
     ·exact absurd rfl hij
     ·simp only[if_true,show ¬(9:Nat)=7 by omega,if_false]at hT;obtain⟨u,rfl⟩:=hT;rw[setc_side (by decide)];exact h1
    ·exact hR
    ·obtain⟨A5,c5,h1,h2⟩:=hR;refine⟨A5,c5, ?_,hrow h2⟩;rcases h79 with rfl|rfl
     ·simp only[if_true]at hT;obtain⟨u,rfl⟩:=hT;rw[setc_side (by decide)];exact h1
     ·exact absurd rfl hij
    ·trivial
   ·have h7:¬i=7:=fun h=>h79 (.inl h);have h9:¬i=9:=fun h=>h79 (.inr h);simp only[h7,h9,if_false]at hT;rcases j with _|_|_|_|_|_|_|_|_|_|j
    ·exact hR
    ·exact hR
    ·exact own_below hR hT
    ·exact hR
    ·exact hR
    ·exact own_below hR hT
    ·exact hR
    ·obtain⟨A5,c5,h1,h2⟩:=hR;exact⟨A5,c5,(bcl hT (lt_block hq)).trans h1,own_below h2 hT⟩
    ·exact hR
    ·obtain⟨A5,c5,h1,h2⟩:=hR;exact⟨A5,c5,(bcl hT (lt_block hq)).trans h1,own_below h2 hT⟩
    ·trivial
  ·intro i o hio vals W hC haf hI;obtain⟨hb,c0,c1,hq⟩:=hC;have hz:=hb.size;have k0:W.cell? ⟨g,0,none⟩=some c0:=by rw[cell_of_row _ _ 0 _ _ _ hq];rfl
   have k1:W.cell? ⟨g,1,none⟩=some c1:=by rw[cell_of_row _ _ 1 _ _ _ hq];rfl
   have kf:∀i,W.frozen? ⟨g,i,none⟩=false:=(cells7 hq).2.2.2.2.2.2.2;rcases i with _|_|_|_|_|_|_|_|_|_|i
   all_goals first
    |(exfalso;simp at hio;done)
    |skip
   all_goals
    simp at hio;subst hio;simp[bindD,rdB,Region.binds]at haf
   ·simp[opU,go_sem,Ext.refl]
   ·have hII:=hI (fun k hk h=>by
     have:k=7∨k=9:=by simpa using h
     rcases this with rfl|rfl
     ·exact .inr (by kernel_rfl)
     ·exact .inr (by kernel_rfl))
    simp[opU,go_sem,haf,hII.1,Ext.refl]
   ·simp[opU,go_sem,haf];refine(HLM.out W hb).mono fun e W' h5=> ?_;obtain⟨v,he,ho,hbb⟩:=h5;exact⟨v,he,hbb,own_base ho hz⟩
   ·simp[opU,go_sem,Ext.refl]
   ·have hII:=hI (fun k hk h=>by
     have:k=7∨k=9:=by simpa using h
     rcases this with rfl|rfl
     ·exact .inr (by kernel_rfl)
     ·exact .inr (by kernel_rfl))
    simp[opU,go_sem,haf,hII.2,Ext.refl]
   ·simp[opU,go_sem,haf];refine(HLX.out W hb).mono fun e W' h5=> ?_;obtain⟨v,he,ho,hbb⟩:=h5;exact⟨v,he,hbb,own_base ho hz⟩
   ·simp[opU,go_sem,Ext.refl]
   ·obtain⟨h1,h2⟩:=haf;obtain⟨A5,c5,e5,_,_⟩:=Cs.of_own h2;have hrow:=Kept.row h2 ((Kept.refl (fun b=>b=g) W).setCell (p:=⟨g,0,none⟩) (fun _=>rfl) (.slice A5 M.length c5)) (fun k hk2=>by have:=(h2.lt k hk2).1;omega);rw[e5]at hrow;simp[opU,go_sem,h1,e5,k0,kf];exact⟨⟨_,rfl⟩,A5,c5,⟨rfl,rfl⟩,hrow⟩
   ·simp[opU,go_sem,Ext.refl]
   ·obtain⟨h1,h2⟩:=haf;obtain⟨A5,c5,e5,_,_⟩:=Cs.of_own h2;have hrow:=Kept.row h2 ((Kept.refl (fun b=>b=g) W).setCell (p:=⟨g,1,none⟩) (fun _=>rfl) (.slice A5 X.length c5)) (fun k hk2=>by have:=(h2.lt k hk2).1;omega);rw[e5]at hrow;simp[opU,go_sem,h1,e5,k1,kf];exact⟨⟨_,rfl⟩,A5,c5,⟨rfl,rfl⟩,hrow⟩
  ·intro vals W hC hR;obtain⟨hb,c0,c1,hq⟩:=hC;obtain⟨A5,c5,h7,o7⟩:=hR 7 (by show 7 < 10;omega) (fun _ _=>rfl);obtain⟨A6,c6,h9,o9⟩:=hR 9 (by show 9 < 10;omega) (fun _ _=>rfl);obtain⟨k0,k1,k2,k3,k4,k5,k6,_⟩:=cells7 hq;have e0:=k0.symm.trans h7;have e1:=k1.symm.trans h9;cases e0;cases e1;simp[relAct,dstAt,Act.put];have hz:=hb.size;have hbW:=hb13.trans (hb.mono (by omega))
   have hc7:Cs W A5 ((lower M).map strV):=by
    obtain⟨A8,c8,e8,_,h8⟩:=Cs.of_own o7;cases e8;exact h8
   have hc9:Cs W A6 ((lower X).map strV):=by
    obtain⟨A8,c8,e8,_,h8⟩:=Cs.of_own o9;cases e8;exact h8
   have hSB:=SoaBytes ⟨lower M,lower X,n1,n2,n3,n4,n5⟩ HF.out A5 A6 c5 c6 W hc7 hc9;unfold SoaM.v at hSB;simp only[lower_len]at hSB;have HSB2:=hid hSB;clear hR hSB h7 h9 hq;generalize vals 0=v0 at *;generalize vals 1=v1 at *;generalize vals 2=v2 at *;generalize vals 3=v3 at *;generalize vals 4=v4 at *;generalize vals 5=v5 at *;generalize vals 6=v6 at *;generalize vals 8=v8 at *
   go_wp2_with fail;refine HSB2.out.mono ?_;rintro e w9 ⟨v,rfl,ho,hbb⟩;have hb9:=hbW.trans (hbb.mono (by omega));have hoF:=own_base ho (show w.heap.size≤W.heap.size by omega);go_wp2_with fail
   go_ret2
   refine⟨hb9,_,rfl, ?_⟩;rw[HE.out];exact hoF
def easyT(t:Int):Prop:=t≠46∧t≠48∧t≠50
theorem CheckE(t:Int)(ht:easyT t)(A:Option Addr)(l:Lab)(cap:Nat)(w:World)(hc:Cs w A (l.map byteV))(hl:l.length≤100000)(hcap:l.length≤cap)(hcap2:cap≤maxLen):
 Calls prog 81 #[.int .u16 t,.slice A l.length cap] w fun e w'=>Below w.heap.size w w'∧e=.returned (.int .i64 (code50 (chk t l))):=by
 by_cases h6:t=6
 ·subst h6;exact Check6 A l cap w hc hl hcap hcap2
 ·exact CheckS t A l cap w h6 ht.1 ht.2.1 ht.2.2 hc hl hcap hcap2
theorem CanonE(t:Int)(ht:easyT t)(A:Option Addr)(l:Lab)(cap:Nat)(w:World)(hc:Cs w A (l.map byteV))(hl:l.length≤100000)(hcap:l.length≤cap)(hcap2:cap≤maxLen):
 Calls prog 148 #[.int .u16 t,.slice A l.length cap] w fun e w'=>
  Below w.heap.size w w'∧∃v,e=.returned (.tuple #[v,.int .i64 (code50 (chk t l))])∧w'.ownsRow w.heap.size 5 1 v (canonR t l).length ((canonR t l).map byteV):=by
 by_cases h6:t=6
 ·subst h6;exact Canon6 A l cap w hc hl hcap hcap2
 ·by_cases hN:isN t
  ·exact CanonN t hN A l cap w hc hl hcap hcap2
  ·exact CanonP t (fun h=>hN (.inl h)) (fun h=>hN (.inr (.inl h))) (fun h=>hN (.inr (.inr h))) h6 ht.1 ht.2.1 ht.2.2 A l cap w hc hl hcap hcap2
theorem ZCanon(t:Int)(ht:easyT t)(A:Option Addr)(l:Lab)(cap:Nat)(w:World)(hc:Cs w A (l.map byteV))(hl:l.length≤100000)(hcap:l.length≤cap)(hcap2:cap≤maxLen):
 Calls prog 103 #[.int .u16 t,.slice A l.length cap] w fun e w'=>
  Below w.heap.size w w'∧∃v,e=.returned v∧w'.ownsRow w.heap.size 5 1 v (canonD t l).length ((canonD t l).map byteV):=by
 have HC:=hid (CanonE t ht A l cap w hc hl hcap hcap2);have HCl:Hid (∀W,Below w.heap.size w W→Calls prog 63 #[.slice A l.length cap] W fun e w'=>∃v,e=.returned v∧w'.ownsRow W.heap.size 5 1 v l.length (l.map byteV)∧Below W.heap.size W w'):=hid fun W hW=>CloneB A l cap W (hc.below hW) (by omega);cases hk:chk t l with
 |false=>
  have HE:Hid (canonD t l=l):=hid (by unfold canonD;rw[hk];rfl);rw[hk]at HC;unfold code50 at HC;clear hk;go_enter func103,ntmps103;go_wp2_with fail;refine HC.out.mono ?_;rintro e w1 ⟨hb1,v,rfl,hown⟩;go_wp2_with fail;refine(HCl.out w1 hb1).mono ?_;rintro e w2 ⟨v2,rfl,hown2,hb2⟩;have hb12:=hb1.trans (hb2.mono hb1.size);have ho:=own_base hown2 hb1.size;clear hown;go_wp2_with fail
  go_ret;exact⟨hb12,_,rfl,by rw[HE.out];exact ho⟩
 |true=>
  have HE:Hid (canonD t l=canonR t l):=hid (by unfold canonD canonR;rw[hk];rfl);rw[hk]at HC;unfold code50 at HC;clear hk;go_enter func103,ntmps103;go_wp2_with fail;refine HC.out.mono ?_;rintro e w1 ⟨hb1,v,rfl,hown⟩;have HO:=hid hown;clear hown;go_wp2_with fail;go_ret;exact⟨hb1,_,rfl,by rw[HE.out];exact HO.out⟩
def zkey(n:List Lab):Lab:=wire (lower n)
theorem ZKey(A:Option Addr)(n:List Lab)(cap:Nat)(w:World)(hA:Cs w A (n.map strV))(hn:Small n):
 Calls prog 68 #[.slice A n.length cap] w fun e w'=>e=.returned (strV (zkey n))∧Below w.heap.size w w':=by
 go_enter func68,ntmps68;go_wp2_with fail;refine(Lower A n cap w hA hn.few).mono ?_;rintro e w1 ⟨v1,rfl,hown1,hb1⟩;obtain⟨A1,c1,rfl,_,hcs1⟩:=Cs.of_own hown1;have hll:(lower n).length=n.length:=lower_len n;have hwi:=Wire A1 (lower n) c1 w1 hcs1 hn.lower;rw[hll]at hwi;clear hown1;go_wp2_with fail;refine hwi.mono ?_;rintro e w2 ⟨v2,rfl,hown2,hb2⟩
 obtain⟨A2,c2,rfl,_,hcs2⟩:=Cs.of_own hown2;have hst:=run_str (P:=prog) w2 underlying37 underlying5 underlying9 c2 hcs2;have hb12:=hb1.trans (hb2.mono hb1.size);clear hown2 hwi hcs2;go_wp2_with fail;go_ret;exact⟨rfl,hb12⟩
structure Made(w:World)(B z bn bb:Nat)(ap:List Lab):Prop where
 blk:∃A c,w.heap[z]? =some (.cells #[.slice A ap.length c,.map (some bn),.map (some bb),.int .i64 0] 103 (0,0))∧w.ownsRow B 9 1 (.slice A ap.length c) ap.length (ap.map strV)
 nodes:w.heap[bn]? =some (.map #[] 0)
 below:w.heap[bb]? =some (.map #[] 0)
 h1:B≤bn
 h2:bn < bb
 h3:bb < z
theorem ZNew(A:Option Addr)(n:List Lab)(cap:Nat)(w:World)(hA:Cs w A (n.map strV))(hn:Few n):
 Calls prog 12 #[.slice A n.length cap] w fun e w'=>∃z bn bb,e=.returned (.pointer (some ⟨z,0,none⟩))∧Made w' w.heap.size z bn bb (lower n)∧Below w.heap.size w w':=by
 have hmm:= @run_makeMap prog;have hll:=lower_len n;go_enter func12,ntmps12;go_wp2_with fail;refine(Lower A n cap w hA hn).mono ?_;rintro e w1 ⟨v1,rfl,hown1,hb1⟩;obtain⟨A1,c1,rfl,_,hcs1⟩:=Cs.of_own hown1;have hz1:=hb1.size;go_wp2_with fail;go_ret;have b1:Below w1.heap.size w1 (w1.alloc (.map #[] 0)):=bAl
 have b2:Below (w1.heap.size+1) (w1.alloc (.map #[] 0)) ((w1.alloc (.map #[] 0)).alloc (.map #[] 0)):=(Below.refl _ _).alloc (by simp) _;have m1:((w1.alloc (.map #[] 0)).alloc (.map #[] 0)).heap[w1.heap.size]? =some (.map #[] 0):=by
  rw[Below.heap_alloc _ _ _ (by simp)];exact heap_alloc_new w1 _
 have m2:((w1.alloc (.map #[] 0)).alloc (.map #[] 0)).heap[w1.heap.size+1]? =some (.map #[] 0):=by
  have:=heap_alloc_new (w1.alloc (.map #[] 0)) (.map #[] 0);rw[World.size_alloc]at this;exact this
 have b12:=b1.trans (b2.mono (by omega));have hs:((w1.alloc (.map #[] 0)).alloc (.map #[] 0)).heap.size=w1.heap.size+2:=by simp
 have o2:=own_below hown1 b12;generalize(w1.alloc (.map #[] 0)).alloc (.map #[] 0)=w2 at *;have b3:Below w2.heap.size w2 (w2.alloc (.cells #[.slice A1 n.length c1,.map (some w1.heap.size),.map (some (w1.heap.size+1)),.int .i64 0] 103)):=bAl
 have z3:=heap_alloc_new w2 (.cells #[.slice A1 n.length c1,.map (some w1.heap.size),.map (some (w1.heap.size+1)),.int .i64 0] 103);have o3:=own_below o2 b3;refine⟨w2.heap.size,w1.heap.size,w1.heap.size+1,by rw[hs];rfl,⟨⟨A1,c1, ?_, ?_⟩,(b3.block _ (by omega)).trans m1,(b3.block _ (by omega)).trans m2,hz1,by omega,by omega⟩,(hb1.trans (b12.mono hz1)).trans (b3.mono (by omega))⟩
 ·rw[hll];exact z3
 ·rw[hll];exact o3
theorem find1(x y:Blob)(B:Option Addr)(m:Lab)(d:Nat)(w:World)(hy:y.ok w)(hB:Cs w B (m.map byteV)):
 Calls prog 150 #[.agg #[x.v,y.v],.slice B m.length d] w fun e w'=>e=.returned (.int .i64 (Lib.compareBytes y.l m))∧Below w.heap.size w w':=by
 unfold Blob.v;have hb1:Below w.heap.size w (w.alloc (.cells #[.slice x.A x.l.length x.cap,.slice y.A y.l.length y.cap] 121)):=bAl;have HC:=hid (BCompare y.A B y.l m y.cap d (w.alloc (.cells #[.slice x.A x.l.length x.cap,.slice y.A y.l.length y.cap] 121)) (Cs.below hy hb1) (hB.below hb1));go_enter func150,ntmps150;go_wp2_with fail
 refine HC.out.mono ?_;rintro e w2 ⟨rfl,rfl⟩;go_wp2_with fail;go_ret;exact⟨rfl,hb1⟩
def datC(ds:List (Blob×Blob)):List Value:=ds.flatMap fun d=>[d.1.v,d.2.v]
theorem datC_get:∀(ds:List (Blob×Blob)) (i:Nat) (h:i < ds.length),(datC ds)[i *2]? =some ds[i].1.v∧(datC ds)[i *2+1]? =some ds[i].2.v
 |d::ds,0,_=>⟨rfl,rfl⟩
 |d::ds,i+1,h=>by
  have:=datC_get ds i (by simpa using h);have e:datC (d::ds)=d.1.v::d.2.v::datC ds:=rfl;rw[e,show(i+1) *2=i *2+2 by omega];simpa using this
def DatOk(w:World)(ds:List (Blob×Blob)):Prop:=∀d∈ds,d.1.ok w∧d.2.ok w
def FindAt(ds:List (Blob×Blob))(m:Lab)(p:Nat):Prop:=p≤ds.length∧(∀j (h:j < ds.length),j < p→Lib.compareBytes ds[j].2.l m < 0)∧(∀j (h:j < ds.length),p≤j→¬Lib.compareBytes ds[j].2.l m < 0)
def FindR(ds:List (Blob×Blob))(p:Nat)(w:World)(lo hi x:Value)(wr:World):Prop:=
 ∃a b:Nat,a≤p∧p≤b∧b≤ds.length∧lo=.int .i64 a∧hi=.int .i64 b∧Below w.heap.size w wr
theorem Search(A B:Option Addr)(ds:List (Blob×Blob))(cap:Nat)(m:Lab)(d p:Nat)(w:World)(hA:Cs w A (datC ds))(hd:DatOk w ds)(hB:Cs w B (m.map byteV))(hn:ds.length≤1000000)(hp:FindAt ds m p):
 Calls prog 149 #[.slice A ds.length cap,.slice B m.length d,.func (.func 150) #[] #[]] w fun e w'=>
  e=.returned (.tuple #[.int .i64 p,.bool (decide (p < ds.length)&&decide (Lib.compareBytes (ds.getD p default).2.l m=0))])∧Below w.heap.size w w':=by
 go_enter func149,ntmps149;go_wp2_with fail
 go_loopw [9,10,11] (FindR ds p w) (fun lo hi _ _=>(intOf hi).toNat - (intOf lo).toNat)
 case atStart=>exact⟨0,ds.length,by omega,hp.1,Nat.le_refl _,rfl,rfl,Below.refl _ _⟩
 case round=>
  obtain⟨a,b,h1,h2,h3,rfl,rfl,hbel⟩:=hrel;by_cases hlt:a < b
  ·go_upto_region 5 with fail
   obtain⟨h,hh⟩:∃h:Nat,h=(a+b) / 2:=⟨_,rfl⟩
   have hhi:((a:Int)+b) / 2=h:=by omega
   have hhl:h < ds.length:=by omega
   rw[hhi];obtain⟨g1,g2⟩:=datC_get ds h hhl;obtain⟨bk,off,rfl,hbk,hc0⟩:=hA _ _ g1;obtain⟨_,_,e9,_,hc1⟩:=hA _ _ g2;cases e9;have q0:=(hbel.cell (p:=⟨bk,off+h *2,none⟩) hbk).trans hc0;have q1:=(hbel.cell (p:=⟨bk,off+(h *2+1),none⟩) hbk).trans hc1;rw[←Nat.add_assoc]at q1;have hok:=hd ds[h] (List.getElem_mem hhl)
   have HF:=hid (find1 ds[h].1 ds[h].2 B m d wr (Cs.below hok.2 hbel) (hB.below hbel));have HP1:=hid (hp.2.1 h hhl);have HP2:=hid (hp.2.2 h hhl);generalize ds[h]=x at *;obtain⟨x1,x2⟩:=x;unfold Blob.v at q0 q1 HF;simp only at q0 q1 HF HP1 HP2;have hah:a≤h:=by omega
   have hhb:h < b:=by omega
   clear g1 g2 hc0 hc1 hhi hok hh;go_wp2_with fail;refine HF.out.mono ?_;rintro e w2 ⟨rfl,hb2⟩;have hbw:=hbel.trans (hb2.mono hbel.size);generalize Lib.compareBytes x2.l m=cmp at *;by_cases hneg:cmp < 0
   ·have hhp:h+1≤p:=by
     rcases Nat.lt_or_ge h p with g|g
     ·exact g
     ·have:=HP2.out g;omega
    have hdec:decide (cmp < 0)=true:=decide_eq_true hneg;go_wp2_with fail;exact⟨⟨h+1,b,hhp,h2,h3,by go_num,rfl,hbw⟩,by simp[intOf];omega⟩
   ·have hhp:p≤h:=by
     rcases Nat.lt_or_ge h p with g|g
     ·have:=HP1.out g;omega
     ·exact g
    have hdec:decide (cmp < 0)=false:=decide_eq_false hneg;go_wp2_with fail;exact⟨⟨a,h,h1,hhp,by omega,rfl,rfl,hbw⟩,by simp[intOf];omega⟩
  ·have hap:a=p:=by omega
   have hbp:b=p:=by omega
   subst hap;subst hbp;by_cases hpl:b < ds.length
   ·obtain⟨g1,g2⟩:=datC_get ds b hpl;obtain⟨bk,off,rfl,hbk,hc0⟩:=hA _ _ g1;obtain⟨_,_,e9,_,hc1⟩:=hA _ _ g2;cases e9;have q0:=(hbel.cell (p:=⟨bk,off+b *2,none⟩) hbk).trans hc0;have q1:=(hbel.cell (p:=⟨bk,off+(b *2+1),none⟩) hbk).trans hc1;rw[←Nat.add_assoc]at q1;have hok:=hd ds[b] (List.getElem_mem hpl);have hgd:ds.getD b default=ds[b]:=by simp[List.getD,hpl]
    have HG:=hid (congrArg (fun x:Blob×Blob=>Lib.compareBytes x.2.l m) hgd);clear hgd;have HF:=hid (find1 ds[b].1 ds[b].2 B m d wr (Cs.below hok.2 hbel) (hB.below hbel));generalize ds[b]=x at *;obtain⟨x1,x2⟩:=x;unfold Blob.v at q0 q1 HF;simp only at q0 q1 HF;clear g1 g2 hc0 hc1 hok hp hd;generalize Lib.compareBytes x2.l m=cmp at *;have hdl:decide (b < ds.length)=true:=decide_eq_true hpl
    go_wp2_with fail;refine HF.out.mono ?_;rintro e w2 ⟨rfl,hb2⟩;have hbw:=hbel.trans (hb2.mono hbel.size);go_wp2_with fail
    go_ret2
    have hg:Lib.compareBytes (ds.getD b default).2.l m=cmp:=HG.out;refine⟨?_,hbw⟩;rw[hg];simp[hpl];rw[Bool.eq_iff_iff];simp
   ·have hdl:decide (b < ds.length)=false:=decide_eq_false hpl;clear hp hd;go_wp2_with fail
    go_ret2
    refine⟨?_,hbel⟩;rw[hdl];simp
def hitB(ds:List (Blob×Blob))(m:Lab)(p:Nat):Bool:=decide (p < ds.length)&&decide (Lib.compareBytes (ds.getD p default).2.l m=0)
theorem ZFind(s:Nat)(A B:Option Addr)(ds:List (Blob×Blob))(cap:Nat)(m:Lab)(d p:Nat)(w:World)(hs:w.cell? ⟨s,1,none⟩=some (.slice A ds.length cap))(hA:Cs w A (datC ds))(hd:DatOk w ds)(hB:Cs w B (m.map byteV))(hn:ds.length≤1000000)(hp:FindAt ds m p):
 Calls prog 104 #[.pointer (some ⟨s,0,none⟩),.slice B m.length d] w fun e w'=>e=.returned (.tuple #[.int .i64 p,.bool (hitB ds m p)])∧Below w.heap.size w w':=by
 have HS:=hid (Search A B ds cap m d p w hA hd hB hn hp);unfold hitB;clear hA hd hB hp;go_enter func104,ntmps104;go_wp2_with fail;refine HS.out.mono ?_;rintro e w2 ⟨rfl,hb⟩;go_wp2_with fail
 go_ret2
 exact⟨rfl,hb⟩
def ptrR(v:Value):Option (DataW Unit×List MemPlace):=match v with
 |.pointer none=>some (.nil,[])
 |.pointer (some ⟨b,0,none⟩)=>some (.lit (.int .i64 (b:Int)),[])
 |_=>none
theorem ptrR_nil:ptrR (.pointer none)=some (.nil,[]):=rfl
theorem ptrR_at(b:Nat):ptrR (.pointer (some ⟨b,0,none⟩))=some (.lit (.int .i64 (b:Int)),[]):=rfl
theorem ptrR_inv{v:Value}{z:DataW Unit×List MemPlace}(h:ptrR v=some z):(v=.pointer none∧z.1=.nil)∨∃b:Nat,v=.pointer (some ⟨b,0,none⟩)∧z.1=.lit (.int .i64 (b:Int)):=by
 unfold ptrR at h;split at h
 ·cases h;exact .inl ⟨rfl,rfl⟩
 ·cases h;exact .inr ⟨_,rfl,rfl⟩
 ·cases h
def ptrD:Option Nat→DataW Unit
 |none=>.nil
 |some b=>.lit (.int .i64 (b:Int))
def ptrV:Option Nat→Value
 |none=>.pointer none
 |some b=>.pointer (some ⟨b,0,none⟩)
theorem ptr_of{v:Value}{o:Option Nat}{ps:List MemPlace}(h:ptrR v=some (ptrD o,ps)):v=ptrV o:=by
 rcases ptrR_inv h with⟨rfl,hz⟩|⟨b,rfl,hz⟩
 ·cases o with
  |none=>rfl
  |some b=>cases hz
 ·cases o with
  |none=>cases hz
  |some c=>
   simp only[ptrD]at hz;injection hz with hz;injection hz with _ hz;have:c=b:=by omega
   rw[this];rfl
theorem look_ptr{w:World}{P:Program}{k t e:TypeId}{b n:Nat}{D:DataW Unit}(h:w.ownsMap P k ptrR b n D)(K:Maps.Keyed P k)(ht:P.underlying t=some (.map k e))(hz:(zeroValue e).run P w=.ok (.pointer none) w){key:Value}{kl:Lit}(hkey:keyOf P k key=some kl)
 {o:Option Nat} (ho:D.atKey kl .nil=ptrD o):(Instr.lookup t (.map (some b)) key false).run P w=.ok (ptrV o) w:=by
 obtain⟨v,ps,hrun,hv⟩:=h.lookup K ht hz ptrR_nil hkey;rw[ho]at hv;rw[hrun,ptr_of hv]
theorem keyS:Maps.Keyed prog 9:=Maps.string_keyed underlying9
theorem keyT:Maps.Keyed prog 36:=Maps.int_keyed underlying36
theorem keyOf_str(l:Lab)(h:l.length≤maxLen):keyOf prog 9 (strV l)=some (.string l):=by
 have hs:(strB l).size≤maxLen:=by rw[strB_size];exact h
 have hd:=strB_data l;unfold strV;simp only[keyOf,underlying9,mapKey,if_pos hs,hd]
theorem keyOf_u16(t:Int)(h:(Lit.int .u16 t).wf=true):keyOf prog 36 (.int .u16 t)=some (.int .u16 t):=by
 simp only[keyOf,underlying36,mapKey,h];simp
theorem zkey_len{n:List Lab}(h:Small n):(zkey n).length≤maxLen:=by
 have:=wire_len_few h.lower;unfold zkey maxLen;omega
def atO(o:Option Nat)(o2:Option Nat):Option Nat:=match o with|none=>none|some _=>o2
theorem ZAt(z bn:Nat)(A:Option Addr)(n:List Lab)(cap:Nat)(t:Int)(N N2:Nat)(D D2:DataW Unit)(o o2:Option Nat)(w:World)(hz:w.cell? ⟨z,1,none⟩=some (.map (some bn)))(hzl:z < w.heap.size)
 (hbn:w.ownsMap prog 9 ptrR bn N D) (hA:Cs w A (n.map strV)) (hn:Small n) (hwt:(Lit.int .u16 t).wf=true) (ho:D.atKey (.string (zkey n)) .nil=ptrD o)
 (ho2:∀x,o=some x→x < w.heap.size∧∃bs,w.cell? ⟨x,1,none⟩=some (.map (some bs))∧w.ownsMap prog 36 ptrR bs N2 D2∧D2.atKey (.int .u16 t) .nil=ptrD o2):
 Calls prog 62 #[.pointer (some ⟨z,0,none⟩),.slice A n.length cap,.int .u16 t] w fun e w'=>e=.returned (ptrV (atO o o2))∧Below w.heap.size w w':=by
 have HK:Hid (∀W,Below w.heap.size w W→Calls prog 68 #[.slice A n.length cap] W fun e w'=>e=.returned (strV (zkey n))∧Below W.heap.size W w'):=hid fun W hW=>ZKey A n cap W (hA.below hW) hn;have hlk:∀W,Below w.heap.size w W→(Instr.lookup 100 (.map (some bn)) (strV (zkey n)) false).run prog W=.ok (ptrV o) W:=fun W hW=>
  look_ptr (hbn.kept (row:=none) ⟨hW.os,hW.tape,hW.output,hW.size,fun k hk _=>hW.block k hk⟩ (by simp)) keyS underlying100 rfl (keyOf_str _ (zkey_len hn)) ho
 have HL:=hid hlk;clear hlk hbn hA ho;go_enter func62,ntmps62;go_wp2_with fail;refine wp_region_mono mixed0 (by kernel_rfl) [.is (.pointer (some ⟨z,0,none⟩)),.is (.pointer (some ⟨z,0,none⟩)),.is (.pointer (some ⟨z,1,none⟩)),.is (.map (some bn)),.is (.slice A n.length cap),.is (strV (zkey n)),.is (ptrV o),.is (ptrV o)] rfl ?_ ?_
 ·intro i q hio vals W hE haf;have e1:=(bcl (o:=1) hE hzl).trans hz;have hl:=HL.out W hE;rcases i with _|_|_|_|_|_|_|_|i
  all_goals first
   |(exfalso;simp at hio;done)
   |(simp at hio;subst hio;simp[bindD,rdB,Region.binds,factAt]at haf;simp[opU,go_sem,haf,e1,hl,Ext.refl,factAt];done)
   |skip
  all_goals
   simp at hio;subst hio;simp[bindD,rdB,Region.binds,factAt]at haf
  ·simp[opU,go_sem,haf,factAt];refine(HK.out W hE).mono fun e W' h=> ?_;exact⟨h.1,h.2⟩
 ·intro vals W hE hF;simp only[facts]at hF;obtain⟨_,_,_,_,_,_,_,h7,_⟩:=hF;have e7:vals 7=ptrV o:=h7;simp[relAct,dstAt,Act.put];rw[e7];clear e7 h7;cases o with
  |none=>
   clear ho2;rw[show ptrV none=.pointer none from rfl];go_wp2_with fail;go_ret;exact⟨rfl,hE⟩
  |some x=>
   obtain⟨hxl,bs,hx1,hbs,hat⟩:=ho2 x rfl;have q1:=(bcl (o:=1) hE hxl).trans hx1;have hl2:(Instr.lookup 110 (.map (some bs)) (.int .u16 t) false).run prog W=.ok (ptrV o2) W:=
    look_ptr (hbs.kept (row:=none) ⟨hE.os,hE.tape,hE.output,hE.size,fun k hk _=>hE.block k hk⟩ (by simp)) keyT underlying110 rfl (keyOf_u16 t hwt) hat
   clear ho2 hbs hat hx1;have HP:ptrV (some x)=.pointer (some ⟨x,0,none⟩):=rfl;rw[HP];go_wp2_with fail;go_ret;exact⟨rfl,hE⟩
def Seen(E:DataW Unit)(f:Lab→Int):Prop:=∀m,E.atKey (.string m) (.lit (.int .i64 0))=.lit (.int .i64 (f m))
theorem seen_empty:Seen (.map []) (fun _=>0):=fun _=>rfl
theorem key_lit(k:Lab):WideAt.IsKeyLit (.string k):=by first|exact trivial|(simp[WideAt.IsKeyLit])
theorem Seen.put{E:DataW Unit}{f:Lab→Int}(h:Seen E f)(hE:Maps.IsMap E)(k:Lab)(b:Int):Seen (E.put (.string k) (.lit (.int .i64 b))) (fun m=>if m=k then b else f m):=by
 intro m;by_cases hm:m=k
 ·subst hm;rw[Maps.atKey_put_same hE (key_lit m)];simp
 ·rw[Maps.atKey_put_other (fun e=>hm (by injection e)),h m];simp[hm]
theorem Seen.del{E:DataW Unit}{f:Lab→Int}(h:Seen E f)(k:Lab)(h0:f k=0):Seen (E.del (.string k)) f:=by
 intro m;by_cases hm:m=k
 ·subst hm;rw[Maps.atKey_del_same,h0]
 ·rw[Maps.atKey_del_other (fun e=>hm (by injection e)),h m]
def occ(n:List Lab):Nat→Lab→Int
 |0,_=>0
 |j+1,m=>occ n j m+if m=zkey (n.drop j)then 1 else 0
theorem occ_le(n:List Lab):∀j m,0≤occ n j m∧occ n j m≤j
 |0,m=>⟨Int.le_refl _,Int.le_refl _⟩
 |j+1,m=>by
  have:=occ_le n j m;unfold occ;split <;> omega
def cnt(f:Lab→Int)(n:List Lab)(d:Int)(j:Nat):Lab→Int:=fun m=>f m+d *occ n j m
theorem cnt_step(f:Lab→Int)(n:List Lab)(d:Int)(j:Nat):(fun m=>if m=zkey (n.drop j)then cnt f n d j (zkey (n.drop j))+d else cnt f n d j m)=cnt f n d (j+1):=by
 funext m;unfold cnt;rw[show occ n (j+1) m=occ n j m+if m=zkey (n.drop j)then 1 else 0 from rfl];by_cases hm:m=zkey (n.drop j)
 ·rw[if_pos hm,if_pos hm,←hm,Int.mul_add];omega
 ·rw[if_neg hm,if_neg hm,Int.add_zero]
theorem cnt_zero(f:Lab→Int)(n:List Lab)(d:Int):cnt f n d 0=f:=by
 funext m;show f m+d *0=f m;omega
theorem cnt_le{f:Lab→Int}{n:List Lab}{d:Int}(hd:d=1∨d= -1){C:Int}{m:Lab}(hf: -C≤f m∧f m≤C)(j:Nat): -(C+j)≤cnt f n d j m∧cnt f n d j m≤C+j:=by
 have:=occ_le n j m;unfold cnt;rcases hd with rfl|rfl <;> omega
theorem look_int{w:World}{b n:Nat}{E:DataW Unit}{f:Lab→Int}(h:w.ownsMap prog 9 (plainElem prog 3) b n E)(hs:Seen E f)(k:Lab)(hk:k.length≤maxLen):
 (Instr.lookup 101 (.map (some b)) (strV k) false).run prog w=.ok (.int .i64 (f k)) w:=by
 obtain⟨c,hrun,hat,_⟩:=h.lookup_int keyS underlying101 underlying3 (Tryz.zeroValue3 w) (keyOf_str k hk);have h1:=(hs k).symm.trans hat;injection h1 with h1;injection h1 with _ h1;rw[h1];exact hrun
def CountR(bb la N:Nat)(n:List Lab)(d:Int)(f:Lab→Int)(w:World)(i:Value)(wr:World):Prop:=
 ∃j:Nat,j≤n.length - la+1∧i=.int .i64 j∧Kept (fun k=>k=bb) w wr∧∃E,wr.ownsMap prog 9 (plainElem prog 3) bb (N+j) E∧Seen E (cnt f n d j)
theorem Counted(z bn bb:Nat)(fr:Nat×Nat)(Aa:Option Addr)(la ca:Nat)(c:Int)(A:Option Addr)(n:List Lab)(cap:Nat)(d:Int)(N:Nat)(E:DataW Unit)(f:Lab→Int)(w:World)
 (hz:w.heap[z]? =some (.cells #[.slice Aa la ca,.map (some bn),.map (some bb),.int .i64 c] 103 fr))
 (hE:w.ownsMap prog 9 (plainElem prog 3) bb N E) (hs:Seen E f) (hN:N≤4000000000000) (hf:∀m, -1000000≤f m∧f m≤1000000) (hd:d=1∨d= -1)
 (hA:Cs w A (n.map strV)) (hn:Small n) (hcap:n.length≤cap) (hcap2:cap≤maxLen) (hla:la≤n.length) (hla1:1≤la):
 Calls prog 105 #[.pointer (some ⟨z,0,none⟩),.slice A n.length cap,.int .i64 d] w fun e w'=>e=.returned (.tuple #[])∧Kept (fun k=>k=bb) w w'∧
  ∃E' N',w'.ownsMap prog 9 (plainElem prog 3) bb N' E'∧N'≤N+n.length+1∧Seen E' (cnt f n d (n.length - la+1)):=by
 unfold maxLen at hcap2;have hn1:=hn.1;have hne:z≠bb:=by
  obtain⟨es,cl,hb,_⟩:=hE;intro h;subst h;rw[hz]at hb;cases hb
 have hzl:=lt_block hz;have z0:w.cell? ⟨z,0,none⟩=some (.slice Aa la ca):=by rw[cell_of_row _ _ 0 _ _ _ hz];rfl
 have z2:w.cell? ⟨z,2,none⟩=some (.map (some bb)):=by rw[cell_of_row _ _ 2 _ _ _ hz];rfl
 have hbl:=hE.lt;have hAB:∀a,A=some a→n.map strV≠[]→¬a.block=bb:=by
  intro a ha hx h;obtain⟨es,cl,hb,_⟩:=hE;cases hnn:n.map strV with
  |nil=>exact hx hnn
  |cons x xs=>
   rw[hnn]at hA;obtain⟨b,off,e,hlt,hcell⟩:=hA 0 x rfl;rw[ha]at e;cases e;subst h;simp[World.cell?,hb]at hcell
 have HST:=hid (show CountR bb la N n d f w (.int .i64 0) w from⟨0,Nat.zero_le _,rfl,Kept.refl _ _,E,hE,by rw[cnt_zero];exact hs⟩);have HA:=hid hA;have HAB:=hid hAB;have HF:=hid hf;have HS:=hid hn;have HD:=hid hd;clear hA hAB hf hn hE hs hz;go_enter func105,ntmps105;go_wp2_with fail
 go_loopw [6] (CountR bb la N n d f w) (fun i _=>n.length+2 - (intOf i).toNat)
 case atStart=>exact HST.out
 case round=>
  obtain⟨j,hj,rfl,hkept,E1,hE1,hs1⟩:=hrel;have y0:=(hkept.cell (o:=0) hzl hne).trans z0;have y2:=(hkept.cell (o:=2) hzl hne).trans z2;have hzr:=Nat.lt_of_lt_of_le hzl hkept.size;by_cases hlt:j≤n.length - la
  ·have hcj:¬cap=j:=by omega
   have hdl:(n.drop j).length=n.length - j:=List.length_drop;have hcs:=(Kept.cs HA.out hkept HAB.out).drop' j cap (by simpa using hcap);rw[←List.map_drop]at hcs;have HK:Hid (∀A' c' W,Below wr.heap.size wr W→Cs wr A' ((n.drop j).map strV)→Calls prog 68 #[.slice A' (n.length - j) c'] W fun e w'=>e=.returned (strV (zkey (n.drop j)))∧Below W.heap.size W w'):=hid fun A' c' W hW hA'=>by
    have:=ZKey A' (n.drop j) c' W (hA'.below hW) (HS.out.drop j);rw[hdl]at this;exact this
   have hkl:=zkey_len (HS.out.drop j);have HSTEP:=hid (cnt_step f n d j);have HB:=hid (cnt_le (n:=n) HD.out (HF.out (zkey (n.drop j))) j);have HC:=hid hcs;clear hcs hdl;generalize zkey (n.drop j)=k at *;obtain⟨c0,hc0⟩:∃c0,cnt f n d j k=c0:=⟨_,rfl⟩
   have hb0: -1001000≤c0∧c0≤1001000:=by have:=HB.out;rw[hc0]at this;omega
   have HD1:=hb0.1;have HD2:=hb0.2;have HC0:=hid hc0;have hKey:=keyOf_str k hkl;have hval:plainElem (H:=Unit) prog 3 (.int .i64 (c0+d))=some (.lit (.int .i64 (c0+d)),[]):=plainElem_int underlying3 (by
    rcases HD.out with rfl|rfl <;> (simp[Lit.wf,IntKind.min,IntKind.max,IntKind.signed,IntKind.bits];omega))
   have hd2: -1≤d∧d≤1:=by rcases HD.out with h|h <;> omega
   have hd3:=hd2.1;have hd4:=hd2.2;clear hc0 hb0 hd2;have hmid:∀W,Below wr.heap.size wr W→(Instr.lookup 101 (.map (some bb)) (strV k) false).run prog W=.ok (.int .i64 c0) W∧W.ownsMap prog 9 (plainElem prog 3) bb (N+j) E1:=fun W hW=>by
    have hm:=hE1.kept (row:=none) ⟨hW.os,hW.tape,hW.output,hW.size,fun k hk _=>hW.block k hk⟩ (by simp);have:=look_int hm hs1 k hkl;rw[HC0.out]at this;exact⟨this,hm⟩
   have HM:=hid hmid;have HE1:=hid (And.intro hs1 hE1);clear hmid hE1 hs1;go_wp2_with fail
   all_goals
    have HC2:=HC.out;rw[if_neg hcj]at HC2;refine(HK.out _ _ _ (Below.refl _ _) HC2).mono ?_;rintro e w2 ⟨rfl,hb2⟩;have x2:=(bcl (o:=2) hb2 hzr).trans y2;have hz2:=Nat.lt_of_lt_of_le hzr hb2.size;obtain⟨l1,hown1⟩:=HM.out w2 hb2;have hs1:=HE1.out.1;have hk2:=hkept.trans ((Kept.of_ext hb2).mono (fun _ _ h=>h.elim));have HM1:=hown1.isMap;have tok:True:=trivial
    clear HC HC2 HK HM HE1 y0 y2 hkept hb2;have HV:=hid hval;have HCS:=hid (HSTEP.out);clear hval;rw[HC0.out]at HCS;obtain⟨s,hss⟩:∃s,c0+d=s:=⟨_,rfl⟩
    rw[hss]at HV HCS;by_cases h0:s=0
    ·subst h0
     go_wp2_with (first
      |(at_mapUpdate;refine wpList_mapUpdate_own _ rfl _ _ _ 101 rfl 9 3 keyS underlying101 _ bb (N+j) E1 rfl hown1 (by unfold maxLen;omega) (strV k) (.int .i64 0) (.string k) rfl rfl hKey (.lit (.int .i64 0)) [] HV.out ?_;intro w3 hown3 hg3;have hs3:=hs1.put HM1 k 0;have l3:=look_int hown3 hs3 k hkl;rw[if_pos rfl]at l3;have x3:=(World.cell?_of_block (a:=⟨z,2,none⟩) (hg3.block z hz2 (by intro h;cases h;exact hne rfl))).trans x2;have hk3:=hk2.trans ((Kept.of_grown hg3).mono (fun k _ h=>by cases h;rfl)))
      |(at_delete;refine wpList_delete_own _ rfl _ _ 101 9 rfl 3 keyS underlying101 _ bb (N+j+1) _ rfl hown3 (strV k) (.string k) rfl hKey ?_;intro w4 hown4 ht4;have hk4:=hk3.trans ((Kept.of_grown ht4.grown).mono (fun k _ h=>by cases h;rfl));have hs4:=hs3.del k (if_pos rfl)))
     exact⟨⟨j+1,by omega,by go_num,hk4,_,hown4,by rw[←HCS.out];exact hs4⟩,by simp[intOf];omega⟩
    ·have h0':(s==0)=false:=by simpa using h0
     go_wp2_with (first
      |(at_mapUpdate;refine wpList_mapUpdate_own _ rfl _ _ _ 101 rfl 9 3 keyS underlying101 _ bb (N+j) E1 rfl hown1 (by unfold maxLen;omega) (strV k) (.int .i64 s) (.string k) rfl rfl hKey (.lit (.int .i64 s)) [] HV.out ?_;intro w3 hown3 hg3;have hs3:=hs1.put HM1 k s;have l3:=look_int hown3 hs3 k hkl;rw[if_pos rfl]at l3;have x3:=(World.cell?_of_block (a:=⟨z,2,none⟩) (hg3.block z hz2 (by intro h;cases h;exact hne rfl))).trans x2;have hk3:=hk2.trans ((Kept.of_grown hg3).mono (fun k _ h=>by cases h;rfl)))
      |(at_delete;refine wpList_delete_own _ rfl _ _ 101 9 rfl 3 keyS underlying101 _ bb (N+j+1) _ rfl hown3 (strV k) (.string k) rfl hKey ?_;intro w4 hown4 ht4;have hk4:=hk3.trans ((Kept.of_grown ht4.grown).mono (fun k _ h=>by cases h;rfl));have hs4:=hs3.del k (if_pos rfl)))
     exact⟨⟨j+1,by omega,by go_num,hk3,_,hown3,by rw[←HCS.out];exact hs3⟩,by simp[intOf];omega⟩
  ·have hjl:j=n.length - la+1:=by omega
   subst hjl;go_wp2_with fail;refine bodyPost_end (results_none rfl _ _ _) rfl ?_;exact⟨rfl,hkept,E1,_,hE1,by omega,hs1⟩
end Nm
end Go.Proofs.YtmbdoacafhljkaaGreat
