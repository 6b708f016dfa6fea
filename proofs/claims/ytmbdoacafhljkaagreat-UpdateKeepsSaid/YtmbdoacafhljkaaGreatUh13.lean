/- Texts merged by a program: USoa, USoaD, USer, UNext, UDrop, UHas. -/
import Derived.WalkSpells
import Derived.WalkLawsBesides
import Derived.OpenShut
import Derived.Test.YtmbdoacafhljkaaGreatUh1
import Derived.Test.YtmbdoacafhljkaaGreatUh3
import Derived.Test.YtmbdoacafhljkaaGreatUh4
import Derived.Test.YtmbdoacafhljkaaGreatUh9
import Derived.Test.YtmbdoacafhljkaaGreatUh12
set_option linter.unusedSimpArgs false
set_option linter.unusedVariables false
set_option maxRecDepth 1000000
set_option maxHeartbeats 20000000
open Go.Proofs.Tryz
namespace Go.Proofs.YtmbdoacafhljkaaGreat
open Go.RowKit
namespace Nm
def SetSoa(B:Nat)(ap:List Lab)(ttl:Int)(d:Lab)(v:Value)(W:World):Prop:=∃Am cm Ad cd,∃b:Blob,v=.agg #[.slice Am ap.length cm,.int .u16 6,.int .u32 ttl,.slice Ad 1 cd]∧W.ownsRow B 9 1 (.slice Am ap.length cm) ap.length (ap.map strV)∧W.ownsRow B 37 1 (.slice Ad 1 cd) 1 [b.v]∧b.l=d∧BlobOwn W B b
theorem SetSoa.ext{B:Nat}{ap:List Lab}{ttl:Int}{d:Lab}{v:Value}{W W':World}(h:SetSoa B ap ttl d v W)(hE:Below W.heap.size W W'):SetSoa B ap ttl d v W':=by
 obtain⟨Am,cm,Ad,cd,b,h1,h2,h3,h4,h5⟩:=h;exact⟨Am,cm,Ad,cd,b,h1,own_below h2 hE,own_below h3 hE,h4,own_below h5 hE⟩
theorem SetSoa.store{B:Nat}{ap:List Lab}{ttl:Int}{d:Lab}{v:Value}{W W':World}{g:Nat}{cs:Array Value}{T:TypeId}(h:SetSoa B ap ttl d v W)(hg:W.heap[g]? =some (.cells cs T (0,0)))(hk:Kept (fun k=>k=g) W W')(h1:9≠T)(h2:37≠T)(h3:5≠T):SetSoa B ap ttl d v W':=by
 obtain⟨Am,cm,Ad,cd,b,e1,e2,e3,e4,e5⟩:=h;exact⟨Am,cm,Ad,cd,b,e1,row_store e2 hg h1 hk,row_store e3 hg h2 hk,e4,row_store e5 hg h3 hk⟩
theorem arr4{cs:Array Value}(h:cs.size=4):∃a b c d,cs= #[a,b,c,d]:=by
 refine⟨cs[0],cs[1],cs[2],cs[3], ?_⟩;apply Array.ext
 ·simp[h]
 ·intro i h1 h2;have:i < 4:=by omega
  rcases i with _|_|_|_|i
  all_goals first|rfl|omega
theorem arr7{cs:Array Value}(h:cs.size=7):∃a b c d e f g,cs= #[a,b,c,d,e,f,g]:=by
 refine⟨cs[0],cs[1],cs[2],cs[3],cs[4],cs[5],cs[6], ?_⟩;apply Array.ext
 ·simp[h]
 ·intro i h1 h2;have:i < 7:=by omega
  rcases i with _|_|_|_|_|_|_|i
  all_goals first|rfl|omega
theorem row_two{w w':World}{B:Nat}{e:TypeId}{size:Nat}{v:Value}{n:Nat}{xs:List Value}{g1 g2:Nat}{cs1 cs2:Array Value}{T1 T2:TypeId}(h:w.ownsRow B e size v n xs)(h1:w.heap[g1]? =some (.cells cs1 T1 (0,0)))(h2:w.heap[g2]? =some (.cells cs2 T2 (0,0)))(hk:Kept (fun k=>k=g1∨k=g2) w w')(e1:e≠T1)(e2:e≠T2):w'.ownsRow B e size v n xs:=by
 refine Kept.row h hk fun k hkb ek=> ?_;obtain⟨cs,q1,_⟩:=row_block h hkb;rcases ek with ek|ek
 ·exact ne_cells q1 h1 e1 ek
 ·exact ne_cells q1 h2 e2 ek
theorem set4{w:World}{a:Nat}{y0 y1 y2 y3:Value}{T:TypeId}(h:w.heap[a]? =some (.cells #[y0,y1,y2,y3] T (0,0)))(v0 v1 v2 v3:Value){w':World}(hw:w'=((((w.setCell ⟨a,0,none⟩ v0).setCell ⟨a,1,none⟩ v1).setCell ⟨a,2,none⟩ v2).setCell ⟨a,3,none⟩ v3)):
 w'.heap[a]? =some (.cells #[v0,v1,v2,v3] T (0,0))∧Kept (fun k=>k=a) w w':=by
 subst hw;exact⟨(heap_set (heap_set (heap_set (heap_set h)))),(((((Kept.refl (fun k=>k=a) w).setCell (p:=⟨a,0,none⟩) (fun _=>rfl) v0).setCell (p:=⟨a,1,none⟩) (fun _=>rfl) v1).setCell (p:=⟨a,2,none⟩) (fun _=>rfl) v2).setCell (p:=⟨a,3,none⟩) (fun _=>rfl) v3)⟩
def soaSF(B:Nat)(ap:List Lab)(ttl:Int)(d:Lab):Fact:=⟨SetSoa B ap ttl d,fun _ _ _ hE h=>h.ext hE⟩
def soaTF(B:Nat)(ap:List Lab)(ttl:Int)(d:Lab):Fact:=⟨fun v W=>∃u,v=.tuple #[u,.bool true]∧SetSoa B ap ttl d u W,fun _ _ _ hE ⟨u,h1,h2⟩=>⟨u,h1,h2.ext hE⟩⟩
theorem soaSF_st{B:Nat}{ap:List Lab}{ttl:Int}{d:Lab}:StM 54 (soaSF B ap ttl d):=fun v W W' g cs cs' hk h1 _ _ h=>SetSoa.store h h1 hk (by decide) (by decide) (by decide)
theorem soaTF_st{B:Nat}{ap:List Lab}{ttl:Int}{d:Lab}:StM 54 (soaTF B ap ttl d):=fun v W W' g cs cs' hk h1 _ _ ⟨u,h2,h⟩=>⟨u,h2,SetSoa.store h h1 hk (by decide) (by decide) (by decide)⟩
theorem USoa(w:World)(B z:Nat)(S:Nat→Prop)(ap:List Lab)(F:Cont)(N T:Nat)(h:Zo w B z S ap F N T)(hT:T≤100000)(hap:Small ap)(hapl:lower ap=ap)(ttl:Int)(d c:Lab)(hF:F ap 6=some (ttl,[(d,c)]))(hso:soaB d=true)(hdl:d.length≤100000):
 Calls prog 94 #[.agg #[.pointer (some ⟨z,0,none⟩)]] w fun e w'=>Below w.heap.size w w'∧∃u Am ca Bx cb,e=.returned (.tuple #[u,(soaM d).v Am ca Bx cb,.bool true])∧SetSoa w.heap.size ap ttl d u w'∧
  w'.ownsRow w.heap.size 9 1 (.slice Am (soaM d).m.length ca) (soaM d).m.length ((soaM d).m.map strV)∧w'.ownsRow w.heap.size 9 1 (.slice Bx (soaM d).x.length cb) (soaM d).x.length ((soaM d).x.map strV):=by
 have b1:Below w.heap.size w (w.alloc (.cells #[.pointer (some ⟨z,0,none⟩)] 156)):=bAl;have c1:=heap_alloc_new w (.cells #[.pointer (some ⟨z,0,none⟩)] 156);have s1:(w.alloc (.cells #[.pointer (some ⟨z,0,none⟩)] 156)).heap.size=w.heap.size+1:=by simp
 generalize hw1:w.alloc (.cells #[.pointer (some ⟨z,0,none⟩)] 156)=w1 at b1 c1 s1;have b2:Below w1.heap.size w1 (w1.alloc (.cells #[.slice none 0 0,.int .u16 0,.int .u32 0,.slice none 0 0] 54)):=bAl;have c2:=heap_alloc_new w1 (.cells #[.slice none 0 0,.int .u16 0,.int .u32 0,.slice none 0 0] 54)
 have s2:(w1.alloc (.cells #[.slice none 0 0,.int .u16 0,.int .u32 0,.slice none 0 0] 54)).heap.size=w.heap.size+2:=by simp[s1]
 generalize hw2:w1.alloc (.cells #[.slice none 0 0,.int .u16 0,.int .u32 0,.slice none 0 0] 54)=w2 at b2 c2 s2;have b3:Below w2.heap.size w2 (w2.alloc (.cells #[.slice none 0 0,.slice none 0 0,.int .u32 0,.int .u32 0,.int .u32 0,.int .u32 0,.int .u32 0] 91)):=bAl
 have c3:=heap_alloc_new w2 (.cells #[.slice none 0 0,.slice none 0 0,.int .u32 0,.int .u32 0,.int .u32 0,.int .u32 0,.int .u32 0] 91);have s3:(w2.alloc (.cells #[.slice none 0 0,.slice none 0 0,.int .u32 0,.int .u32 0,.int .u32 0,.int .u32 0,.int .u32 0] 91)).heap.size=w.heap.size+3:=by simp[s2]
 generalize hw3:w2.alloc (.cells #[.slice none 0 0,.slice none 0 0,.int .u32 0,.int .u32 0,.int .u32 0,.int .u32 0,.int .u32 0] 91)=w3 at b3 c3 s3;rw[s1]at c2;rw[s2]at c3;have c12:=(b2.block _ (lt_block c1)).trans c1;have c13:=(b3.block _ (lt_block c12)).trans c12;have c23:=(b3.block _ (lt_block c2)).trans c2
 have b13:Below w.heap.size w w3:=(b1.trans (b2.mono b1.size)).trans (b3.mono (Nat.le_trans b1.size b2.size));obtain⟨d0,_⟩:=cells1 c13;have hd0:=lt_block c13;have HZ:=hid h;have HF:=hid (And.intro hF hso);have HQ:=hid (And.intro c23 c3);clear h hF hso b1 b2 b3 c1 c2 c12 c3 c13 c23;go_enter func94,ntmps94
 go_upto_region 1 with fail
 try rw[hw1,hw2,hw3]
 clear hw1 hw2 hw3
 refine wp_region_m4 mixed0 (by kernel_rfl) (54) 10 9 7 (by decide) (by decide) (by kernel_rfl) (by kernel_rfl) [.is (.pointer (some ⟨w.heap.size,0,none⟩)),.is (.pointer (some ⟨z,0,none⟩)),.is (.pointer (some ⟨w.heap.size,0,none⟩)),.is (.pointer (some ⟨z,0,none⟩)),.own w.heap.size 9 1 ap.length (ap.map strV),soaTF w.heap.size ap ttl d,soaTF w.heap.size ap ttl d,soaSF w.heap.size ap ttl d,.is (.bool true),newF 54 w3.heap.size 4,.any,.is (.bool true)] rfl (List.forall_mem_cons.2 ⟨StM.is _ _,(List.forall_mem_cons.2 ⟨StM.is _ _,(List.forall_mem_cons.2 ⟨StM.is _ _,(List.forall_mem_cons.2 ⟨StM.is _ _,(List.forall_mem_cons.2 ⟨StM.own (by decide),(List.forall_mem_cons.2 ⟨soaTF_st,(List.forall_mem_cons.2 ⟨soaTF_st,(List.forall_mem_cons.2 ⟨soaSF_st,(List.forall_mem_cons.2 ⟨StM.is _ _,(List.forall_mem_cons.2 ⟨StM.new,(List.forall_mem_cons.2 ⟨StM.any _,(List.forall_mem_cons.2 ⟨StM.is _ _,(fun _ h=>nomatch h)⟩)⟩)⟩)⟩)⟩)⟩)⟩)⟩)⟩)⟩)⟩)⟩) (fun v cs=>v=.agg cs) ?_ ?_ ?_ (by decide)
 ·intro i o hio his vals W hE haf;have e0:=(bcl (o:=0) hE hd0).trans d0;have hbW:Below w.heap.size w W:=b13.trans (hE.mono b13.size);rcases i with _|_|_|_|_|_|_|_|_|_|_|_|i
  all_goals first
   |(exfalso;simp at hio;done)
   |exact absurd rfl his
   |(simp at hio;subst hio;simp[bindD,rdB,Region.binds,factAt]at haf;simp[opU,go_sem,haf,e0,Ext.refl,factAt];done)
   |skip
  all_goals
   simp at hio;subst hio;simp[bindD,rdB,Region.binds,factAt]at haf
  ·simp[opU,go_sem,haf,e0,Ext.refl,factAt];refine((HZ.out.ext hbW).apex (Nat.le_trans hap.1 (by decide))).mono fun e W' h=> ?_;obtain⟨v,h1,h2,h3⟩:=h;exact⟨v,h1,h3,own_base h2 hbW.size⟩
  ·obtain⟨h1,h3⟩:=haf;obtain⟨A1,c1,h4,_⟩:=own_form h3;rw[h4]at h3;simp[opU,go_sem,h1,h4,factAt];refine((HZ.out.ext hbW).set_some A1 ap c1 6 (cs_own h3).2 hap hT (by rw[hapl];exact HF.out.1) (by simpa using hdl)).mono fun e W' h=> ?_;obtain⟨hb,Am,cm,Ad,cd,bl,e1,g1,g2,g3,g4⟩:=h
   obtain⟨b,rfl⟩:∃b,bl=[b]:=List.length_eq_one_iff.1 (by have:=congrArg List.length g3;simpa using this);rw[hapl]at g1;exact⟨_,e1,hb,_,rfl,Am,cm,Ad,cd,b,rfl,own_base g1 hbW.size,own_base g2 hbW.size,by simpa using g3,own_base (g4 b (by simp)) hbW.size⟩
  ·obtain⟨u,h1,h2⟩:=haf;simp[opU,go_sem,h1,factAt,Ext.refl];exact h2
  ·obtain⟨u,h1,h2⟩:=haf;simp[opU,go_sem,h1,factAt,Ext.refl]
  ·simp[opU,go_sem,haf,e0,Ext.refl,factAt];exact⟨bAl,_,_,rfl,hE.size,heap_alloc_new _ _,rfl⟩
 ·intro o hio vals W hE haf;simp at hio;subst hio;simp[bindD,rdB,Region.binds,factAt]at haf;obtain⟨⟨g,cs,h5,h6,h7,h8⟩,Am,cm,Ad,cd,b,h1,_⟩:=haf;obtain⟨x0,x1,x2,x3,rfl⟩:=arr4 h8;obtain⟨y0,y1,y2,y3,yf⟩:=cells4 h7;simp[opU,go_sem,h1,h5,y0,y1,y2,y3,yf,factAt]
  obtain⟨q,hk⟩:=set4 h7 (.slice Am ap.length cm) (.int .u16 6) (.int .u32 ttl) (.slice Ad 1 cd) rfl;exact⟨g,_,_,rfl,h6,h7,q,rfl,hk,rfl⟩
 ·intro vals W hE hR hS;have f7:SetSoa w.heap.size ap ttl d (vals 7) W:=hR 7 (by decide);have f11:vals 11=.bool true:=hR 11 (by decide);obtain⟨g,cs,e9,hg,hgc,e7⟩:=hS;obtain⟨Am,cm,Ad,cd,⟨bA,bl,bc⟩,e7',r1,r2,r3,r4⟩:=f7;simp only at r3;subst r3;rw[e7]at e7';injection e7' with e7';subst e7';have hbW:=b13.trans (hE.mono b13.size);obtain⟨q0,q1,q2,q3,_⟩:=cells4 hgc;have hgl:=lt_block hgc
  obtain⟨bd,off,rfl,hbd,rc⟩:=(cs_own r2).2 0 (Blob.v ⟨bA,bl,bc⟩) rfl;simp only[Blob.v,Nat.add_zero]at rc;obtain⟨hb1,hb2,hb3⟩:(⟨bA,bl,bc⟩:Blob).l.length≤bc∧bc≤maxLen∧Cs W bA (bl.map byteV):=⟨(own_caps r4).1,(own_caps r4).2,(cs_own r4).2⟩
  simp only at hb1;have G2:=(hE.block _ (lt_block HQ.out.1)).trans HQ.out.1;have G3:=(hE.block _ (lt_block HQ.out.2)).trans HQ.out.2;have HS:=hid (Soa bA bl bc W hb3 hdl hb1 hb2);have HR:=hid (And.intro r1 (And.intro r2 r4));have HQ2:=hid (And.intro G2 (And.intro G3 hgc));simp[relAct,dstAt,Act.put];rw[e9,f11];have hg3:w.heap.size+3≤g:=by omega
  clear s1 s2 s3;clear hE hR r1 r2 r4 G2 G3 HQ hgc hb1 hb2 hb3 d0 hd0 e9 e7 f11;go_wp2_with fail;refine HS.out.mono ?_;rintro e w4 ⟨hb4,v,rfl,hp⟩;obtain⟨Sm,ca,Sx,cb,rfl,m1,m2⟩:=hp.2 HF.out.2;have k1:=(hb4.block _ (lt_block HQ2.out.1)).trans HQ2.out.1;have k2:=(hb4.block _ (lt_block HQ2.out.2.1)).trans HQ2.out.2.1;have k3:=(hb4.block _ (lt_block HQ2.out.2.2)).trans HQ2.out.2.2
  have hb04:=hbW.trans (hb4.mono hbW.size);have R1:=own_below HR.out.1 hb4;have R2:=own_below HR.out.2.1 hb4;have R3:BlobOwn w4 w.heap.size ⟨bA,bl,bc⟩:=own_below HR.out.2.2 hb4;have M1:=own_base m1 hbW.size;have M2:=own_base m2 hbW.size
  have HSet:SetSoa w.heap.size ap ttl bl (.agg #[.slice Am ap.length cm,.int .u16 6,.int .u32 ttl,.slice (some ⟨bd,off,none⟩) 1 cd]) w4:=⟨_,_,_,_,⟨bA,bl,bc⟩,rfl,R1,R2,rfl,R3⟩
  have HE:=hid (And.intro HSet (And.intro M1 (And.intro M2 hb04)));have hHS4:w.heap.size+3≤w4.heap.size:=by
   have:=hb4.size;have:=lt_block HQ2.out.2.1;omega
  clear HS HR HQ2 hp m1 m2 q0 q1 q2 q3 rc R1 R2 R3 HSet M1 M2 hb04;unfold SoaM.v;obtain⟨sm,hsm⟩:∃sm,soaM bl=sm:=⟨_,rfl⟩
  have HSM:=hid hsm;rw[hsm]at HE ⊢;clear hsm;obtain⟨M,X,n1,n2,n3,n4,n5⟩:=sm;simp only at HE ⊢;have hb5:Below w4.heap.size w4 (w4.alloc (.cells #[.slice Sm M.length ca,.slice Sx X.length cb,.int .u32 n1,.int .u32 n2,.int .u32 n3,.int .u32 n4,.int .u32 n5] 91)):=bAl
  have k4:=heap_alloc_new w4 (.cells #[.slice Sm M.length ca,.slice Sx X.length cb,.int .u32 n1,.int .u32 n2,.int .u32 n3,.int .u32 n4,.int .u32 n5] 91);go_wp2_with fail;generalize w4.alloc (.cells #[.slice Sm M.length ca,.slice Sx X.length cb,.int .u32 n1,.int .u32 n2,.int .u32 n3,.int .u32 n4,.int .u32 n5] 91)=w5 at *
  have HE5:Hid (SetSoa w.heap.size ap ttl bl (.agg #[.slice Am ap.length cm,.int .u16 6,.int .u32 ttl,.slice (some ⟨bd,off,none⟩) 1 cd]) w5∧w5.ownsRow w.heap.size 9 1 (.slice Sm M.length ca) M.length (M.map strV)∧w5.ownsRow w.heap.size 9 1 (.slice Sx X.length cb) X.length (X.map strV)∧Below w.heap.size w w5):=hid ⟨HE.out.1.ext hb5,own_below HE.out.2.1 hb5,own_below HE.out.2.2.1 hb5,HE.out.2.2.2.trans (hb5.mono HE.out.2.2.2.size)⟩
  have k1:=(hb5.block _ (lt_block k1)).trans k1;have k2:=(hb5.block _ (lt_block k2)).trans k2;have k3:=(hb5.block _ (lt_block k3)).trans k3;clear HE hb5 hb4 hbW b13;have hgs:w.heap.size+3≤g∧w.heap.size+3≤w4.heap.size:=by
   exact⟨hg3,hHS4⟩
  generalize w4.heap.size=g4 at *;refine wp_region_r2 mixed0 (by kernel_rfl) (fun _ _=>false) (kills_none _ _)
   (fun i W W'=>match i with|2=>Kept (fun k=>k=w.heap.size+1) W W'∧∃cs,W'.heap[w.heap.size+1]? =some (.cells cs 54 (0,0))∧cs.size=4|3=>Kept (fun k=>k=w.heap.size+2) W W'∧∃cs,W'.heap[w.heap.size+2]? =some (.cells cs 91 (0,0))∧cs.size=7|_=>W'=W)
   (fun W=>Kept (fun k=>k=w.heap.size+1∨k=w.heap.size+2) w5 W∧(∃cs,W.heap[w.heap.size+1]? =some (.cells cs 54 (0,0))∧cs.size=4)∧∃cs,W.heap[w.heap.size+2]? =some (.cells cs 91 (0,0))∧cs.size=7)
   (fun i v W=>match i with
     |0=>v=.agg #[.slice Am ap.length cm,.int .u16 6,.int .u32 ttl,.slice (some ⟨bd,off,none⟩) 1 cd]
     |1=>v=.agg #[.slice Sm M.length ca,.slice Sx X.length cb,.int .u32 n1,.int .u32 n2,.int .u32 n3,.int .u32 n4,.int .u32 n5]
     |2=>W.heap[w.heap.size+1]? =some (.cells #[.slice Am ap.length cm,.int .u16 6,.int .u32 ttl,.slice (some ⟨bd,off,none⟩) 1 cd] 54 (0,0))
     |3=>W.heap[w.heap.size+2]? =some (.cells #[.slice Sm M.length ca,.slice Sx X.length cb,.int .u32 n1,.int .u32 n2,.int .u32 n3,.int .u32 n4,.int .u32 n5] 91 (0,0))
     |4=>v=.bool true
     |_=>True)
   (fun _=>True) (fun _=>false) trivial (fun _ _ _ _ _ _ _=>trivial) ?_ ?_ ?_ ?_ ?_
  ·exact⟨⟨rfl,rfl,rfl,Nat.le_refl _,fun _ _ _=>rfl⟩,⟨_,k1,rfl⟩,⟨_,k2,rfl⟩⟩
  ·rintro i W W' ⟨hK,⟨cs1,h1,h2⟩,⟨cs2,h3,h4⟩⟩ hT;rcases i with _|_|_|_|i
   all_goals simp only at hT
   all_goals first
    |(subst hT;exact⟨hK,⟨cs1,h1,h2⟩,⟨cs2,h3,h4⟩⟩)
    |skip
   ·obtain⟨hk,cs,h5,h6⟩:=hT;exact⟨hK.trans (hk.mono fun k _ h=>.inl h),⟨cs,h5,h6⟩,⟨cs2,(hk.block _ (lt_block h3) (by omega)).trans h3,h4⟩⟩
   ·obtain⟨hk,cs,h5,h6⟩:=hT;exact⟨hK.trans (hk.mono fun k _ h=>.inr h),⟨cs1,(hk.block _ (lt_block h1) (by omega)).trans h1,h2⟩,⟨cs,h5,h6⟩⟩
  ·rintro i j v W W' hij _ _ ⟨hK,⟨cs1,h1,h2⟩,⟨cs2,h3,h4⟩⟩ hR hT;rcases i with _|_|_|_|i
   all_goals simp only at hT
   all_goals first
    |(subst hT;exact hR)
    |skip
   ·rcases j with _|_|_|_|_|j
    all_goals first
     |exact hR
     |exact absurd rfl hij
     |exact(hT.1.block _ (lt_block hR) (by omega)).trans hR
   ·rcases j with _|_|_|_|_|j
    all_goals first
     |exact hR
     |exact absurd rfl hij
     |exact(hT.1.block _ (lt_block hR) (by omega)).trans hR
  ·rintro i o hio vals W ⟨hK,⟨cs1,h1,h2⟩,⟨cs2,h3,h4⟩⟩ haf _;have K3:=(hK.block _ (lt_block k3) (by omega)).trans k3;have K4:=(hK.block _ (lt_block k4) (by omega)).trans k4;obtain⟨x0,x1,x2,x3,rfl⟩:=arr4 h2;obtain⟨y0,y1,y2,y3,y4,y5,y6,rfl⟩:=arr7 h4;obtain⟨p0,p1,p2,p3,_⟩:=cells4 K3;obtain⟨q0,q1,q2,q3,q4,q5,q6,_⟩:=cells7 K4;obtain⟨r0,r1,r2,r3,rf⟩:=cells4 h1
   obtain⟨s0,s1,s2,s3,s4,s5,s6,sf⟩:=cells7 h3;rcases i with _|_|_|_|_|i
   ·simp at hio;subst hio;simp[opU,go_sem,p0,p1,p2,p3]
   ·simp at hio;subst hio;simp[opU,go_sem,q0,q1,q2,q3,q4,q5,q6]
   ·simp at hio;subst hio;simp[bindD,rdB,Region.binds]at haf;simp[opU,go_sem,haf,r0,r1,r2,r3,rf];obtain⟨q,hk⟩:=set4 h1 (.slice Am ap.length cm) (.int .u16 6) (.int .u32 ttl) (.slice (some ⟨bd,off,none⟩) 1 cd) rfl;exact⟨⟨hk,_,q,rfl⟩,q⟩
   ·simp at hio;subst hio;simp[bindD,rdB,Region.binds]at haf;simp[opU,go_sem,haf,s0,s1,s2,s3,s4,s5,s6,sf];obtain⟨q,hk⟩:=set7 h3 (.slice Sm M.length ca) (.slice Sx X.length cb) (.int .u32 n1) (.int .u32 n2) (.int .u32 n3) (.int .u32 n4) (.int .u32 n5) rfl;exact⟨⟨hk,_,q,rfl⟩,q⟩
   ·simp at hio;subst hio;simp[opU,go_sem]
   ·exfalso;simp at hio
  ·rintro vals W ⟨hK,_⟩ hR;have f2:=hR 2 (by decide) (fun _ _=>rfl);have f3:=hR 3 (by decide) (fun _ _=>rfl);have f4:vals 4=.bool true:=hR 4 (by decide) (fun _ _=>rfl);simp only at f2 f3;simp[relAct,dstAt,Act.put];rw[f4];obtain⟨r0,r1,r2,r3,_⟩:=cells4 f2;obtain⟨s0,s1,s2,s3,s4,s5,s6,_⟩:=cells7 f3;go_wp2_with fail
   have hbF:Below w.heap.size w W:=HE5.out.2.2.2.trans (hK.below HE5.out.2.2.2.size fun k _ h=>by omega)
   refine bodyPost_ret (v:=.tuple #[.agg #[.slice Am ap.length cm,.int .u16 6,.int .u32 ttl,.slice (some ⟨bd,off,none⟩) 1 cd],.agg #[.slice Sm M.length ca,.slice Sx X.length cb,.int .u32 n1,.int .u32 n2,.int .u32 n3,.int .u32 n4,.int .u32 n5],.bool true]) ?_ rfl ⟨hbF,.agg #[.slice Am ap.length cm,.int .u16 6,.int .u32 ttl,.slice (some ⟨bd,off,none⟩) 1 cd],Sm,ca,Sx,cb,by rw[HSM.out];rfl, ?_, ?_, ?_⟩
   ·simp[results,results94,go_sem,r0,r1,r2,r3,s0,s1,s2,s3,s4,s5,s6]
   ·obtain⟨Am',cm',Ad',cd',b',e1,e2,e3,e4,e5⟩:=HE5.out.1;exact⟨Am',cm',Ad',cd',b',e1,row_two e2 k1 k2 hK (by decide) (by decide),row_two e3 k1 k2 hK (by decide) (by decide),e4,row_two e5 k1 k2 hK (by decide) (by decide)⟩
   ·rw[HSM.out];exact row_two HE5.out.2.1 k1 k2 hK (by decide) (by decide)
   ·rw[HSM.out];exact row_two HE5.out.2.2.1 k1 k2 hK (by decide) (by decide)
def soaG(s m:Nat):SoaM:=⟨owner 1,owner 2,s,1,2,3,m⟩
def soaD(s m:Nat):Lab:=(soaG s m).bytes
theorem dataN6(k:Nat):dataN 6 k=soaD (k *16777216) (10+k %4 *20):=rfl
theorem openO_wire{n:List Lab}{r:Lab}(h:nameE n=0):openO (wire n++r)=some (n,(wire n).length):=by
 obtain⟨g1,g2⟩:=nameE_zero.1 h;unfold openO;rw[parse_wire n r g1];simp only;rw[if_neg (by omega)]
theorem num_be4{n:Nat}(h:n < 4294967296):numOf (be4 n) 0=n:=by
 simp only[be4,numOf,UInt8.toNat_ofNat'];omega
theorem soaG_fits{s m:Nat}(hs:s < 4294967296)(hm:m < 4294967296):(soaG s m).fits:=by
 have h:∀k,k < 13→Small (owner k):=by unfold Small;decide
 exact⟨h 1 (by decide),h 2 (by decide),hs,(by decide:(1:Nat) < 4294967296),(by decide:(2:Nat) < 4294967296),(by decide:(3:Nat) < 4294967296),hm⟩
theorem soaD_eq(s m:Nat):soaD s m=wire (owner 1)++(wire (owner 2)++(be4 s++(be4 1++(be4 2++(be4 3++be4 m))))):=by
 unfold soaD SoaM.bytes soaG;simp only[List.append_assoc]
theorem soaD_len(s m:Nat):(soaD s m).length=42:=by
 rw[soaD_eq];simp only[List.length_append];rfl
theorem own12:nameE (owner 1)=0∧nameE (owner 2)=0∧(wire (owner 1)).length=11∧(wire (owner 2)).length=11∧lower (owner 1)=owner 1∧lower (owner 2)=owner 2:=by decide
theorem soaD_o1(s m:Nat):openO (soaD s m)=some (owner 1,11):=by
 rw[soaD_eq,openO_wire own12.1,own12.2.2.1]
theorem soaD_drop(s m:Nat):(soaD s m).drop 11=wire (owner 2)++(be4 s++(be4 1++(be4 2++(be4 3++be4 m)))):=by
 rw[soaD_eq,List.drop_append_of_le_length (by rw[own12.2.2.1];omega)];have:(wire (owner 1)).drop 11=[]:=by decide
 rw[this,List.nil_append]
theorem soaD_o2(s m:Nat):openO ((soaD s m).drop 11)=some (owner 2,11):=by
 rw[soaD_drop,openO_wire own12.2.1,own12.2.2.2.1]
theorem soaD_b(s m:Nat):soaB (soaD s m)=true:=by
 unfold soaB;rw[(soa_some (soaD_o1 s m) (soaD_o2 s m)).2.2.2.2,soaD_len];rfl
theorem soaD_drop22(s m:Nat):(soaD s m).drop 22=be4 s++(be4 1++(be4 2++(be4 3++be4 m))):=by
 have h:(soaD s m).drop 22=((soaD s m).drop 11).drop 11:=by rw[List.drop_drop]
 rw[h,soaD_drop,List.drop_append_of_le_length (by rw[own12.2.2.2.1];omega)];have:(wire (owner 2)).drop 11=[]:=by decide
 rw[this,List.nil_append]
theorem soaD_m{s m:Nat}(hs:s < 4294967296)(hm:m < 4294967296):soaM (soaD s m)=soaG s m:=by
 obtain⟨e1,e2,e3,e4,_⟩:=soa_some (soaD_o1 s m) (soaD_o2 s m);unfold soaM soaG;have hd:∀j,(soaD s m).drop (22+j)=(be4 s++(be4 1++(be4 2++(be4 3++be4 m)))).drop j:=fun j=>by rw[←soaD_drop22,List.drop_drop]
 have h0:=hd 0;have h4:=hd 4;have h8:=hd 8;have h12:=hd 12;have h16:=hd 16;rw[e2,e1,e3,e4];have e0:11+11=22+0:=rfl;rw[e0,h0,Nat.add_zero,h4,h8,h12,h16];have q:∀n,(be4 n).length=4:=fun _=>rfl;have t0:((be4 s++(be4 1++(be4 2++(be4 3++be4 m)))).drop 0).take 4=be4 s:=rfl;have t1:((be4 s++(be4 1++(be4 2++(be4 3++be4 m)))).drop 4).take 4=be4 1:=rfl
 have t2:((be4 s++(be4 1++(be4 2++(be4 3++be4 m)))).drop 8).take 4=be4 2:=rfl;have t3:((be4 s++(be4 1++(be4 2++(be4 3++be4 m)))).drop 12).take 4=be4 3:=rfl;have t4:((be4 s++(be4 1++(be4 2++(be4 3++be4 m)))).drop 16).take 4=be4 m:=rfl;rw[t0,t1,t2,t3,t4,num_be4 hs,num_be4 hm];rfl
theorem soaD_chk(s m:Nat):chk 6 (soaD s m)=true:=by
 rw[chk6,soaD_b,soaD_len];rfl
theorem soaD_can{s m:Nat}(hs:s < 4294967296)(hm:m < 4294967296):canonD 6 (soaD s m)=soaD s m:=by
 have h:=canonO_soa (soaD_b s m);rw[soaD_m hs hm]at h;have e:(soaG s m).low=soaG s m:=by
  unfold SoaM.low soaG;rw[own12.2.2.2.2.1,own12.2.2.2.2.2]
 rw[e]at h;unfold canonD;rw[soaD_chk];exact h
def scmpI(a b:Int):Int:=if(a - b) %4294967296=0 then 0 else if(a - b) %4294967296=2147483648 then 0 else if(a - b) %4294967296 < 2147483648 then 1 else -1
def scmpB(a b:Int):Bool:= !decide ((a - b) %4294967296=2147483648)
def snextI(a:Int):Int:=if a=4294967295 then 1 else a+1
theorem stup{k:IntKind}{a b:Int}{x y:Bool}(h:a=b)(h':x=y):Ending.returned (.tuple #[.int k a,.bool x])=.returned (.tuple #[.int k b,.bool y]):=by rw[h,h']
theorem sret_int{k:IntKind}{a b:Int}(h:a=b):Ending.returned (.int k a)=.returned (.int k b):=by rw[h]
theorem SCompare(a b:Int)(ha:0≤a∧a < 4294967296)(hb:0≤b∧b < 4294967296)(w:World):Calls prog 143 #[.int .u32 a,.int .u32 b] w fun e w'=>e=.returned (.tuple #[.int .i64 (scmpI a b),.bool (scmpB a b)])∧w=w':=by
 go_enter func143,ntmps143
 go_wp2
 all_goals
  go_ret2
  refine⟨stup ?_ ?_,rfl⟩ <;> simp only[scmpI,scmpB,beq_iff_eq,beq_eq_false_iff_ne,ne_eq]at * <;> simp[*] <;> omega
theorem SNext(a:Int)(ha:0≤a∧a < 4294967296)(w:World):Calls prog 146 #[.int .u32 a] w fun e w'=>e=.returned (.int .u32 (snextI a))∧w=w':=by
 go_enter func146,ntmps146
 go_wp2
 all_goals
  go_ret;refine⟨sret_int ?_,rfl⟩ <;> simp only[snextI] <;> (repeat' split) <;> omega
def nextN(a:Nat):Nat:=if a=4294967295 then 1 else a+1
theorem nextN_lt{a:Nat}(h:a < 4294967296):nextN a < 4294967296:=by unfold nextN;split <;> omega
theorem nextN_int(a:Nat):snextI a=((nextN a:Nat):Int):=by unfold snextI nextN;split <;> split <;> omega
def soaC(F:Cont)(ttl:Int)(s m:Nat):Cont:=updC F [exL] 6 (some (ttl,[(soaD s m,soaD s m)]))
def nextC(F:Cont)(ttl:Int)(s m old:Nat):Cont:=if s=old then soaC F ttl (nextN old) m else F
theorem updC_upd(F:Cont)(n:List Lab)(t:Int)(x y:Option (Int×List (Lab×Lab))):updC (updC F n t x) n t y=updC F n t y:=by
 funext a b;by_cases e:a=n∧b=t
 ·rw[e.1,e.2,updC_at,updC_at]
 ·rw[updC_ne _ _ e,updC_ne _ _ e,updC_ne _ _ e]
theorem next_step{F:Cont}{ttl:Int}{s m:Nat}(hF:F [exL] 6=some (ttl,[(soaD s m,soaD s m)]))(s' m':Nat)(ttl':Int):
 dropC F [exL] 6 (soaD s m)=(updC F [exL] 6 none,true)∧putC (updC F [exL] 6 none) [exL] 6 ttl' (soaD s' m') (soaD s' m')=(soaC F ttl' s' m',true):=by
 constructor
 ·unfold dropC;rw[hF];simp
 ·unfold putC;rw[updC_at];simp only;rw[updC_upd];rfl
theorem arr5{cs:Array Value}(h:cs.size=5):∃a b c d e,cs= #[a,b,c,d,e]:=by
 refine⟨cs[0],cs[1],cs[2],cs[3],cs[4], ?_⟩;apply Array.ext
 ·simp[h]
 ·intro i h1 h2;have:i < 5:=by omega
  rcases i with _|_|_|_|_|i
  all_goals first|rfl|omega
theorem set5{w:World}{a:Nat}{y0 y1 y2 y3 y4:Value}{T:TypeId}(h:w.heap[a]? =some (.cells #[y0,y1,y2,y3,y4] T (0,0)))(v0 v1 v2 v3 v4:Value){w':World}(hw:w'=(((((w.setCell ⟨a,0,none⟩ v0).setCell ⟨a,1,none⟩ v1).setCell ⟨a,2,none⟩ v2).setCell ⟨a,3,none⟩ v3).setCell ⟨a,4,none⟩ v4)):
 w'.heap[a]? =some (.cells #[v0,v1,v2,v3,v4] T (0,0))∧Kept (fun k=>k=a) w w':=by
 subst hw;exact⟨(heap_set (heap_set (heap_set (heap_set (heap_set h))))),((((((Kept.refl (fun k=>k=a) w).setCell (p:=⟨a,0,none⟩) (fun _=>rfl) v0).setCell (p:=⟨a,1,none⟩) (fun _=>rfl) v1).setCell (p:=⟨a,2,none⟩) (fun _=>rfl) v2).setCell (p:=⟨a,3,none⟩) (fun _=>rfl) v3).setCell (p:=⟨a,4,none⟩) (fun _=>rfl) v4)⟩
theorem exL_small:Small [exL]:=by unfold Small;decide
theorem exL_name:nameE [exL]=0:=by decide
theorem exL_low:lower [exL]=[exL]:=by decide
theorem exL_in:within [exL] [exL]=true:=by decide
theorem soa_rec{s m:Nat}(hs:s < 4294967296)(hm:m < 4294967296){cn cd:Nat}(h1:1≤cn)(h2:cn≤maxLen)(h3:42≤cd)(h4:cd≤maxLen):RecG [exL] [exL] 6 (soaD s m) (soaD s m) cn cd:=by
 have h:=(rec_of (cn:=cn) (cd:=cd) exL_small exL_name exL_in (show easyT 6 by unfold easyT;decide) (by decide) (soaD_chk s m) (by rw[soaD_len];omega) h1 h2 (by rw[soaD_len];exact h3) h4).to;rw[soaD_can hs hm]at h;exact h
theorem UNext(w:World)(B z:Nat)(S:Nat→Prop)(F:Cont)(N T:Nat)(h:Zo w B z S [exL] F N T)(hN:N≤1900000000000)(hT:T≤900)(ttl:Int)(s m old:Nat)(hs:s < 4294967296)(hm:m < 4294967296)(ho:old < 4294967296)(hF:F [exL] 6=some (ttl,[(soaD s m,soaD s m)])):
 Calls prog 98 #[.agg #[.pointer (some ⟨z,0,none⟩)],.int .u32 (old:Int)] w fun e w'=>e=.returned (.tuple #[])∧∃S' N' T',Zo w' B z S' [exL] (nextC F ttl s m old) N' T'∧N'≤N+4000∧T'≤T∧Kept S w w'∧(∀k,S' k→S k∨w.heap.size≤k):=by
 have b1:Below w.heap.size w (w.alloc (.cells #[.pointer (some ⟨z,0,none⟩)] 156)):=bAl;have c1:=heap_alloc_new w (.cells #[.pointer (some ⟨z,0,none⟩)] 156);have HZ:=hid h;have hSlt:∀k,S k→k < w.heap.size:=fun k hk=>(h.lt hk).1
 have HS1:=hid (USoa (w.alloc (.cells #[.pointer (some ⟨z,0,none⟩)] 156)) B z S [exL] F N T (h.ext b1) (by omega) exL_small exL_low ttl _ _ hF (soaD_b s m) (by rw[soaD_len];omega));have HLT:=hid hSlt;clear h hSlt;go_enter func98,ntmps98;go_wp2_with fail;generalize w.alloc (.cells #[.pointer (some ⟨z,0,none⟩)] 156)=w1 at *;refine HS1.out.mono ?_
 rintro e w2 ⟨hb2,u,Sm,ca,Sx,cb,rfl,hset,m1,m2⟩;obtain⟨Am,cm,Ad,cd,⟨bA,bl,bc⟩,rfl,r1,r2,r3,r4⟩:=hset;simp only at r3;subst r3;rw[soaD_m hs hm]at m1 m2 ⊢;have hb02:=b1.trans (hb2.mono b1.size);have d1:=(hb2.block _ (lt_block c1)).trans c1;have hm1:w.heap.size≤w1.heap.size:=b1.size
 have HR:=hid (And.intro (own_base r1 hm1) (And.intro (own_base r2 hm1) (And.intro (own_base r4 hm1) (And.intro (own_base m1 hm1) (And.intro (own_base m2 hm1) hb02)))));have HB2:Hid (Below w.heap.size w w2):=hid hb02;clear r1 r2 r4 m1 m2 c1 HS1 hb2 b1 hb02;unfold SoaM.v;dsimp only[soaG]
 go_upto_region 2 with fail
 have bAA:Below w2.heap.size w2 ((w2.alloc (.cells #[.slice Am 1 cm,.int .u16 6,.int .u32 ttl,.slice Ad 1 cd] 54)).alloc (.cells #[.slice Sm (owner 1).length ca,.slice Sx (owner 2).length cb,.int .u32 (s:Int),.int .u32 1,.int .u32 2,.int .u32 3,.int .u32 (m:Int)] 91)):=bAl.alloc (by simp) _
 have gx:=heap_alloc_new (w2.alloc (.cells #[.slice Am 1 cm,.int .u16 6,.int .u32 ttl,.slice Ad 1 cd] 54)) (.cells #[.slice Sm (owner 1).length ca,.slice Sx (owner 2).length cb,.int .u32 (s:Int),.int .u32 1,.int .u32 2,.int .u32 3,.int .u32 (m:Int)] 91);have gs:=heap_alloc_new w2 (.cells #[.slice Am 1 cm,.int .u16 6,.int .u32 ttl,.slice Ad 1 cd] 54)
 have gs:=(Below.heap_alloc _ (.cells #[.slice Sm (owner 1).length ca,.slice Sx (owner 2).length cb,.int .u32 (s:Int),.int .u32 1,.int .u32 2,.int .u32 3,.int .u32 (m:Int)] 91) _ (lt_block gs)).trans gs
 have sA:((w2.alloc (.cells #[.slice Am 1 cm,.int .u16 6,.int .u32 ttl,.slice Ad 1 cd] 54)).alloc (.cells #[.slice Sm (owner 1).length ca,.slice Sx (owner 2).length cb,.int .u32 (s:Int),.int .u32 1,.int .u32 2,.int .u32 3,.int .u32 (m:Int)] 91)).heap.size=w2.heap.size+2:=by simp
 have sA1:(w2.alloc (.cells #[.slice Am 1 cm,.int .u16 6,.int .u32 ttl,.slice Ad 1 cd] 54)).heap.size=w2.heap.size+1:=by simp
 rw[sA1]at gx;generalize(w2.alloc (.cells #[.slice Am 1 cm,.int .u16 6,.int .u32 ttl,.slice Ad 1 cd] 54)).alloc (.cells #[.slice Sm (owner 1).length ca,.slice Sx (owner 2).length cb,.int .u32 (s:Int),.int .u32 1,.int .u32 2,.int .u32 3,.int .u32 (m:Int)] 91)=wB at *;clear sA1 sA;have db:=(bAA.block _ (lt_block d1)).trans d1;have hg2:w.heap.size < w2.heap.size:=lt_block d1
 have HRB:Hid (wB.ownsRow w.heap.size 9 1 (.slice Am 1 cm) 1 ([exL].map strV)∧BlobOwn wB w.heap.size ⟨bA,soaD s m,bc⟩∧wB.ownsRow w.heap.size 9 1 (.slice Sm (owner 1).length ca) (owner 1).length ((owner 1).map strV)∧wB.ownsRow w.heap.size 9 1 (.slice Sx (owner 2).length cb) (owner 2).length ((owner 2).map strV)∧Below w.heap.size w wB):=hid ⟨own_below HR.out.1 bAA,own_below HR.out.2.2.1 bAA,own_below HR.out.2.2.2.1 bAA,own_below HR.out.2.2.2.2.1 bAA,HR.out.2.2.2.2.2.trans (bAA.mono HR.out.2.2.2.2.2.size)⟩
 have HAd:Hid (wB.ownsRow w.heap.size 37 1 (.slice Ad 1 cd) 1 [.slice bA 42 bc]):=hid (by
  have:=own_below HR.out.2.1 bAA;unfold Blob.v at this;simp only[soaD_len]at this;exact this)
 have hbB:Below w.heap.size w wB:=HRB.out.2.2.2.2;generalize w2.heap.size=g at *;obtain⟨x0,x1,x2,x3,x4,x5,x6,_⟩:=cells7 gx;by_cases hso:s=old
 ·subst hso;have hne:((s:Int) !=(s:Int))=false:=by simp
  go_wp2_with fail;obtain⟨y0,y1,y2,y3,_⟩:=cells4 gs;obtain⟨bd,off,rfl,hbd,rc⟩:∃bd off,Ad=some ⟨bd,off,none⟩∧bd < wB.heap.size∧wB.cell? ⟨bd,off,none⟩=some (.slice bA 42 bc):=(cs_own HAd.out).2 0 _ rfl;have hgB:=lt_block gs
  refine wp_region_m4 mixed0 (by kernel_rfl) (39) 12 11 10 (by decide) (by decide) (by kernel_rfl) (by kernel_rfl) [.is (.pointer (some ⟨g,0,none⟩)),.is (.slice Am 1 cm),.is (.pointer (some ⟨g,1,none⟩)),.is (.int .u16 6),.is (.pointer (some ⟨g,2,none⟩)),.is (.int .u32 ttl),.is (.pointer (some ⟨g,3,none⟩)),.is (.slice (some ⟨bd,off,none⟩) 1 cd),.is (.pointer (some ⟨bd,off,none⟩)),.is (.slice bA 42 bc),.is (.agg #[.slice Am 1 cm,.int .u16 6,.int .u16 1,.int .u32 ttl,.slice bA 42 bc]),newF 39 wB.heap.size 5,.any] rfl (List.forall_mem_cons.2 ⟨StM.is _ _,(List.forall_mem_cons.2 ⟨StM.is _ _,(List.forall_mem_cons.2 ⟨StM.is _ _,(List.forall_mem_cons.2 ⟨StM.is _ _,(List.forall_mem_cons.2 ⟨StM.is _ _,(List.forall_mem_cons.2 ⟨StM.is _ _,(List.forall_mem_cons.2 ⟨StM.is _ _,(List.forall_mem_cons.2 ⟨StM.is _ _,(List.forall_mem_cons.2 ⟨StM.is _ _,(List.forall_mem_cons.2 ⟨StM.is _ _,(List.forall_mem_cons.2 ⟨StM.is _ _,(List.forall_mem_cons.2 ⟨StM.new,(List.forall_mem_cons.2 ⟨StM.any _,(fun _ h=>nomatch h)⟩)⟩)⟩)⟩)⟩)⟩)⟩)⟩)⟩)⟩)⟩)⟩)⟩) (fun v cs=>v=.agg cs) ?_ ?_ ?_ (by decide)
  ·intro i o hio his vals W hE haf;have e0:=(bcl (o:=0) hE hgB).trans y0;have e1:=(bcl (o:=1) hE hgB).trans y1;have e2:=(bcl (o:=2) hE hgB).trans y2;have e3:=(bcl (o:=3) hE hgB).trans y3;have e4:=(bcl hE hbd).trans rc;rcases i with _|_|_|_|_|_|_|_|_|_|_|_|_|i
   all_goals first
    |(exfalso;simp at hio;done)
    |exact absurd rfl his
    |(simp at hio;subst hio;simp[bindD,rdB,Region.binds,factAt]at haf;simp[opU,go_sem,haf,e0,e1,e2,e3,e4,Ext.refl,factAt];done)
    |skip
   all_goals
    simp at hio;subst hio;simp[bindD,rdB,Region.binds,factAt]at haf
   ·simp[opU,go_sem,haf,e0,e1,e2,e3,e4,Ext.refl,factAt];exact⟨bAl,_,_,rfl,hE.size,heap_alloc_new _ _,rfl⟩
  ·intro o hio vals W hE haf;simp at hio;subst hio;simp[bindD,rdB,Region.binds,factAt]at haf;obtain⟨⟨g',cs,h5,h6,h7,h8⟩,h1⟩:=haf;obtain⟨z0,z1,z2,z3,z4,rfl⟩:=arr5 h8;obtain⟨k0,k1,k2,k3,k4,kf⟩:=cells5 h7;simp[opU,go_sem,h1,h5,k0,k1,k2,k3,k4,kf,factAt]
   obtain⟨q,hk⟩:=set5 h7 (.slice Am 1 cm) (.int .u16 6) (.int .u16 1) (.int .u32 ttl) (.slice bA 42 bc) rfl;exact⟨g',_,_,rfl,h6,h7,q,rfl,hk,rfl⟩
  ·intro vals W hE hR hS;have f10:vals 10=.agg #[.slice Am 1 cm,.int .u16 6,.int .u16 1,.int .u32 ttl,.slice bA 42 bc]:=hR 10 (by decide);obtain⟨g7,cs,e11,hg7,q7,e10⟩:=hS;rw[f10]at e10;injection e10 with e10;subst e10;have hbW:Below w.heap.size w W:=HRB.out.2.2.2.2.trans (hE.mono HRB.out.2.2.2.2.size);have dW:=(hE.block _ (lt_block db)).trans db;have gxW:=(hE.block _ (lt_block gx)).trans gx
   have HRW:Hid (W.ownsRow w.heap.size 9 1 (.slice Am 1 cm) 1 ([exL].map strV)∧BlobOwn W w.heap.size ⟨bA,soaD s m,bc⟩∧W.ownsRow w.heap.size 9 1 (.slice Sm (owner 1).length ca) (owner 1).length ((owner 1).map strV)∧W.ownsRow w.heap.size 9 1 (.slice Sx (owner 2).length cb) (owner 2).length ((owner 2).map strV)):=hid ⟨own_below HRB.out.1 hE,own_below HRB.out.2.1 hE,own_below HRB.out.2.2.1 hE,own_below HRB.out.2.2.2.1 hE⟩
   have hgl:g+1 < wB.heap.size:=lt_block gx;simp[relAct,dstAt,Act.put];rw[e11];clear hR e11 x0 x1 x2 x3 x4 x5 x6 y0 y1 y2 y3 rc HR gs gx bAA HRB;obtain⟨x0,x1,x2,x3,x4,x5,x6,_⟩:=cells7 gxW;obtain⟨k0,k1,k2,k3,k4,_⟩:=cells5 q7;obtain⟨d0,_⟩:=cells1 dW;have hgl7:=lt_block q7
   have hr:=soa_rec hs hm (own_caps HRW.out.1).1 (own_caps HRW.out.1).2 (show 42≤bc from by have:=(own_caps HRW.out.2.1).1;rw[soaD_len]at this;exact this) (own_caps HRW.out.2.1).2;have HD:=(HZ.out.ext hbW).drop Am [exL] cm bA (soaD s m) bc 6 1 ttl (own_base HRW.out.1 (Nat.zero_le _)) (own_base HRW.out.2.1 (Nat.zero_le _)) (soaD s m) hr (Nat.le_refl _) (Nat.le_refl _) (by omega) hT
   rw[exL_low,(next_step hF (nextN s) m ttl).1,soaD_len]at HD;have HD:=hid HD;have hWl:=hbW.size;clear hr;go_wp2_with fail;refine HD.out.mono ?_;rintro e w4 ⟨S1,N1,T1,rfl,hz1,hN1,hT1,hk1,hS1⟩;simp only[if_true]at hT1;have nS:∀k,w.heap.size≤k→¬S k:=fun k hk e=>by have:=HLT.out k e;omega
   have d4:=(hk1.block _ (lt_block dW) (nS _ (Nat.le_refl _))).trans dW;have gx4:=(hk1.block _ (lt_block gxW) (nS _ (by omega))).trans gxW;have q4:=(hk1.block _ (lt_block q7) (nS _ (by omega))).trans q7
   have R4:Hid (w4.ownsRow w.heap.size 9 1 (.slice Am 1 cm) 1 ([exL].map strV)∧w4.ownsRow w.heap.size 9 1 (.slice Sm (owner 1).length ca) (owner 1).length ((owner 1).map strV)∧w4.ownsRow w.heap.size 9 1 (.slice Sx (owner 2).length cb) (owner 2).length ((owner 2).map strV)):=hid ⟨Kept.row HRW.out.1 hk1 (fun k hk=>nS k (HRW.out.1.lt k hk).1),Kept.row HRW.out.2.2.1 hk1 (fun k hk=>nS k (HRW.out.2.2.1.lt k hk).1),Kept.row HRW.out.2.2.2 hk1 (fun k hk=>nS k (HRW.out.2.2.2.lt k hk).1)⟩
   have H4:=hid (And.intro hz1 (And.intro hS1 (((Kept.of_ext hbW).mono fun _ _ h=>h.elim:Kept S w W).trans hk1)));have hs4:=hk1.size;clear hz1 hS1 hk1 HD HRW dW gxW q7 x0 x1 x2 x3 x4 x5 x6 k0 k1 k2 k3 k4 d0;obtain⟨x0,x1,x2,x3,x4,x5,x6,xf⟩:=cells7 gx4;obtain⟨k0,k1,k2,k3,k4,_⟩:=cells5 q4;obtain⟨d0,_⟩:=cells1 d4;have xf2:=xf 2
   have HN:Calls prog 146 #[.int .u32 (s:Int)] w4 fun e w'=>e=.returned (.int .u32 ((nextN s:Nat):Int))∧w4=w':=by
    have:=SNext s (by omega) w4;rw[nextN_int]at this;exact this
   go_wp2_with fail;refine HN.mono ?_;rintro e w5 ⟨rfl,rfl⟩;have gx5:(w4.setCell ⟨g+1,2,none⟩ (.int .u32 ((nextN s:Nat):Int))).heap[g+1]? =some (.cells #[.slice Sm (owner 1).length ca,.slice Sx (owner 2).length cb,.int .u32 ((nextN s:Nat):Int),.int .u32 1,.int .u32 2,.int .u32 3,.int .u32 (m:Int)] 91 (0,0)):=heap_set (i:=2) (v:=.int .u32 ((nextN s:Nat):Int)) gx4
   have hk5:Kept (fun k=>k=g+1) w4 (w4.setCell ⟨g+1,2,none⟩ (.int .u32 ((nextN s:Nat):Int))):=(Kept.refl (fun k=>k=g+1) w4).setCell (p:=⟨g+1,2,none⟩) (fun _=>rfl) _;have hs5:(w4.setCell ⟨g+1,2,none⟩ (.int .u32 ((nextN s:Nat):Int))).heap.size=w4.heap.size:=by simp
   have hg4:=lt_block gx4
   go_upto_region 6 with fail
   generalize w4.setCell ⟨g+1,2,none⟩ (.int .u32 ((nextN s:Nat):Int))=w5 at *;have d5:=(hk5.block _ (lt_block d4) (by omega)).trans d4;have q5:=(hk5.block _ (lt_block q4) (by omega)).trans q4;have hz5:=H4.out.1.other gx4 (by unfold farT;decide) hk5
   have R5:Hid (w5.ownsRow w.heap.size 9 1 (.slice Am 1 cm) 1 ([exL].map strV)∧w5.ownsRow w.heap.size 9 1 (.slice Sm (owner 1).length ca) (owner 1).length ((owner 1).map strV)∧w5.ownsRow w.heap.size 9 1 (.slice Sx (owner 2).length cb) (owner 2).length ((owner 2).map strV)):=hid ⟨row_store R4.out.1 gx4 (by decide) hk5,row_store R4.out.2.1 gx4 (by decide) hk5,row_store R4.out.2.2 gx4 (by decide) hk5⟩
   have hk05:Kept S w w5:=H4.out.2.2.then hk5 fun i hi e=>by omega
   have H5:=hid (And.intro hz5 (And.intro H4.out.2.1 hk05));have HB:=SoaBytes (soaG (nextN s) m) (soaG_fits (nextN_lt hs) hm) Sm Sx ca cb w5 (cs_own R5.out.2.1).2 (cs_own R5.out.2.2).2;unfold SoaM.v at HB;dsimp only[soaG]at HB;have HB:=hid HB;have hg75:=lt_block q5;clear hz5 R4 H4 hk5 gx4 d4 q4 hk05 x0 x1 x2 x3 x4 x5 x6 k0 k1 k2 k3 k4 d0;obtain⟨x0,x1,x2,x3,x4,x5,x6,_⟩:=cells7 gx5
   obtain⟨k0,k1,k2,k3,k4,kf⟩:=cells5 q5;obtain⟨d0,_⟩:=cells1 d5;have kf4:=kf 4;go_wp2_with fail;refine HB.out.mono ?_;rintro e w6 ⟨v6,rfl,h6,hb6⟩;have h6:w6.ownsRow w5.heap.size 5 1 v6 (soaD (nextN s) m).length ((soaD (nextN s) m).map byteV):=h6;rw[soaD_len]at h6;obtain⟨A6,c6,rfl,_⟩:=own_form h6;have q6:=(hb6.block _ (lt_block q5)).trans q5
   have d6:=(hb6.block _ (lt_block d5)).trans d5;have q7:(w6.setCell ⟨g7,4,none⟩ (.slice A6 42 c6)).heap[g7]? =some (.cells #[.slice Am 1 cm,.int .u16 6,.int .u16 1,.int .u32 ttl,.slice A6 42 c6] 39 (0,0)):=heap_set (i:=4) (v:=.slice A6 42 c6) q6;have hk7:Kept (fun k=>k=g7) w6 (w6.setCell ⟨g7,4,none⟩ (.slice A6 42 c6)):=(Kept.refl (fun k=>k=g7) w6).setCell (p:=⟨g7,4,none⟩) (fun _=>rfl) _
   have hs7:(w6.setCell ⟨g7,4,none⟩ (.slice A6 42 c6)).heap.size=w6.heap.size:=by simp
   have R6:Hid (w6.ownsRow w.heap.size 9 1 (.slice Am 1 cm) 1 ([exL].map strV)∧w6.ownsRow w5.heap.size 5 1 (.slice A6 42 c6) 42 ((soaD (nextN s) m).map byteV)):=hid ⟨own_below R5.out.1 hb6,h6⟩;have H6:=hid (And.intro (H5.out.1.ext hb6) (And.intro H5.out.2.1 (H5.out.2.2.trans ((Kept.of_ext hb6).mono fun _ _ h=>h.elim))));have hs6:=hb6.size;have hg76:=lt_block q6
   clear h6 hb6 q5 d5 gx5 H5 R5 x0 x1 x2 x3 x4 x5 x6 k0 k1 k2 k3 k4 kf kf4 d0 HB;obtain⟨k0,k1,k2,k3,k4,kf⟩:=cells5 q6;have kf4:=kf 4;obtain⟨d0,_⟩:=cells1 d6
   go_upto_region 7 with fail
   generalize w6.setCell ⟨g7,4,none⟩ (.slice A6 42 c6)=w7 at *;have d7:=(hk7.block _ (lt_block d6) (by omega)).trans d6;have R7:Hid (w7.ownsRow w.heap.size 9 1 (.slice Am 1 cm) 1 ([exL].map strV)∧w7.ownsRow w5.heap.size 5 1 (.slice A6 42 c6) 42 ((soaD (nextN s) m).map byteV)):=hid ⟨row_store R6.out.1 q6 (by decide) hk7,row_store R6.out.2 q6 (by decide) hk7⟩
   have hk07:Kept S w w7:=H6.out.2.2.then hk7 fun i hi e=>by omega
   have HP:=(H6.out.1.other q6 (by unfold farT;decide) hk7).put Am [exL] cm A6 (soaD (nextN s) m) c6 6 ttl (cs_own R7.out.1).2 (by rw[soaD_len];exact own_base R7.out.2 (Nat.zero_le _)) (soaD (nextN s) m) (soa_rec (nextN_lt hs) hm (own_caps R7.out.1).1 (own_caps R7.out.1).2 (own_caps R7.out.2).1 (own_caps R7.out.2).2) exL_small (Nat.le_refl _) exL_low (by omega) (by omega)
   rw[exL_low,(next_step hF (nextN s) m ttl).2,soaD_len]at HP;have HP:=hid HP;have H7:=hid (And.intro H6.out.2.1 hk07);clear hk7 q6 d6 H6 R6 R7 hk07 k0 k1 k2 k3 k4 kf kf4 d0;obtain⟨k0,k1,k2,k3,k4,_⟩:=cells5 q7;obtain⟨d0,_⟩:=cells1 d7;go_wp2_with fail;refine HP.out.mono ?_;rintro e w8 ⟨S2,N2,T2,rfl,hz2,hN2,hT2,hk2,hS2⟩;have hsz7:=H7.out.2.size
   have hK:Kept S w w8:=H7.out.2.then hk2 fun i hi e=>by
    rcases H7.out.1 i e with e|e
    ·exact e
    ·omega
   have hS:∀k,S2 k→S k∨w.heap.size≤k:=fun k hk=>by
    rcases hS2 k hk with e|e
    ·rcases H7.out.1 k e with e|e
     ·exact .inl e
     ·exact .inr (by omega)
    ·exact .inr (by omega)
   have HE:=hid (And.intro hz2 (And.intro hK hS));clear hz2 hK hS hk2 hS2;go_wp2_with fail
   go_end0
   refine⟨rfl,S2,N2,T2, ?_,by omega,by omega,HE.out.2.1,HE.out.2.2⟩;unfold nextC;rw[if_pos rfl];exact HE.out.1
 ·have hne:((s:Int) !=(old:Int))=true:=by simpa using fun e:(s:Int)=old=>hso (by exact_mod_cast e)
  go_wp2_with fail;refine bodyPost_ret (v:=.tuple #[]) (results_none rfl _ _ _) rfl ⟨rfl,S,N,T, ?_,by omega,Nat.le_refl _,(Kept.of_ext hbB).mono fun _ _ h=>h.elim,fun k hk=>.inl hk⟩;unfold nextC;rw[if_neg hso];exact HZ.out.ext hbB
theorem arr1{cs:Array Value}(h:cs.size=1):∃a,cs= #[a]:=by
 refine⟨cs[0], ?_⟩;apply Array.ext
 ·simp[h]
 ·intro i h1 h2;have:i < 1:=by omega
  rcases i with _|i
  all_goals first|rfl|omega
def heldB(n:List Lab)(t:Int):Bool:=same n [exL]&&(t==6||t==2)
theorem UHeld(a:Nat)(b:Bool)(t:Int)(w:World)(h:w.heap[a]? =some (.cells #[.bool b] 4 (0,0))):
 Calls prog 144 #[.int .u16 t,.pointer (some ⟨a,0,none⟩)] w fun e w'=>e=.returned (.bool (b&&(t==6||t==2)))∧w=w':=by
 obtain⟨h0,_⟩:=cells1 h;go_enter func144,ntmps144;cases b with
 |false=>
  go_wp2_with fail;go_ret;exact⟨rfl,rfl⟩
 |true=>
  by_cases h1:t=6
  ·subst h1;go_wp2_with fail;go_ret;exact⟨rfl,rfl⟩
  ·have b1:(t==6)=false:=by simpa using h1
   by_cases h2:t=2
   ·subst h2;go_wp2_with fail;go_ret;exact⟨rfl,rfl⟩
   ·have b2:(t==2)=false:=by simpa using h2
    go_wp2_with fail;go_ret;exact⟨by rw[b1,b2];rfl,rfl⟩
def cutC(F:Cont)(n:List Lab)(p:Int→Bool):Cont:=fun a b=>if a=n∧p b=true then none else F a b
theorem cutC_step{F:Cont}{n:List Lab}{p q:Int→Bool}{t:Int}(h:∀b,q b=(p b||b==t)):updC (cutC F n p) n t none=cutC F n q:=by
 funext a b;unfold cutC;by_cases e:a=n∧b=t
 ·rw[e.1,e.2,updC_at,if_pos ⟨rfl,by rw[h];simp⟩]
 ·rw[updC_ne _ _ e];by_cases e2:a=n∧p b=true
  ·rw[if_pos e2,if_pos ⟨e2.1,by rw[h,e2.2];rfl⟩]
  ·rw[if_neg e2,if_neg];rintro⟨h1,h2⟩;rw[h,Bool.or_eq_true]at h2;rcases h2 with h2|h2
   ·exact e2 ⟨h1,h2⟩
   ·exact e ⟨h1,by simpa using h2⟩
theorem cutC_none(F:Cont)(n:List Lab):cutC F n (fun _=>false)=F:=by
 funext a b;unfold cutC;rw[if_neg (by simp)]
theorem cutC_same{F:Cont}{n:List Lab}{p q:Int→Bool}(h:∀b,F n b≠none→p b=q b):cutC F n p=cutC F n q:=by
 funext a b;unfold cutC;by_cases e:a=n
 ·subst e;by_cases e2:F a b=none
  ·rw[e2];simp
  ·rw[h b e2]
 ·rw[if_neg (fun h=>e h.1),if_neg (fun h=>e h.1)]
def dropD(F:Cont)(n:List Lab)(t cl:Int)(d:Lab):Cont:=
 if cl=255 then(if t=255 then cutC F (lower n) (fun b=> !heldB n b)else if heldB n t then F else updC F (lower n) t none)
 else if t=6 then F else match F (lower n) t with
  |none=>F
  |some (_,ds)=>if !heldB n t||decide (1 < ds.length)then(dropC F (lower n) t (canonD t d)).1 else F
structure ZoTo(w w':World)(B z:Nat)(S:Nat→Prop)(F':Cont)(N T k:Nat):Prop where
 ex:∃S' N' T',Zo w' B z S' [exL] F' N' T'∧N'≤N+k∧T'≤T∧Kept S w w'∧∀i,S' i→S i∨w.heap.size≤i
theorem UDrop(w:World)(B z:Nat)(S:Nat→Prop)(F:Cont)(N T:Nat)(h:Zo w B z S [exL] F N T)(hN:N≤1900000000000)(hT:T≤900)(h12:Few12 F)(hsc:ShortC F)(h255:∀n,F n 255=none)(Bu:Nat)(An:Option Addr)(n:List Lab)(cn:Nat)(t cl ttl:Int)(Ad:Option Addr)(d:Lab)(cd:Nat)
 (hAn:w.ownsRow Bu 9 1 (.slice An n.length cn) n.length (n.map strV)) (hAd:w.ownsRow Bu 5 1 (.slice Ad d.length cd) d.length (d.map byteV))
 (hn:Small n) (hne:nameE n=0) (hwi:within n [exL]=true) (hwt:(Lit.int .u16 t).wf=true) (hcl:cl=255∨cl=254∧t≠255∧easyT t∧chk t d=true∧d.length≤100000):
 Calls prog 96 #[.agg #[.pointer (some ⟨z,0,none⟩)],.agg #[.slice An n.length cn,.int .u16 t,.int .u16 cl,.int .u32 ttl,.slice Ad d.length cd]] w fun e w'=>e=.returned (.tuple #[])∧ZoTo w w' B z S (dropD F n t cl d) N T 24000:=by
 have hmf:∀(fn:Fn) (first cap:Array Value) (w:World),(Instr.makeFunc fn first cap).run prog w=.ok (.func fn first cap) w:=fun _ _ _ _=>rfl;have b1:Below w.heap.size w (w.alloc (.cells #[.pointer (some ⟨z,0,none⟩)] 156)):=bAl;have c1:=heap_alloc_new w (.cells #[.pointer (some ⟨z,0,none⟩)] 156)
 have s1:(w.alloc (.cells #[.pointer (some ⟨z,0,none⟩)] 156)).heap.size=w.heap.size+1:=by simp
 generalize hw1:w.alloc (.cells #[.pointer (some ⟨z,0,none⟩)] 156)=w1 at b1 c1 s1;have b2:Below w1.heap.size w1 (w1.alloc (.cells #[.slice An n.length cn,.int .u16 t,.int .u16 cl,.int .u32 ttl,.slice Ad d.length cd] 39)):=bAl;have c2:=heap_alloc_new w1 (.cells #[.slice An n.length cn,.int .u16 t,.int .u16 cl,.int .u32 ttl,.slice Ad d.length cd] 39)
 generalize hw2:w1.alloc (.cells #[.slice An n.length cn,.int .u16 t,.int .u16 cl,.int .u32 ttl,.slice Ad d.length cd] 39)=w2 at b2 c2;rw[s1]at c2;have c12:=(b2.block _ (lt_block c1)).trans c1;have b12:Below w.heap.size w w2:=b1.trans (b2.mono b1.size);obtain⟨d0,_⟩:=cells1 c12;obtain⟨r0,r1,r2,r3,r4,_⟩:=cells5 c2;have hd0:=lt_block c12;have hr0:=lt_block c2;have HZ:=hid h
 have HR:=hid (And.intro (own_below hAn b12) (own_below hAd b12));have HLT:Hid (∀k,S k→k < w.heap.size):=hid fun k hk=>(h.lt hk).1;have HC:=hid (And.intro c12 c2);clear h hAn hAd b1 b2 c1 c2 c12;go_enter func96,ntmps96
 go_upto_region 1 with fail
 try rw[hw1,hw2]
 clear hw1 hw2 s1
 refine wp_region_m4 mixed0 (by kernel_rfl) (4) 7 6 5 (by decide) (by decide) (by kernel_rfl) (by kernel_rfl) [.is (.pointer (some ⟨w.heap.size+1,0,none⟩)),.is (.slice An n.length cn),.is (.pointer (some ⟨w.heap.size,0,none⟩)),.is (.pointer (some ⟨z,0,none⟩)),.own w.heap.size 9 1 1 ([exL].map strV),.is (.bool (same n [exL])),newF 4 w2.heap.size 1,.any] rfl (List.forall_mem_cons.2 ⟨StM.is _ _,(List.forall_mem_cons.2 ⟨StM.is _ _,(List.forall_mem_cons.2 ⟨StM.is _ _,(List.forall_mem_cons.2 ⟨StM.is _ _,(List.forall_mem_cons.2 ⟨StM.own (by decide),(List.forall_mem_cons.2 ⟨StM.is _ _,(List.forall_mem_cons.2 ⟨StM.new,(List.forall_mem_cons.2 ⟨StM.any _,(fun _ h=>nomatch h)⟩)⟩)⟩)⟩)⟩)⟩)⟩)⟩) (fun v cs=>cs= #[v]) ?_ ?_ ?_ (by decide)
 ·intro i o hio his vals W hE haf;have e0:=(bcl (o:=0) hE hd0).trans d0;have e1:=(bcl (o:=0) hE hr0).trans r0;have hbW:Below w.heap.size w W:=b12.trans (hE.mono b12.size);rcases i with _|_|_|_|_|_|_|_|i
  all_goals first
   |(exfalso;simp at hio;done)
   |exact absurd rfl his
   |(simp at hio;subst hio;simp[bindD,rdB,Region.binds,factAt]at haf;simp[opU,go_sem,haf,e0,e1,Ext.refl,factAt];done)
   |skip
  all_goals
   simp at hio;subst hio;simp[bindD,rdB,Region.binds,factAt]at haf
  ·simp[opU,go_sem,haf,e0,e1,Ext.refl,factAt];refine((HZ.out.ext hbW).apex (by decide)).mono fun e W' h=> ?_;obtain⟨v,h1,h2,h3⟩:=h;exact⟨v,h1,h3,own_base h2 hbW.size⟩
  ·obtain⟨h1,h3⟩:=haf;obtain⟨A1,c1,h4,_⟩:=own_form h3;rw[h4]at h3;simp[opU,go_sem,h1,h4,factAt];exact(Same An A1 n [exL] cn c1 W ((cs_own HR.out.1).2.below hE) (cs_own h3).2 hn.few exL_small.few).mono fun e W' h=>⟨h.2,h.1⟩
  ·simp[opU,go_sem,haf,e0,e1,Ext.refl,factAt];exact⟨bAl,_,_,rfl,hE.size,heap_alloc_new _ _,rfl⟩
 ·intro o hio vals W hE haf;simp at hio;subst hio;simp[bindD,rdB,Region.binds,factAt]at haf;obtain⟨⟨g,cs,h5,h6,h7,h8⟩,h1⟩:=haf;obtain⟨x0,rfl⟩:=arr1 h8;obtain⟨y0,yf⟩:=cells1 h7;simp[opU,go_sem,h1,h5,y0,yf,factAt]
  exact⟨g,_,_,rfl,h6,h7,heap_set (i:=0) (v:=.bool (same n [exL])) h7,rfl,(Kept.refl (fun k=>k=g) W).setCell (p:=⟨g,0,none⟩) (fun _=>rfl) _,rfl⟩
 ·intro vals W hE hR hS;have f5:vals 5=.bool (same n [exL]):=hR 5 (by decide);obtain⟨g,cs,e6,hg,q4,e5⟩:=hS;rw[f5]at e5;subst e5;have hbW:=b12.trans (hE.mono b12.size);have HRW:=hid (And.intro (own_below HR.out.1 hE) (own_below HR.out.2 hE));have hZW:=HZ.out.ext hbW;have d0:=(bcl (o:=0) hE hd0).trans d0;have r0:=(bcl (o:=0) hE hr0).trans r0;have r1:=(bcl (o:=1) hE hr0).trans r1
  have r2:=(bcl (o:=2) hE hr0).trans r2;have r3:=(bcl (o:=3) hE hr0).trans r3;have r4:=(bcl (o:=4) hE hr0).trans r4;have HCW:=hid (And.intro ((hE.block _ (lt_block HC.out.1)).trans HC.out.1) ((hE.block _ (lt_block HC.out.2)).trans HC.out.2));have hgl:=lt_block q4;have hHS:w.heap.size+2≤g:=by omega
  have HSW:Hid (Kept S w W):=hid ((Kept.of_ext hbW).mono fun _ _ h=>h.elim);have HHB:Hid (∀t,(same n [exL]&&(t==6||t==2))=heldB n t):=hid fun _=>rfl;have HQ4:=hid q4;simp[relAct,dstAt,Act.put];rw[e6];clear hE hR HR HC e6 f5 q4 hd0 hr0;generalize same n [exL]=ap at *;rcases hcl with rfl|⟨rfl,h255t,hea,hchk,hdl⟩
  ·by_cases ht:t=255
   ·subst ht;have HD:Hid (dropD F n 255 255 d=cutC F (lower n) (fun b=> !heldB n b)):=hid (by simp[dropD]);have HT:=hid (hZW.types An n cn (cs_own HRW.out.1).2 hn hne h12);go_wp2_with fail;refine HT.out.mono ?_;rintro e w3 ⟨v,ys,rfl,hsrt,hty,hyl,hrow,hb3⟩;obtain⟨At,ct,rfl,_⟩:=own_form hrow;have hnS:∀k,w.heap.size≤k→¬S k:=fun k hk e=>by have:=HLT.out k e;omega
    have hsW:=hbW.size;have h3W:=hb3.size;have hKW3:Kept S W w3:=(Kept.of_ext hb3).mono fun _ _ h=>h.elim;have HROW:=hid hrow;have HTY:=hid hty;have HGO:Hid (∀y∈ys,(Lit.int .u16 (y:Int)).wf=true∧¬(y:Int)=255):=hid fun y hy=>by
     have h1:=(hty (y:Int)).2 ⟨y,hy,rfl⟩;cases h2:F (lower n) (y:Int)with
     |none=>exact absurd h2 h1
     |some x=>
      obtain⟨a,b⟩:=x;refine⟨(hZW.good h2).2.1,fun e=> ?_⟩;rw[e,h255]at h2;cases h2
    have HZ3:=hid (hZW.ext hb3);have HZS:=hid hZW.zonal;have hapn:1≤n.length:=((within_iff n [exL]).1 hwi).1;clear hrow hty hsrt hb3 HT hbW hZW d0 r0 r1 r2 r3 r4;dsimp only
    go_upto_region 8 with fail
    go_loopw [60] (fun i wr=>∃k:Nat,k≤ys.length∧i=.int .i64 (k:Int)∧Kept S W wr∧∃S' N' T',Zo wr B z S' [exL] (cutC F (lower n) (fun b=>(ys.take k).any (fun y=>(y:Int)==b)&& !heldB n b)) N' T'∧N'≤N+2000 *k∧T'≤T∧(∀i,S' i→S i)∧W.heap.size≤wr.heap.size∧wr.ownsRow W.heap.size 36 1 (.slice At ys.length ct) ys.length (ys.map u16V)) (fun i _=>ys.length - (intOf i).toNat)
    case atStart=>
     refine⟨0,Nat.zero_le _,rfl,hKW3,S,N,T, ?_,by omega,Nat.le_refl _,fun _ h=>h,h3W,HROW.out⟩;have:cutC F (lower n) (fun b=>(ys.take 0).any (fun y=>(y:Int)==b)&& !heldB n b)=F:=by
      rw[show(fun b:Int=>(ys.take 0).any (fun y=>(y:Int)==b)&& !heldB n b)=fun _=>false from rfl,cutC_none]
     rw[this];exact HZ3.out
    case round=>
     obtain⟨k,hk,rfl,hKr,S',N',T',hzr,hN',hT',hS',hWr,hrowr⟩:=hrel;by_cases hlt:k < ys.length
     ·obtain⟨bt,ot,rfl,hbt,hct⟩:=(cs_own hrowr).2 k (u16V ys[k]) (by simp[hlt]);have hmem:=List.getElem_mem hlt;have HTK:Hid (∀y,ys[k]=y→∀b:Int,((ys.take (k+1)).any (fun y=>(y:Int)==b))=(((ys.take k).any (fun y=>(y:Int)==b))||b==(y:Int))):=hid (by
       rintro y rfl b;rw[List.take_succ_eq_append_getElem hlt,List.any_append];simp only[List.any_cons,List.any_nil,Bool.or_false];congr 1;exact Bool.beq_comm)
      have HTK:=hid (HTK.out _ rfl);have hgo:=HGO.out _ hmem;generalize ys[k]=y at *;unfold u16V at hct;have q4r:=(hKr.block _ hgl (hnS _ (by omega))).trans HQ4.out;have b0:=(hKr.block _ (lt_block HCW.out.1) (hnS _ (Nat.le_refl _))).trans HCW.out.1;have b1:=(hKr.block _ (lt_block HCW.out.2) (hnS _ (by omega))).trans HCW.out.2;obtain⟨d0,_⟩:=cells1 b0;obtain⟨r0,r1,r2,r3,r4,_⟩:=cells5 b1
      have HH:=hid (UHeld g ap (y:Int) wr q4r);rw[HHB.out]at HH;have HZR:=hid (And.intro hzr (And.intro hKr (And.intro hS' hrowr)));clear hzr hKr hS' hrowr q4r b0 b1;cases hh:heldB n (y:Int)with
      |true=>
       rw[hh]at HH;go_wp2_with fail;refine HH.out.mono ?_;rintro e w4 ⟨rfl,rfl⟩;go_wp2_with fail
       go_roundw
       case rel=>
        refine⟨k+1,hlt,by go_num,HZR.out.2.1,S',N',T', ?_,by omega,hT',HZR.out.2.2.1,hWr,HZR.out.2.2.2⟩;rw[show cutC F (lower n) (fun b=>(ys.take (k+1)).any (fun y=>(y:Int)==b)&& !heldB n b)=cutC F (lower n) (fun b=>(ys.take k).any (fun y=>(y:Int)==b)&& !heldB n b)from by
         congr 1;funext b;rw[HTK.out];by_cases e:b=(y:Int)
         ·subst e;rw[hh];simp
         ·have:(b==(y:Int))=false:=by simpa using e
          rw[this,Bool.or_false]]
        exact HZR.out.1
       case measure=>simp[intOf];omega
      |false=>
       rw[hh]at HH;go_wp2_with fail;refine HH.out.mono ?_;rintro e w4 ⟨rfl,rfl⟩;have hAr:=row_zonal HRW.out.1 HZR.out.2.1 HZS.out zT_str;have HP:=hid (HZR.out.1.dropSet An n cn (y:Int) (own_base hAr (Nat.zero_le _)) hn hne hgo.1 (Nat.le_refl 1) hapn (by omega) (by omega) hgo.2);clear hAr HH;go_wp2_with fail;refine HP.out.mono ?_;rintro e w5 ⟨S2,N2,T2,rfl,hz2,hN2,hT2,hk2,hS2⟩
       have hk25:Kept S W w5:=HZR.out.2.1.then hk2 fun i _ e=>HZR.out.2.2.1 i e;have hrow5:=Kept.row HZR.out.2.2.2 hk2 (fun i hi e=>by
        have h1:=(HZR.out.2.2.2.lt i hi).1;have h2:=HLT.out i (HZR.out.2.2.1 i e);omega)
       have hs5:=hk2.size;have HE:=hid (And.intro hz2 (And.intro hk25 (And.intro hrow5 (fun i e=>HZR.out.2.2.1 i (hS2 i e)))));clear hz2 hk2 hS2 hk25 hrow5;go_wp2_with fail
       go_roundw
       case rel=>
        refine⟨k+1,hlt,by go_num,HE.out.2.1,S2,N2,T2, ?_,by omega,by omega,HE.out.2.2.2,by omega,HE.out.2.2.1⟩;rw[←cutC_step (p:=fun b=>(ys.take k).any (fun y=>(y:Int)==b)&& !heldB n b) (t:=(y:Int)) fun b=> ?_]
        ·exact HE.out.1
        ·rw[HTK.out];by_cases e:b=(y:Int)
         ·subst e;rw[hh];simp
         ·have:(b==(y:Int))=false:=by simpa using e
          rw[this,Bool.or_false,Bool.or_false]
       case measure=>simp[intOf];omega
     ·have HE:=hid (And.intro hzr (And.intro hKr hS'));clear hzr hKr hS' hrowr;go_wp2_with fail
      go_end0
      refine⟨rfl,⟨S',N',T', ?_,by omega,hT',HSW.out.trans HE.out.2.1,fun i hi=>.inl (HE.out.2.2 i hi)⟩⟩;rw[HD.out,←cutC_same (p:=fun b=>(ys.take k).any (fun y=>(y:Int)==b)&& !heldB n b) fun b hb=> ?_]
      ·exact HE.out.1
      ·obtain⟨y,hy,e⟩:=(HTY.out b).1 hb;have:((ys.take k).any fun y=>(y:Int)==b)=true:=by
        rw[List.take_of_length_le (by omega),List.any_eq_true];exact⟨y,hy,by simpa using e⟩
       rw[this,Bool.true_and]
   ·have htb:(t==255)=false:=by simpa using ht
    have HH:=hid (UHeld g ap t W HQ4.out);rw[HHB.out]at HH;cases hh:heldB n t with
    |true=>
     have HD:Hid (dropD F n t 255 d=F):=hid (by simp[dropD,ht,hh]);rw[hh]at HH;have HF:=hid hZW;clear hZW;go_wp2_with fail;refine HH.out.mono ?_;rintro e w4 ⟨rfl,rfl⟩;go_wp2_with fail
     go_end0
     refine⟨rfl,⟨S,N,T, ?_,by omega,Nat.le_refl _,HSW.out,fun i hi=>.inl hi⟩⟩;rw[HD.out];exact HF.out
    |false=>
     have HD:Hid (dropD F n t 255 d=updC F (lower n) t none):=hid (by simp[dropD,ht,hh]);rw[hh]at HH;have HP:=hid (hZW.dropSet An n cn t (own_base HRW.out.1 (Nat.zero_le _)) hn hne hwt (Nat.le_refl 1) ((within_iff n [exL]).1 hwi).1 (by omega) (by omega) ht);clear hZW;go_wp2_with fail;refine HH.out.mono ?_;rintro e w4 ⟨rfl,rfl⟩;go_wp2_with fail;refine HP.out.mono ?_
     rintro e w5 ⟨S2,N2,T2,rfl,hz2,hN2,hT2,hk2,hS2⟩;have HE:=hid (And.intro hz2 (And.intro hk2 hS2));clear hz2 hk2 hS2;go_wp2_with fail
     go_end0
     refine⟨rfl,⟨S2,N2,T2, ?_,by omega,by omega,HSW.out.trans HE.out.2.1,fun i hi=>.inl (HE.out.2.2 i hi)⟩⟩;rw[HD.out];exact HE.out.1
  ·by_cases h6:t=6
   ·subst h6;have HD:Hid (dropD F n 6 254 d=F):=hid (by simp[dropD]);have HF:=hid hZW;clear hZW;go_wp2_with fail
    go_end0
    refine⟨rfl,⟨S,N,T, ?_,by omega,Nat.le_refl _,HSW.out,fun i hi=>.inl hi⟩⟩;rw[HD.out];exact HF.out
   ·have h6b:(t==6)=false:=by simpa using h6
    cases hF:F (lower n) t with
    |none=>
     have HD:Hid (dropD F n t 254 d=F):=hid (by simp[dropD,h6,hF]);have HS:=hid (hZW.set_none An n cn t (cs_own HRW.out.1).2 hn hne hwt hF);have HF:=hid hZW;clear hZW;go_wp2_with fail;refine HS.out.mono ?_;rintro e w4 ⟨rfl,hb4⟩;have hb5:Below W.heap.size W (w4.alloc (.cells #[.slice none 0 0,.int .u16 0,.int .u32 0,.slice none 0 0] 54)):=hb4.alloc hb4.size _;go_wp2_with fail
     go_end0
     refine⟨rfl,⟨S,N,T, ?_,by omega,Nat.le_refl _,HSW.out.trans ((Kept.of_ext hb5).mono fun _ _ h=>h.elim),fun i hi=>.inl hi⟩⟩;rw[HD.out];exact HF.out.ext hb5
    |some x=>
     obtain⟨ttl0,ds⟩:=x;have HS:=hid (hZW.set_some An n cn t (cs_own HRW.out.1).2 hn (by omega) hF (hsc _ _ _ _ hF));have HF:=hid hZW;clear hZW;have HDD:Hid (dropD F n t 254 d=if !heldB n t||decide (1 < ds.length)then(dropC F (lower n) t (canonD t d)).1 else F):=hid (by
      unfold dropD;rw[if_neg (by decide),if_neg h6];simp only[hF])
     go_upto_region 3 with fail
     clear d0 r0 r1 r2 r3 r4;obtain⟨d0,_⟩:=cells1 HCW.out.1;obtain⟨r0,r1,r2,r3,r4,_⟩:=cells5 HCW.out.2;go_wp2_with fail;refine HS.out.mono ?_;rintro e w4 ⟨hb4,Am,cm,Ad',cd',bl,rfl,_⟩;have hb5:Below W.heap.size W (w4.alloc (.cells #[.slice Am n.length cm,.int .u16 t,.int .u32 ttl0,.slice Ad' ds.length cd'] 54)):=hb4.alloc hb4.size _
     have q5:=heap_alloc_new w4 (.cells #[.slice Am n.length cm,.int .u16 t,.int .u32 ttl0,.slice Ad' ds.length cd'] 54);dsimp only;clear d0 r0 r1 r2 r3 r4
     go_upto_region 4 with fail
     generalize w4.alloc (.cells #[.slice Am n.length cm,.int .u16 t,.int .u32 ttl0,.slice Ad' ds.length cd'] 54)=w5 at *;generalize w4.heap.size=g5 at *;have q45:=(hb5.block _ hgl).trans HQ4.out;have b0:=(hb5.block _ (lt_block HCW.out.1)).trans HCW.out.1;have b1:=(hb5.block _ (lt_block HCW.out.2)).trans HCW.out.2;obtain⟨d0,_⟩:=cells1 b0;obtain⟨r0,r1,r2,r3,r4,_⟩:=cells5 b1
     obtain⟨p0,p1,p2,p3,_⟩:=cells4 q5;have HH:=hid (UHeld g ap t w5 q45);rw[HHB.out]at HH;have hrec:=(rec_of (cn:=cn) (cd:=cd) hn hne hwi hea hwt hchk hdl (own_caps HRW.out.1).1 (own_caps HRW.out.1).2 (own_caps HRW.out.2).1 (own_caps HRW.out.2).2).to
     have HP:=hid ((HF.out.ext hb5).drop An n cn Ad d cd t 254 ttl (own_base (own_below HRW.out.1 hb5) (Nat.zero_le _)) (own_base (own_below HRW.out.2 hb5) (Nat.zero_le _)) (canonD t d) hrec (Nat.le_refl 1) ((within_iff n [exL]).1 hwi).1 (by omega) hT);have HS5:Hid (Kept S w w5):=hid (HSW.out.trans ((Kept.of_ext hb5).mono fun _ _ h=>h.elim));have HF5:=hid (HF.out.ext hb5)
     have hs5:w.heap.size≤w5.heap.size:=HS5.out.size;clear hrec q45 b0 b1 q5 hb5 hb4 hbW;cases hh:heldB n t with
     |false=>
      rw[hh]at HH HDD;simp only[Bool.not_false,Bool.true_or,if_true]at HDD;go_wp2_with fail;refine HH.out.mono ?_;rintro e w6 ⟨rfl,rfl⟩;go_wp2_with fail;refine HP.out.mono ?_;rintro e w7 ⟨S2,N2,T2,rfl,hz2,hN2,hT2,hk2,hS2⟩;have HE:=hid (And.intro hz2 (And.intro hk2 hS2));clear hz2 hk2 hS2;go_wp2_with fail
      go_end0
      refine⟨rfl,⟨S2,N2,T2, ?_,by omega,by omega,HS5.out.trans HE.out.2.1,fun i hi=> ?_⟩⟩
      ·rw[HDD.out];exact HE.out.1
      ·rcases HE.out.2.2 i hi with e|e
       ·exact .inl e
       ·exact .inr (by omega)
     |true=>
      rw[hh]at HH HDD;by_cases hl:1 < ds.length
      ·have hlb:(1:Int) < (ds.length:Int):=by omega
       rw[show(!true ||decide (1 < ds.length))=true from by simpa using hl,if_pos rfl]at HDD;go_wp2_with fail;refine HH.out.mono ?_;rintro e w6 ⟨rfl,rfl⟩;go_wp2_with fail;refine HP.out.mono ?_;rintro e w7 ⟨S2,N2,T2,rfl,hz2,hN2,hT2,hk2,hS2⟩;have HE:=hid (And.intro hz2 (And.intro hk2 hS2));clear hz2 hk2 hS2;go_wp2_with fail
       go_end0
       refine⟨rfl,⟨S2,N2,T2, ?_,by omega,by omega,HS5.out.trans HE.out.2.1,fun i hi=> ?_⟩⟩
       ·rw[HDD.out];exact HE.out.1
       ·rcases HE.out.2.2 i hi with e|e
        ·exact .inl e
        ·exact .inr (by omega)
      ·have hlb:¬(1:Int) < (ds.length:Int):=by omega
       rw[show(!true ||decide (1 < ds.length))=false from by simpa using hl,if_neg (by decide)]at HDD;go_wp2_with fail;refine HH.out.mono ?_;rintro e w6 ⟨rfl,rfl⟩;go_wp2_with fail
       go_end0
       refine⟨rfl,⟨S,N,T, ?_,by omega,Nat.le_refl _,HS5.out,fun i hi=>.inl hi⟩⟩;rw[HDD.out];exact HF5.out
theorem IndexU(A:Option Addr)(ys:List Nat)(cap:Nat)(t:Int)(w:World)(hc:Cs w A (ys.map u16V))(hl:ys.length≤100000):
 Calls prog 191 #[.slice A ys.length cap,.int .u16 t] w fun e w'=>w=w'∧∃i:Int,e=.returned (.int .i64 i)∧(0≤i↔∃y∈ys,(y:Int)=t):=by
 have HC:=hid hc;clear hc;go_enter func191,ntmps191;go_wp2_with fail
 go_loopw [8] (fun i wr=>wr=w∧∃k:Nat,k≤ys.length∧i=.int .i64 (k:Int)∧∀j (h:j < ys.length),j < k→(ys[j]:Int)≠t) (fun i _=>ys.length - (intOf i).toNat)
 case atStart=>exact⟨rfl,0,Nat.zero_le _,rfl,fun j h hj=>by omega⟩
 case round=>
  obtain⟨rfl,k,hk,rfl,hno⟩:=hrel;by_cases hlt:k < ys.length
  ·obtain⟨b,o,rfl,hb,hcell⟩:=HC.out k (u16V ys[k]) (by simp[hlt]);unfold u16V at hcell;by_cases he:(ys[k]:Int)=t
   ·have heb:(t==(ys[k]:Int))=true:=by simp[he]
    go_wp2_with fail;go_ret;exact⟨rfl,_,rfl,fun _=>⟨ys[k],List.getElem_mem hlt,he⟩,fun _=>by omega⟩
   ·have heb:(t==(ys[k]:Int))=false:=by simpa using fun e:t=_=>he e.symm
    go_wp2_with fail
    go_roundw
    case rel=>
     refine⟨trivial,k+1,hlt,by go_num,fun j h hj=> ?_⟩;by_cases e:j=k
     ·subst e;exact he
     ·exact hno j h (by omega)
    case measure=>simp[intOf];omega
  ·go_wp2_with fail;go_ret;refine⟨rfl,_,rfl,fun h=>absurd h (by decide), ?_⟩;rintro⟨y,hy,e⟩;obtain⟨j,hj,rfl⟩:=List.mem_iff_getElem.1 hy;exact absurd e (hno j hj (by omega))
theorem ContainsU(A:Option Addr)(ys:List Nat)(cap:Nat)(t:Int)(w:World)(hc:Cs w A (ys.map u16V))(hl:ys.length≤100000):
 Calls prog 142 #[.slice A ys.length cap,.int .u16 t] w fun e w'=>w=w'∧∃b,e=.returned (.bool b)∧(b=true↔∃y∈ys,(y:Int)=t):=by
 have HI:=hid (IndexU A ys cap t w hc hl);clear hc;go_enter func142,ntmps142;go_wp2_with fail;refine HI.out.mono ?_;rintro e w1 ⟨rfl,i,rfl,hi⟩;have HH:=hid hi;clear hi;go_wp2_with fail;go_ret;exact⟨rfl,_,rfl,by rw[decide_eq_true_iff];exact HH.out⟩
end Nm
end Go.Proofs.YtmbdoacafhljkaaGreat
