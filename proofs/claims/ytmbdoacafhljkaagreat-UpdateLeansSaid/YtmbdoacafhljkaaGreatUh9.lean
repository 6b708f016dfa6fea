/- Texts merged by a program: RefP, Seat3, Rec, PutF, PutA, PutN, PutO, Has, K15, Seat4, ZOrdP, GDel, ZDel, GGone, Gz4. -/
import Derived.Deep.DeepAppendRoom
import Derived.Test.YtmbdoacafhljkaaGreatUh1
import Derived.Test.YtmbdoacafhljkaaGreatUh2
import Derived.Test.YtmbdoacafhljkaaGreatUh3
import Derived.Test.YtmbdoacafhljkaaGreatUh4
import Derived.Test.YtmbdoacafhljkaaGreatUh5
import Derived.Test.YtmbdoacafhljkaaGreatUh8
set_option linter.unusedSimpArgs false
set_option linter.unusedVariables false
set_option maxRecDepth 1000000
set_option maxHeartbeats 20000000
open Go.Proofs.Tryz
namespace Go.Proofs.YtmbdoacafhljkaaGreat
open Go.RowKit
namespace Nm
theorem RPut4(B:Nat)(v:Value)(m:Nat)(xs:Lab)(n:Nat)(w:World)(hown:w.ownsRow B 5 1 v m (xs.map byteV))(hB:B≤w.heap.size)(hm:m≤100000000)(hn:n < 4294967296):
 Calls prog 190 #[v,.int .u32 n,.int .i64 4] w fun e w'=>∃v',e=.returned v'∧w'.ownsRow B 5 1 v' (m+4) ((xs++be4 n).map byteV)∧Moved v w v' w':=by
 obtain⟨i0,hi,hz0,hz1,hz2⟩:=info_parts info_u8;have tok1:True:=trivial;have tok2:True:=trivial;have tok3:True:=trivial;have tok4:True:=trivial;go_enter func190,ntmps190;go_wp2_with fail;refine wp_loop_rounds 5 ?_;rw[rounds_succ]
 go_wp2_with (first|(at_builtin;have _t:=tok1;refine wpList_push3 hown hB [.int .u8 ((n:Int) / 16777216)] rfl (by simp[Value.oneCell']) hi hz0 hz1 hz2 rfl (by decide) rfl (.tmp 14) _ 37 underlying37 rfl rfl rfl (by unfold maxLen;omega) (by omega) ?_;intro v1 w1 hown1 hbw1;clear tok1;have hbs1:=hbw1.kept.size))
 have hB1:=Nat.le_trans hB hbs1;rw[rounds_succ]
 go_wp2_with (first|(at_builtin;have _t:=tok2;refine wpList_push3 hown1 hB1 [.int .u8 ((n:Int) / 65536 %256)] rfl (by simp[Value.oneCell']) hi hz0 hz1 hz2 rfl (by decide) rfl (.tmp 14) _ 37 underlying37 rfl rfl rfl (by unfold maxLen;omega) (by omega) ?_;intro v2 w2 hown2 hbw2;clear tok2;have hbs2:=Nat.le_trans hbs1 hbw2.kept.size))
 have hB2:=Nat.le_trans hB hbs2;rw[rounds_succ]
 go_wp2_with (first|(at_builtin;have _t:=tok3;refine wpList_push3 hown2 hB2 [.int .u8 ((n:Int) / 256 %256)] rfl (by simp[Value.oneCell']) hi hz0 hz1 hz2 rfl (by decide) rfl (.tmp 14) _ 37 underlying37 rfl rfl rfl (by unfold maxLen;omega) (by omega) ?_;intro v3 w3 hown3 hbw3;clear tok3;have hbs3:=Nat.le_trans hbs2 hbw3.kept.size))
 have hB3:=Nat.le_trans hB hbs3;rw[rounds_succ]
 go_wp2_with (first|(at_builtin;have _t:=tok4;refine wpList_push3 hown3 hB3 [.int .u8 ((n:Int) %256)] rfl (by simp[Value.oneCell']) hi hz0 hz1 hz2 rfl (by decide) rfl (.tmp 14) _ 37 underlying37 rfl rfl rfl (by unfold maxLen;omega) (by omega) ?_;intro v4 w4 hown4 hbw4;clear tok4;have hbs4:=Nat.le_trans hbs3 hbw4.kept.size))
 have hB4:=Nat.le_trans hB hbs4;rw[rounds_succ];go_wp2_with fail;go_ret;refine⟨_,rfl, ?_,((hbw1.trans hbw2).trans hbw3).trans hbw4⟩;have e1:=byteV_mod (n / 16777216);have e2:=byteV_mod (n / 65536);have e3:=byteV_mod (n / 256);have e4:=byteV_mod n;rw[show((n / 16777216:Nat):Int) %256=(n:Int) / 16777216 from by omega]at e1;rw[show((n / 65536:Nat):Int)=(n:Int) / 65536 from by omega]at e2
 rw[show((n / 256:Nat):Int)=(n:Int) / 256 from by omega]at e3;rw[List.map_append];show w4.ownsRow B 5 1 v4 (m+1+1+1+1) (xs.map byteV++[byteV (UInt8.ofNat (n / 16777216)),byteV (UInt8.ofNat (n / 65536)),byteV (UInt8.ofNat (n / 256)),byteV (UInt8.ofNat n)]);rw[e1,e2,e3,e4];simpa[List.append_assoc]using hown4
theorem RSoaBytes(g:SoaM)(hg:g.fits)(A B:Option Addr)(ca cb:Nat)(w:World)(hA:Cs w A (g.m.map strV))(hB:Cs w B (g.x.map strV)):
 Calls prog 141 #[g.v A ca B cb] w fun e w'=>∃v,e=.returned v∧w'.ownsRow w.heap.size 5 1 v g.bytes.length (g.bytes.map byteV)∧Below w.heap.size w w':=by
 obtain⟨i0,hi,hz0,hz1,hz2⟩:=info_parts info_u8;unfold SoaM.v;have hb1:Below w.heap.size w (w.alloc (.cells #[.slice A g.m.length ca,.slice B g.x.length cb,.int .u32 g.s1,.int .u32 g.s2,.int .u32 g.s3,.int .u32 g.s4,.int .u32 g.s5] 91)):=bAl
 have hblk:=heap_alloc_new w (.cells #[.slice A g.m.length ca,.slice B g.x.length cb,.int .u32 g.s1,.int .u32 g.s2,.int .u32 g.s3,.int .u32 g.s4,.int .u32 g.s5] 91);obtain⟨k0,k1,k2,k3,k4,k5,k6,_⟩:=cells7 hblk;have hsz:(w.alloc (.cells #[.slice A g.m.length ca,.slice B g.x.length cb,.int .u32 g.s1,.int .u32 g.s2,.int .u32 g.s3,.int .u32 g.s4,.int .u32 g.s5] 91)).heap.size=w.heap.size+1:=by simp
 go_enter func141,ntmps141;go_wp2_with fail;generalize w.alloc (.cells #[.slice A g.m.length ca,.slice B g.x.length cb,.int .u32 g.s1,.int .u32 g.s2,.int .u32 g.s3,.int .u32 g.s4,.int .u32 g.s5] 91)=w1 at *;have hwm:=wire_len_few hg.m;have hwx:=wire_len_few hg.x
 have HWA:Hid (∀W,Below w1.heap.size w1 W→Calls prog 139 #[.slice A g.m.length ca] W fun e w'=>∃v,e=.returned v∧w'.ownsRow W.heap.size 5 1 v (wire g.m).length ((wire g.m).map byteV)∧Below W.heap.size W w'):=hid fun W hW=>RWire A g.m ca W ((hA.below hb1).below hW) hg.m
 have HWB:Hid (∀W,Below w1.heap.size w1 W→Calls prog 139 #[.slice B g.x.length cb] W fun e w'=>∃v,e=.returned v∧w'.ownsRow W.heap.size 5 1 v (wire g.x).length ((wire g.x).map byteV)∧Below W.heap.size W w'):=hid fun W hW=>RWire B g.x cb W ((hB.below hb1).below hW) hg.x
 have HBY:Hid (∀a b,wire g.m=a→wire g.x=b→g.bytes=a++b++be4 g.s1++be4 g.s2++be4 g.s3++be4 g.s4++be4 g.s5):=hid fun a b h1 h2=>by rw[←h1,←h2];rfl
 clear hA hB hblk;generalize hwa:wire g.m=a at *;generalize hwb:wire g.x=b at *;have HB2:=hid (HBY.out a b rfl rfl);have HG:=hid hg;clear HBY hwa hwb hg
 refine wp_region_x (by kernel_rfl) (by kernel_rfl) w1.heap.size (Nat.le_refl _) [.c (.is (.pointer (some ⟨w.heap.size,0,none⟩))),.c (.is (.slice A g.m.length ca)),.c (.own w1.heap.size 5 1 a.length (a.map byteV)),.c (.is (.pointer (some ⟨w.heap.size,1,none⟩))),.c (.is (.slice B g.x.length cb)),.c (.own w1.heap.size 5 1 b.length (b.map byteV)),
  .c (.own w1.heap.size 5 1 (a.length+b.length) ((a++b).map byteV)),.d [6] (fun vs=>.is (vs 6))] (by kernel_rfl) (fun i=>if i=6 then 2 else 0) (fun j=>if j=2∨j=5∨j=6 then 1 else 0) (by kernel_rfl) ?_ (fun _=>True) trivial (fun _ _ _ _=>trivial) (fun _ _ _ _=>trivial) ?_ ?_
 ·intro j vals;rcases j with _|_|_|_|_|_|_|_|j
  all_goals first
   |exact plain_is _
   |exact kind_own _ _ _ _ _ _ (Nat.le_refl _)
   |(rw[if_neg (by omega)];exact plain_any)
 ·intro i o hio vals W hE haf _;have e0:=(bcl (o:=0) hE (by omega)).trans k0;have e1:=(bcl (o:=1) hE (by omega)).trans k1;rcases i with _|_|_|_|_|_|_|_|i
  all_goals first
   |(exfalso;simp at hio;done)
   |skip
  all_goals
   simp at hio;subst hio;simp[bindD,rdB,Region.binds,dfAt,DF.d_at]at haf
  all_goals first
   |(simp[opU,go_sem,haf,e0,e1,Ext.refl,dfAt,DF.d_at,kindX];done)
   |skip
  ·simp[opU,go_sem,haf,dfAt,DF.d_at,kindX];refine(HWA.out W hE).mono fun e W' h5=> ?_;obtain⟨v,he,ho,hb⟩:=h5;exact⟨v,he,hb,own_base ho hE.size⟩
  ·simp[opU,go_sem,haf,dfAt,DF.d_at,kindX];refine(HWB.out W hE).mono fun e W' h5=> ?_;obtain⟨v,he,ho,hb⟩:=h5;exact⟨v,he,hb,own_base ho hE.size⟩
  ·obtain⟨h2,h5⟩:=haf;obtain⟨A5,c5,e5,_,hc5⟩:=Cs.of_own h5;refine yield_bytes rfl (.tmp 6) (.tmp 9) underlying37 rfl (v:=vals 2) (by simp[relAct,dstAt,Act.put,Act.eval]) h2 hE.size (us:=b.map byteV) (A:=A5) (c:=c5) (by simp[relAct,dstAt,Act.put,Act.eval,e5]) hc5 (byteV_one b) (by simp;omega) ?_;intro v' W' g1 g2;refine⟨g2, ?_⟩
   show W'.ownsRow w1.heap.size 5 1 v' (a.length+b.length) ((a++b).map byteV);rw[List.map_append];simpa using g1
 ·intro vals W hE hF;have h6:=hF 6 (by show 6 < 8;omega) (by kernel_rfl);have h7:=hF 7 (by show 7 < 8;omega) (by kernel_rfl);simp only[dfAt,DF.d_at]at h6 h7;have h6:W.ownsRow w1.heap.size 5 1 (vals 6) (a.length+b.length) ((a++b).map byteV):=h6;have h7:vals 7=vals 6:=by simpa[DF.d_at]using h7
  simp[relAct,dstAt,Act.put];rw[h7];clear hF h7 HWA HWB;generalize vals 6=v6 at *;generalize vals 0=v0,vals 1=v1;generalize vals 2=v2,vals 3=v3;generalize vals 4=v4,vals 5=v5;have r2:=(bcl (o:=2) hE (by omega)).trans k2;have r3:=(bcl (o:=3) hE (by omega)).trans k3;have r4:=(bcl (o:=4) hE (by omega)).trans k4;have r5:=(bcl (o:=5) hE (by omega)).trans k5
  have r6:=(bcl (o:=6) hE (by omega)).trans k6;have hBW:=hE.size;clear k0 k1 k2 k3 k4 k5 k6;go_wp2_with fail;refine wp_region_x (by kernel_rfl) (by kernel_rfl) w1.heap.size hBW [.c (.is v6),.c (.is (.pointer (some ⟨w.heap.size,2,none⟩))),.c (.is (.int .u32 g.s1)),.c (.own w1.heap.size 5 1 (a.length+b.length+4) ((a++b++be4 g.s1).map byteV)),
   .c (.is (.pointer (some ⟨w.heap.size,3,none⟩))),.c (.is (.int .u32 g.s2)),.c (.own w1.heap.size 5 1 (a.length+b.length+4+4) ((a++b++be4 g.s1++be4 g.s2).map byteV)),
   .c (.is (.pointer (some ⟨w.heap.size,4,none⟩))),.c (.is (.int .u32 g.s3)),.c (.own w1.heap.size 5 1 (a.length+b.length+4+4+4) ((a++b++be4 g.s1++be4 g.s2++be4 g.s3).map byteV)),
   .c (.is (.pointer (some ⟨w.heap.size,5,none⟩))),.c (.is (.int .u32 g.s4)),.c (.own w1.heap.size 5 1 (a.length+b.length+4+4+4+4) ((a++b++be4 g.s1++be4 g.s2++be4 g.s3++be4 g.s4).map byteV)),
   .c (.is (.pointer (some ⟨w.heap.size,6,none⟩))),.c (.is (.int .u32 g.s5)),.c (.own w1.heap.size 5 1 (a.length+b.length+4+4+4+4+4) ((a++b++be4 g.s1++be4 g.s2++be4 g.s3++be4 g.s4++be4 g.s5).map byteV)),
   .d [15] (fun vs=>.is (vs 15))] (by kernel_rfl) (fun i=>if i=3∨i=6∨i=9∨i=12∨i=15 then 3 else 0) (fun j=>if j=3∨j=6∨j=9∨j=12∨j=15 then 3 else 0) (by kernel_rfl) ?_
   (fun W'=>W'.ownsRow w1.heap.size 5 1 v6 (a.length+b.length) ((a++b).map byteV)) h6 (fun W W' hE h=>own_below h hE) (fun W' W'' hE h=>Kept.row h (Kept.of_below hE) (fun b hb e=>by have:=(h6.lt b hb).2;omega)) ?_ ?_
  ·intro j vals;rcases j with _|_|_|_|_|_|_|_|_|_|_|_|_|_|_|_|_|j
   all_goals first
    |exact plain_is _
    |exact trivial
    |(rw[if_neg (by omega)];exact plain_any)
  ·intro i o hio vals W' hC haf hI0;have e2:=(bcl (o:=2) hC (by omega)).trans r2;have e3:=(bcl (o:=3) hC (by omega)).trans r3;have e4:=(bcl (o:=4) hC (by omega)).trans r4;have e5:=(bcl (o:=5) hC (by omega)).trans r5;have e6:=(bcl (o:=6) hC (by omega)).trans r6;have hBW':=Nat.le_trans hBW hC.size;rcases i with _|_|_|_|_|_|_|_|_|_|_|_|_|_|_|_|_|i
   all_goals first
    |(exfalso;simp at hio;done)
    |skip
   all_goals
    simp at hio;subst hio;simp[bindD,rdB,Region.binds,dfAt,DF.d_at]at haf
   all_goals first
    |(simp[opU,go_sem,haf,e2,e3,e4,e5,e6,Ext.refl,dfAt,DF.d_at,kindX];done)
    |skip
   ·have hI:=hI0 (fun k hk hk2=>by
     by_cases h3:k=3
     ·exact .inl h3
     ·by_cases h6:k=6
      ·subst h6;exact .inr (by kernel_rfl)
      ·by_cases h9:k=9
       ·subst h9;exact .inr (by kernel_rfl)
       ·by_cases h12:k=12
        ·subst h12;exact .inr (by kernel_rfl)
        ·by_cases h15:k=15
         ·subst h15;exact .inr (by kernel_rfl)
         ·exfalso;simp[h3,h6,h9,h12,h15]at hk2)
    simp[opU,go_sem,haf,dfAt,DF.d_at,kindX];refine(RPut4 w1.heap.size v6 (a.length+b.length) (a++b) g.s1 W' hI hBW' (by omega) HG.out.s1).mono fun e W'' h5=> ?_;obtain⟨v,he,ho,hm⟩:=h5;exact⟨v,he,hm.below hI hBW',by simpa[List.map_append]using ho⟩
   ·obtain⟨h3,h5⟩:=haf;have h3:W'.ownsRow w1.heap.size 5 1 (vals 3) (a.length+b.length+4) ((a++b++be4 g.s1).map byteV):=by simpa[List.map_append]using h3
    simp[opU,go_sem,h5,dfAt,DF.d_at,kindX];refine(RPut4 w1.heap.size (vals 3) _ _ g.s2 W' h3 hBW' (by omega) HG.out.s2).mono fun e W'' h5=> ?_;obtain⟨v,he,ho,hm⟩:=h5;exact⟨v,he,hm.below h3 hBW',by simpa[List.map_append]using ho⟩
   ·obtain⟨h3,h5⟩:=haf;have h3:W'.ownsRow w1.heap.size 5 1 (vals 6) (a.length+b.length+4+4) ((a++b++be4 g.s1++be4 g.s2).map byteV):=by simpa[List.map_append]using h3
    simp[opU,go_sem,h5,dfAt,DF.d_at,kindX];refine(RPut4 w1.heap.size (vals 6) _ _ g.s3 W' h3 hBW' (by omega) HG.out.s3).mono fun e W'' h5=> ?_;obtain⟨v,he,ho,hm⟩:=h5;exact⟨v,he,hm.below h3 hBW',by simpa[List.map_append]using ho⟩
   ·obtain⟨h3,h5⟩:=haf;have h3:W'.ownsRow w1.heap.size 5 1 (vals 9) (a.length+b.length+4+4+4) ((a++b++be4 g.s1++be4 g.s2++be4 g.s3).map byteV):=by simpa[List.map_append]using h3
    simp[opU,go_sem,h5,dfAt,DF.d_at,kindX];refine(RPut4 w1.heap.size (vals 9) _ _ g.s4 W' h3 hBW' (by omega) HG.out.s4).mono fun e W'' h5=> ?_;obtain⟨v,he,ho,hm⟩:=h5;exact⟨v,he,hm.below h3 hBW',by simpa[List.map_append]using ho⟩
   ·obtain⟨h3,h5⟩:=haf;have h3:W'.ownsRow w1.heap.size 5 1 (vals 12) (a.length+b.length+4+4+4+4) ((a++b++be4 g.s1++be4 g.s2++be4 g.s3++be4 g.s4).map byteV):=by simpa[List.map_append]using h3
    simp[opU,go_sem,h5,dfAt,DF.d_at,kindX];refine(RPut4 w1.heap.size (vals 12) _ _ g.s5 W' h3 hBW' (by omega) HG.out.s5).mono fun e W'' h5=> ?_;obtain⟨v,he,ho,hm⟩:=h5;exact⟨v,he,hm.below h3 hBW',by simpa[List.map_append]using ho⟩
  ·intro vals W' hC hF;have h15:=hF 15 (by show 15 < 17;omega) (by kernel_rfl);have h16:=hF 16 (by show 16 < 17;omega) (by kernel_rfl);simp only[dfAt,DF.d_at]at h15 h16;have h15:W'.ownsRow w1.heap.size 5 1 (vals 15) (a.length+b.length+4+4+4+4+4) ((a++b++be4 g.s1++be4 g.s2++be4 g.s3++be4 g.s4++be4 g.s5).map byteV):=h15;have h16:vals 16=vals 15:=by simpa[DF.d_at]using h16
   have hbF:=hb1.trans ((hE.trans hC).mono (by omega));simp[relAct,dstAt,Act.put];rw[h16];clear hF h16;generalize vals 15=v15 at *;go_wp2_with fail;go_ret;refine⟨_,rfl, ?_,hbF⟩;rw[HB2.out];have hl:(a++b++be4 g.s1++be4 g.s2++be4 g.s3++be4 g.s4++be4 g.s5).length=a.length+b.length+4+4+4+4+4:=by simp only[List.length_append];rfl
   rw[hl];exact own_base h15 (by omega)
def farL:List Lab:=[[102,97,114],[110,101,116]]
def underL(k:Nat):List Lab:=if k %7=6 then farL else owner k
theorem owner_small(k:Nat):Small (owner k):=by
 have h:∀m,m < 13→Small (ownL m++[exL]):=by
  unfold Small;decide
 exact h (k %13) (Nat.mod_lt _ (by omega))
theorem far_small:Small farL:=by unfold Small;decide
theorem under_small(k:Nat):Small (underL k):=by
 unfold underL;split
 ·exact far_small
 ·exact owner_small k
theorem Under(k:Nat)(hk:k < 256)(w:World):Calls prog 140 #[.int .u8 k] w fun e w'=>∃v,e=.returned v∧w'.ownsRow w.heap.size 9 1 v (underL k).length ((underL k).map strV)∧Below w.heap.size w w':=by
 have hrem:((k:Int).tmod 7)=((k %7:Nat):Int):=by rw[Int.tmod_eq_emod_of_nonneg (by omega)];omega
 by_cases h6:k %7=6
 ·have hu:underL k=farL:=by unfold underL;rw[if_pos h6]
  rw[h6]at hrem;rw[hu];clear hu h6;go_enter func140,ntmps140;go_wp2_with fail;go_ret;exact⟨_,rfl,own_row w w.heap.size 9 (farL.map strV) (Nat.le_refl _) (by simp[farL]),bAl⟩
 ·have hu:underL k=owner k:=by unfold underL;rw[if_neg h6]
  have hd2:(((k:Int) %7)==6)=false:=by simp;omega
  rw[hu];clear hu h6 hrem;have HO:=hid (Owner k hk w);go_enter func140,ntmps140;go_wp2_with fail;refine HO.out.mono ?_;rintro e w1 ⟨v,rfl,h1,h2⟩;go_wp2_with fail;go_ret;exact⟨_,rfl,h1,h2⟩
def nsL:Nat→List Lab
 |0=>owner 8
 |1=>owner 1
 |_=>farL
def dataN:Nat→Nat→Lab
 |28,k=>List.replicate 15 0++[b8 (k %3)]
 |15,k=>[0,b8 (k %3)]++wire (underL k)
 |2,k=>wire (nsL (k %3))
 |5,k=>wire (underL k)
 |6,k=>SoaM.bytes ⟨owner 1,owner 2,k *16777216,1,2,3,10+k %4 *20⟩
 |t,k=>dataP t k
theorem Data5(k:Nat)(hk:k < 256)(w:World):Calls prog 92 #[.int .u16 5,.int .u8 k] w fun e w'=>∃v,e=.returned v∧w'.ownsRow w.heap.size 5 1 v (dataN 5 k).length ((dataN 5 k).map byteV)∧Below w.heap.size w w':=by
 have HU:=hid (Under k hk w);have HS:=hid (under_small k);show Calls _ _ _ _ fun e w'=>∃v,e=.returned v∧w'.ownsRow w.heap.size 5 1 v (wire (underL k)).length ((wire (underL k)).map byteV)∧Below w.heap.size w w';generalize underL k=u at *;go_enter func92,ntmps92;go_wp2_with fail;refine HU.out.mono ?_;rintro e w1 ⟨v1,rfl,h1,hb1⟩;obtain⟨A1,c1,rfl,_,hc1⟩:=Cs.of_own h1
 have HW:=hid (RWire A1 u c1 w1 hc1 HS.out);clear h1 hc1;go_wp2_with fail;refine HW.out.mono ?_;rintro e w2 ⟨v2,rfl,h2,hb2⟩;have hb12:=hb1.trans (hb2.mono hb1.size);have h2:=own_base h2 hb1.size;go_wp2_with fail;go_ret;exact⟨_,rfl,h2,hb12⟩
theorem Data15(k:Nat)(hk:k < 256)(w:World):Calls prog 92 #[.int .u16 15,.int .u8 k] w fun e w'=>∃v,e=.returned v∧w'.ownsRow w.heap.size 5 1 v (dataN 15 k).length ((dataN 15 k).map byteV)∧Below w.heap.size w w':=by
 obtain⟨m,hm,hm2⟩:∃m,k %3=m∧m < 3:=⟨_,rfl,Nat.mod_lt _ (by omega)⟩
 have hrem:((k:Int).tmod 3)=m:=by rw[Int.tmod_eq_emod_of_nonneg (by omega)];omega
 have HU:Hid (∀W,Calls prog 140 #[.int .u8 k] W fun e w'=>∃v,e=.returned v∧w'.ownsRow W.heap.size 9 1 v (underL k).length ((underL k).map strV)∧Below W.heap.size W w'):=hid fun W=>Under k hk W;have hus:=under_small k;have hwl:=wire_len_few hus;have HS:=hid hus;have HD:Hid (dataN 15 k=[0,b8 m]++wire (underL k)):=hid (by rw[←hm];rfl)
 have HB:Hid (([0,b8 m]:Lab).map byteV=[.int .u8 0,.int .u8 m]):=hid (by
  have:=byte8 (n:=m) (by omega);simp only[List.map_cons,List.map_nil,this];rfl)
 clear hm hus;generalize underL k=u at *;go_enter func92,ntmps92;go_wp2_with fail;have h0:(w.alloc (.cells #[.int .u8 0,.int .u8 m] 5)).ownsRow w.heap.size 5 1 (.slice (some ⟨w.heap.size,0,none⟩) 2 2) 2 (([0,b8 m]:Lab).map byteV):=by
  rw[HB.out];exact own_row w w.heap.size 5 [.int .u8 0,.int .u8 m] (Nat.le_refl _) (by simp)
 have hb0:Below w.heap.size w (w.alloc (.cells #[.int .u8 0,.int .u8 m] 5)):=bAl;generalize w.alloc (.cells #[.int .u8 0,.int .u8 m] 5)=w0 at *;refine(HU.out w0).mono ?_;rintro e w1 ⟨v1,rfl,h1,hb1⟩;obtain⟨A1,c1,rfl,_,hc1⟩:=Cs.of_own h1;have h01:=own_below h0 hb1;have hb01:=hb0.trans (hb1.mono hb0.size);have HW:=hid (RWire A1 u c1 w1 hc1 HS.out)
 clear h1 hc1 h0 hb1 hb0;go_wp2_with fail;refine HW.out.mono ?_;rintro e w2 ⟨v2,rfl,h2,hb2⟩;obtain⟨A2,c2,rfl,_,hc2⟩:=Cs.of_own h2;have h02:=own_below h01 hb2;have hb02:=hb01.trans (hb2.mono hb01.size);clear h01 hb01 hb2 h2;generalize wire u=wu at *
 go_wp2_with (first|(at_builtin;refine wpList_bytes h02 hb02.size hc2 rfl _ _ underlying37 rfl rfl rfl (by omega) ?_;intro v3 w3 hown3 hb3;have hb03:=hb02.trans hb3))
 go_ret;refine⟨v3,rfl, ?_,hb03⟩;rw[HD.out,List.length_append];exact hown3
theorem Data28(k:Nat)(hk:k < 256)(w:World):Calls prog 92 #[.int .u16 28,.int .u8 k] w fun e w'=>∃v,e=.returned v∧w'.ownsRow w.heap.size 5 1 v (dataN 28 k).length ((dataN 28 k).map byteV)∧Below w.heap.size w w':=by
 obtain⟨m,hm,hm2⟩:∃m,k %3=m∧m < 3:=⟨_,rfl,Nat.mod_lt _ (by omega)⟩
 have hrem:((k:Int).tmod 3)=m:=by rw[Int.tmod_eq_emod_of_nonneg (by omega)];omega
 have HD:Hid (dataN 28 k=List.replicate 15 0++[b8 m]):=hid (by rw[←hm];rfl)
 have hmk:∀w,(Instr.makeSlice 37 (.int .i64 15) (.int .i64 15)).run prog w=.ok (.slice (some ⟨w.heap.size,0,none⟩) 15 15) (w.alloc (.cells #[.int .u8 0,.int .u8 0,.int .u8 0,.int .u8 0,.int .u8 0,.int .u8 0,.int .u8 0,.int .u8 0,.int .u8 0,.int .u8 0,.int .u8 0,.int .u8 0,.int .u8 0,.int .u8 0,.int .u8 0] 5)):=fun _=>by kernel_rfl
 have HB:Hid ([b8 m].map byteV=[.int .u8 m]):=hid (by
  have:=byte8 (n:=m) (by omega);simp only[List.map_cons,List.map_nil,this])
 obtain⟨i0,hi,hz0,hz1,hz2⟩:=info_parts info_u8;clear hm
 have h0:(w.alloc (.cells #[.int .u8 0,.int .u8 0,.int .u8 0,.int .u8 0,.int .u8 0,.int .u8 0,.int .u8 0,.int .u8 0,.int .u8 0,.int .u8 0,.int .u8 0,.int .u8 0,.int .u8 0,.int .u8 0,.int .u8 0] 5)).ownsRow w.heap.size 5 1 (.slice (some ⟨w.heap.size,0,none⟩) 15 15) 15 ((List.replicate 15 0:Lab).map byteV):=own_row w w.heap.size 5 [.int .u8 0,.int .u8 0,.int .u8 0,.int .u8 0,.int .u8 0,.int .u8 0,.int .u8 0,.int .u8 0,.int .u8 0,.int .u8 0,.int .u8 0,.int .u8 0,.int .u8 0,.int .u8 0,.int .u8 0] (Nat.le_refl _) (by simp)
 have hb0:Below w.heap.size w (w.alloc (.cells #[.int .u8 0,.int .u8 0,.int .u8 0,.int .u8 0,.int .u8 0,.int .u8 0,.int .u8 0,.int .u8 0,.int .u8 0,.int .u8 0,.int .u8 0,.int .u8 0,.int .u8 0,.int .u8 0,.int .u8 0] 5)):=bAl;go_enter func92,ntmps92
 go_wp2_with (first|(at_builtin;refine wpList_push2 h0 hb0.size [.int .u8 m] rfl (by simp[Value.oneCell']) hi hz0 hz1 hz2 rfl (by decide) rfl (.tmp 13) (.tmp 16) 37 underlying37 rfl rfl (by simp[Act.eval]) (by unfold maxLen;omega) (by omega) ?_;intro v3 w3 hown3 hb3;have hb03:=hb0.trans hb3))
 go_ret;refine⟨v3,rfl, ?_,hb03⟩;rw[HD.out,List.length_append,List.map_append,HB.out];exact hown3
theorem Data6(k:Nat)(hk:k < 256)(w:World):Calls prog 92 #[.int .u16 6,.int .u8 k] w fun e w'=>∃v,e=.returned v∧w'.ownsRow w.heap.size 5 1 v (dataN 6 k).length ((dataN 6 k).map byteV)∧Below w.heap.size w w':=by
 obtain⟨m,hm,hm2⟩:∃m,k %4=m∧m < 4:=⟨_,rfl,Nat.mod_lt _ (by omega)⟩
 have hrem:((k:Int).tmod 4)=m:=by rw[Int.tmod_eq_emod_of_nonneg (by omega)];omega
 have HD:Hid (dataN 6 k=SoaM.bytes ⟨owner 1,owner 2,k *16777216,1,2,3,10+m *20⟩):=hid (by rw[←hm];rfl);have hl1:(owner 1).length=2:=rfl;have hl2:(owner 2).length=2:=rfl;clear hm;go_enter func92,ntmps92;go_wp2_with fail;refine(Owner 1 (by omega) w).mono ?_;rintro e w1 ⟨v1,rfl,h1,hb1⟩;obtain⟨A1,c1,rfl,_,hc1⟩:=Cs.of_own h1;go_wp2_with fail
 refine(Owner 2 (by omega) w1).mono ?_;rintro e w2 ⟨v2,rfl,h2,hb2⟩;obtain⟨A2,c2,rfl,_,hc2⟩:=Cs.of_own h2;have hc12:=hc1.below hb2;have hb12:=hb1.trans (hb2.mono hb1.size);clear h1 h2 hc1;go_wp2_with fail
 refine(RSoaBytes ⟨owner 1,owner 2,k *16777216,1,2,3,10+m *20⟩ ⟨owner_small 1,owner_small 2,by show k *16777216 < _;omega,by show 1 < _;omega,by show 2 < _;omega,by show 3 < _;omega,by show 10+m *20 < _;omega⟩ A1 A2 c1 c2 w2 hc12 hc2).mono ?_;rintro e w3 ⟨v3,rfl,h3,hb3⟩;have hb13:=hb12.trans (hb3.mono hb12.size);have h3:=own_base h3 hb12.size;rw[←HD.out]at h3;go_wp2_with fail;go_ret
 exact⟨_,rfl,h3,hb13⟩
theorem Data2(k:Nat)(hk:k < 256)(w:World):Calls prog 92 #[.int .u16 2,.int .u8 k] w fun e w'=>∃v,e=.returned v∧w'.ownsRow w.heap.size 5 1 v (dataN 2 k).length ((dataN 2 k).map byteV)∧Below w.heap.size w w':=by
 obtain⟨m,hm,hm2⟩:∃m,k %3=m∧m < 3:=⟨_,rfl,Nat.mod_lt _ (by omega)⟩
 have hrem:((k:Int).tmod 3)=m:=by rw[Int.tmod_eq_emod_of_nonneg (by omega)];omega
 have HD:Hid (dataN 2 k=wire (nsL m)):=hid (by rw[←hm];rfl);have hl1:(owner 1).length=2:=rfl;have hl2:(owner 8).length=3:=rfl;clear hm;go_enter func92,ntmps92;go_wp2_with fail;refine(Owner 8 (by omega) w).mono ?_;rintro e w1 ⟨v1,rfl,h1,hb1⟩;obtain⟨A1,c1,rfl,_,hc1⟩:=Cs.of_own h1;go_wp2_with fail;refine(Owner 1 (by omega) w1).mono ?_;rintro e w2 ⟨v2,rfl,h2,hb2⟩
 obtain⟨A2,c2,rfl,_,hc2⟩:=Cs.of_own h2;have hc12:=hc1.below hb2;have hb12:=hb1.trans (hb2.mono hb1.size);clear h1 h2 hc1;have hcf:Cs (w2.alloc (.cells #[.string ⟨#[102,97,114]⟩,.string ⟨#[110,101,116]⟩] 9)) (some ⟨w2.heap.size,0,none⟩) (farL.map strV):=cs_new w2 9 [.string ⟨#[102,97,114]⟩,.string ⟨#[110,101,116]⟩] (0,0)
 have hbf:Below w2.heap.size w2 (w2.alloc (.cells #[.string ⟨#[102,97,114]⟩,.string ⟨#[110,101,116]⟩] 9)):=bAl;have hsf:(w2.alloc (.cells #[.string ⟨#[102,97,114]⟩,.string ⟨#[110,101,116]⟩] 9)).heap.size=w2.heap.size+1:=by simp
 have hm3:m=0∨m=1∨m=2:=by omega
 rcases hm3 with rfl|rfl|rfl
 all_goals
  go_wp2_with fail;generalize w2.alloc (.cells #[.string ⟨#[102,97,114]⟩,.string ⟨#[110,101,116]⟩] 9)=wf at *;have hba:Below wf.heap.size wf (wf.alloc (.cells #[.slice A1 3 c1,.slice A2 2 c2,.slice (some ⟨w2.heap.size,0,none⟩) 2 2] 28)):=bAl;have hb2a:=hbf.trans (hba.mono (by omega));have hb0a:=hb12.trans (hb2a.mono hb12.size)
  have hc1a:=hc12.below hb2a;have hc2a:=hc2.below hb2a;have hcfa:=hcf.below hba;clear hc12 hc2 hcf hba hbf;generalize wf.alloc (.cells #[.slice A1 3 c1,.slice A2 2 c2,.slice (some ⟨w2.heap.size,0,none⟩) 2 2] 28)=wa at *
 ·refine(RWire A1 (owner 8) c1 wa hc1a (owner_small 8)).mono ?_;rintro e w3 ⟨v3,rfl,h3,hb3⟩;have hb13:=hb0a.trans (hb3.mono hb0a.size);have h3:=own_base h3 hb0a.size;rw[←show dataN 2 k=wire (owner 8)from HD.out]at h3;go_wp2_with fail;go_ret;exact⟨_,rfl,h3,hb13⟩
 ·refine(RWire A2 (owner 1) c2 wa hc2a (owner_small 1)).mono ?_;rintro e w3 ⟨v3,rfl,h3,hb3⟩;have hb13:=hb0a.trans (hb3.mono hb0a.size);have h3:=own_base h3 hb0a.size;rw[←show dataN 2 k=wire (owner 1)from HD.out]at h3;go_wp2_with fail;go_ret;exact⟨_,rfl,h3,hb13⟩
 ·refine(RWire _ farL 2 wa hcfa far_small).mono ?_;rintro e w3 ⟨v3,rfl,h3,hb3⟩;have hb13:=hb0a.trans (hb3.mono hb0a.size);have h3:=own_base h3 hb0a.size;rw[←show dataN 2 k=wire farL from HD.out]at h3;go_wp2_with fail;go_ret;exact⟨_,rfl,h3,hb13⟩
def ttlN:Nat→Nat
 |0=>30
 |1=>30
 |2=>60
 |_=>5
def ttlK(k:Nat):Nat:=ttlN (k / 16777216 %4)
theorem bits_and3(a:Nat)(ha:a < 4294967296):bits .and .u32 (a:Int) 3=((a %4:Nat):Int):=by
 have h1:(BitVec.ofInt 32 (a:Int)).toNat=a:=by
  rw[BitVec.ofInt_natCast,BitVec.toNat_ofNat];exact Nat.mod_eq_of_lt (by omega)
 show IntKind.u32.wrap ((BitVec.ofInt 32 (a:Int) &&& BitVec.ofInt 32 3).toNat:Int)=_;rw[BitVec.toNat_and,h1,show(BitVec.ofInt 32 3).toNat=2 ^ 2 - 1 from by decide,Nat.and_two_pow_sub_one_eq_mod];simp[IntKind.wrap,IntKind.signed,IntKind.bits];omega
theorem wrap8(a:Int):IntKind.u8.wrap a=a %256:=by simp[IntKind.wrap,IntKind.signed,IntKind.bits]
def RecV(w:World)(B:Nat)(v:Value)(n:List Lab)(t:Nat)(ttl:Nat)(d:Lab):Prop:=
 ∃An cn Ad cd,v=.agg #[.slice An n.length cn,.int .u16 t,.int .u16 1,.int .u32 ttl,.slice Ad d.length cd]∧w.ownsRow B 9 1 (.slice An n.length cn) n.length (n.map strV)∧w.ownsRow B 5 1 (.slice Ad d.length cd) d.length (d.map byteV)
theorem RecordG(k:Nat)(hk:k < 4294967296)(d:Lab)(w:World)(hD:∀W,Below w.heap.size w W→Calls prog 92 #[.int .u16 (typeK (k / 256 %256 %10)),.int .u8 ((k / 65536 %256:Nat):Int)] W fun e w'=>∃v,e=.returned v∧w'.ownsRow W.heap.size 5 1 v d.length (d.map byteV)∧Below W.heap.size W w'):
 Calls prog 45 #[.int .u32 k] w fun e w'=>∃v,e=.returned v∧RecV w' w.heap.size v (owner (k %256)) (typeK (k / 256 %256 %10)) (ttlK k) d∧Below w.heap.size w w':=by
 have HD:=hid hD;clear hD;have HT:Hid (∀W,Calls prog 23 #[.int .u8 ((k / 256 %256:Nat):Int)] W fun e w'=>e=.returned (.int .u16 (typeK (k / 256 %256 %10)))∧Below W.heap.size W w'):=hid fun W=>TypeC (k / 256 %256) (Nat.mod_lt _ (by omega)) W
 have HO:Hid (∀W,Calls prog 22 #[.int .u8 ((k %256:Nat):Int)] W fun e w'=>∃v,e=.returned v∧w'.ownsRow W.heap.size 9 1 v (owner (k %256)).length ((owner (k %256)).map strV)∧Below W.heap.size W w'):=hid fun W=>Owner (k %256) (Nat.mod_lt _ (by omega)) W;have e1:((k / 256 %256:Nat):Int)=(k:Int) / 256 %256:=by omega
 have e2:((k %256:Nat):Int)=(k:Int) %256:=by omega
 have e3:((k / 65536 %256:Nat):Int)=(k:Int) / 65536 %256:=by omega
 rw[e1]at HT;rw[e2]at HO;rw[e3]at HD;generalize typeK (k / 256 %256 %10)=t at *;have hkm:ttlK k=ttlN (k / 16777216 %4):=rfl;obtain⟨m,hm,hm4⟩:∃m,k / 16777216 %4=m∧m < 4:=⟨_,rfl,Nat.mod_lt _ (by omega)⟩
 rw[hm]at hkm;rw[hkm];have HM:=hid hm;clear hkm hm;have hb1:Below w.heap.size w (w.alloc (.cells #[.slice none 0 0,.int .u16 0,.int .u16 0,.int .u32 0,.slice none 0 0] 39)):=bAl;have hR1:=heap_alloc_new w (.cells #[.slice none 0 0,.int .u16 0,.int .u16 0,.int .u32 0,.slice none 0 0] 39);clear e1 e2 e3;go_enter func45,ntmps45;go_wp2_with fail
 generalize w.alloc (.cells #[.slice none 0 0,.int .u16 0,.int .u16 0,.int .u32 0,.slice none 0 0] 39)=w1 at *;refine(HT.out w1).mono ?_;rintro e w2 ⟨rfl,hb2⟩;have hE2:=hb1.trans (hb2.mono hb1.size);have hR2:=(hb2.block _ (lt_block hR1)).trans hR1;clear hb2 hb1 hR1 HT;go_wp2_with fail;have hs2:=hE2.size;have hr2:=lt_block hR2
 refine wp_region_dep mixed0 (by kernel_rfl) (fun i j=>i==16&&j==100) (by kernel_rfl)
  (fun i W W'=>if i=16 then Kept (fun k=>k=w.heap.size) W W' else Ext W W')
  (fun W=>Kept (fun k=>k=w.heap.size) w2 W)
  (fun i vals W=>match i with
    |0=>vals 0=.int .u32 k
    |1=>vals 1=.int .u8 ((k:Int) %256)
    |2=>∃A c,vals 2=.slice A (owner (k %256)).length c∧W.ownsRow w2.heap.size 9 1 (.slice A (owner (k %256)).length c) (owner (k %256)).length ((owner (k %256)).map strV)
    |3=>vals 3=.int .u16 t
    |4=>∃q,vals 4=.slice (some ⟨q,0,none⟩) 4 4∧w2.heap.size≤q∧W.heap[q]? =some (.cells #[.int .u32 30,.int .u32 30,.int .u32 60,.int .u32 5] 35 (0,0))
    |5=>vals 5=.int .u32 k
    |6=>vals 6=.int .u32 ((k:Int) / 16777216)
    |7=>vals 7=.int .u32 (m:Int)
    |8=>∃q,vals 8=.pointer (some ⟨q,m,none⟩)∧w2.heap.size≤q∧W.heap[q]? =some (.cells #[.int .u32 30,.int .u32 30,.int .u32 60,.int .u32 5] 35 (0,0))
    |9=>vals 9=.int .u32 (ttlN m)
    |10=>vals 10=.int .u16 t
    |11=>vals 11=.int .u32 k
    |12=>vals 12=.int .u32 ((k:Int) / 65536)
    |13=>vals 13=.int .u8 ((k:Int) / 65536 %256)
    |14=>∃A c,vals 14=.slice A d.length c∧W.ownsRow w2.heap.size 5 1 (.slice A d.length c) d.length (d.map byteV)
    |15=>∃A c A' c',vals 15=.agg #[.slice A (owner (k %256)).length c,.int .u16 t,.int .u16 1,.int .u32 (ttlN m),.slice A' d.length c']∧W.ownsRow w2.heap.size 9 1 (.slice A (owner (k %256)).length c) (owner (k %256)).length ((owner (k %256)).map strV)∧W.ownsRow w2.heap.size 5 1 (.slice A' d.length c') d.length (d.map byteV)
    |16=>∃A c A' c',W.heap[w.heap.size]? =some (.cells #[.slice A (owner (k %256)).length c,.int .u16 t,.int .u16 1,.int .u32 (ttlN m),.slice A' d.length c'] 39 (0,0))∧W.ownsRow w2.heap.size 9 1 (.slice A (owner (k %256)).length c) (owner (k %256)).length ((owner (k %256)).map strV)∧W.ownsRow w2.heap.size 5 1 (.slice A' d.length c') d.length (d.map byteV)
    |_=>True) ?_ (fun W=>W.heap[w.heap.size]? =some (.cells #[.slice none 0 0,.int .u16 0,.int .u16 0,.int .u32 0,.slice none 0 0] 39 (0,0))) (fun i=>i==16) hR2 ?_ ?_ ?_ ?_ ?_ ?_
 ·intro j vals i v W hij hw hR;rcases j with _|_|_|_|_|_|_|_|_|_|_|_|_|_|_|_|_|j
  all_goals first
   |exact trivial
   |exact hR
   |(simpa[hij,Ne.symm hij]using hR)
 ·intro i W W' hk hC hI hT;by_cases h:i=16
  ·subst h;cases hk
  ·simp only[h,if_false]at hT;exact(hT.block _ (lt_block hI)).trans hI
 ·exact(Kept.refl _ w2).drew
 ·intro i W W' hC hT;by_cases h:i=16
  ·simp only[h,if_true]at hT;exact hC.trans hT
  ·simp only[h,if_false]at hT;exact hC.trans (Kept.mono (Kept.of_ext hT) (fun _ _ h=>h.elim))
 ·intro i j vals W W' hij hk hw hC hR hT;have hKR:(∀{e:TypeId} {size:Nat} {u:Value} {m:Nat} {xs:List Value},W.ownsRow w2.heap.size e size u m xs→W'.ownsRow w2.heap.size e size u m xs)∧(∀q o,w2.heap.size≤q→W.heap[q]? =some o→W'.heap[q]? =some o)∧(i≠16→W.heap[w.heap.size]? =W'.heap[w.heap.size]?):=by
   by_cases h:i=16
   ·simp only[h,if_true]at hT;exact⟨fun hr=>Kept.row hr hT (fun k hk2 e=>by have:=(hr.lt k hk2).1;omega),fun q o hq ho=>(hT.block q (lt_block ho) (by omega)).trans ho,fun h2=>absurd h h2⟩
   ·simp only[h,if_false]at hT;exact⟨fun hr=>own_below hr hT,fun q o hq ho=>(hT.block q (lt_block ho)).trans ho,fun _=>(hT.block _ (by have:=hC.size;omega)).symm⟩
  obtain⟨hK1,hK2,hK3⟩:=hKR;rcases j with _|_|_|_|_|_|_|_|_|_|_|_|_|_|_|_|_|j
  all_goals first
   |exact trivial
   |exact hR
   |skip
  ·obtain⟨A,c,h1,h2⟩:=hR;exact⟨A,c,h1,hK1 h2⟩
  ·obtain⟨q,h1,h2,h3⟩:=hR;exact⟨q,h1,h2,hK2 _ _ h2 h3⟩
  ·obtain⟨q,h1,h2,h3⟩:=hR;exact⟨q,h1,h2,hK2 _ _ h2 h3⟩
  ·obtain⟨A,c,h1,h2⟩:=hR;exact⟨A,c,h1,hK1 h2⟩
  ·obtain⟨A,c,A',c',h1,h2,h3⟩:=hR;exact⟨A,c,A',c',h1,hK1 h2,hK1 h3⟩
  ·obtain⟨A,c,A',c',h1,h2,h3⟩:=hR;exact⟨A,c,A',c',(hK3 hij)▸h1,hK1 h2,hK1 h3⟩
 ·intro i o hio vals W hC haf hI0;rcases i with _|_|_|_|_|_|_|_|_|_|_|_|_|_|_|_|_|i
  all_goals first
   |(exfalso;simp at hio;done)
   |skip
  all_goals
   simp at hio;subst hio;simp[bindD,rdB,Region.binds]at haf
  all_goals first
   |(simp[opU,go_sem,haf,Ext.refl];done)
   |skip
  ·simp[opU,go_sem,haf,Ext.refl];exact wrap8 _
  ·simp[opU,go_sem,haf];refine(HO.out W).mono fun e W' h=> ?_;obtain⟨v,he,ho,hb⟩:=h;obtain⟨A,c,rfl,_⟩:=own_form ho;exact⟨_,he,hb,A,c,rfl,own_base ho hC.size⟩
  ·simp[opU,go_sem];exact⟨bAl,hC.size,by simp only[World.alloc,Array.getElem_push_eq]⟩
  ·simp[opU,go_sem,haf,Ext.refl];have hb:=bits_and3 (k / 16777216) (by omega);rw[HM.out,show((k / 16777216:Nat):Int)=(k:Int) / 16777216 from by omega]at hb;exact hb
  ·obtain⟨⟨q,h1,h2,h3⟩,h7⟩:=haf;have hc:(0:Int)≤(m:Int)∧(m:Int) < 4:=by omega
   simp[opU,go_sem,h1,h7,hm4,hc,Ext.refl];exact⟨h2,h3⟩
  ·obtain⟨q,h1,h2,h3⟩:=haf;have hc:W.cell? ⟨q,m,none⟩=some (.int .u32 (ttlN m)):=by
    rw[cell_of_row _ _ _ _ _ _ h3];have h:m=0∨m=1∨m=2∨m=3:=by omega
    rcases h with rfl|rfl|rfl|rfl <;> rfl
   simp[opU,go_sem,h1,hc,Ext.refl]
  ·simp[opU,go_sem,haf,Ext.refl];exact wrap8 _
  ·simp[opU,go_sem,haf];refine(HD.out W (hE2.trans (hC.below hs2 (fun k hk e=>by omega)))).mono fun e W' h=> ?_;obtain⟨v,he,ho,hb⟩:=h;obtain⟨A,c,rfl,_⟩:=own_form ho;exact⟨_,he,hb,A,c,rfl,own_base ho hC.size⟩
  ·obtain⟨⟨A,c,h2,h2r⟩,h3,h9,A',c',h14,h14r⟩:=haf;simp[opU,go_sem,h2,h3,h9,h14,Ext.refl];exact⟨A,c,A',c',⟨⟨rfl,rfl⟩,rfl,rfl⟩,h2r,h14r⟩
  ·obtain⟨A,c,A',c',h15,h15a,h15b⟩:=haf;have hI:=hI0 (fun k hk hk2=>.inl (by simpa using hk2));refine yield_store (g:=w.heap.size) (cells:= #[.slice A (owner (k %256)).length c,.int .u16 t,.int .u16 1,.int .u32 (ttlN m),.slice A' d.length c']) rfl rfl (by simp[relAct,dstAt,Act.put,Act.eval]) (by simp[relAct,dstAt,Act.put,Act.eval,h15]) hI (by kernel_rfl) rfl (by simp[Value.oneCell']) ?_
   have hblk:=setRow_block W w.heap.size #[.slice A (owner (k %256)).length c,.int .u16 t,.int .u16 1,.int .u32 (ttlN m),.slice A' d.length c'] _ _ _ hI;have hgr:=setRow_grown W w.heap.size #[.slice A (owner (k %256)).length c,.int .u16 t,.int .u16 1,.int .u32 (ttlN m),.slice A' d.length c']
   have hkk:Kept (fun k=>k=w.heap.size) W (W.setRow w.heap.size #[.slice A (owner (k %256)).length c,.int .u16 t,.int .u16 1,.int .u32 (ttlN m),.slice A' d.length c']):=(Kept.of_grown hgr).mono (fun k _ h=>by cases h;rfl);exact⟨hkk,A,c,A',c',hblk,Kept.row h15a hkk (fun k hk2 e=>by have:=(h15a.lt k hk2).1;omega),Kept.row h15b hkk (fun k hk2 e=>by have:=(h15b.lt k hk2).1;omega)⟩
 ·intro vals W hC hR;have h16:=hR 16 (by show 16 < 17;omega) (fun i _=>by simp);obtain⟨A,c,A',c',g1,g2,g3⟩:=h16;obtain⟨f0,f1,f2,f3,f4,_⟩:=cells5 g1;have hbW:=hE2.trans (hC.below hs2 (fun k hk e=>by omega));simp[relAct,dstAt,Act.put];go_wp2_with fail
  refine bodyPost_ret (v:=.agg #[.slice A (owner (k %256)).length c,.int .u16 t,.int .u16 1,.int .u32 (ttlN m),.slice A' d.length c']) ?_ rfl ⟨_,rfl,⟨A,c,A',c',rfl,own_base g2 hs2,own_base g3 hs2⟩,hbW⟩;simp[results,results45,go_sem,f0,f1,f2,f3,f4]
theorem ZLen(w:World)(B z bn bb:Nat)(ap:List Lab)(c:Int)(D:DataW Unit)(f:Lab→Int)(N:Nat)(h:Zn w B z bn bb ap c D f N):
 Calls prog 15 #[.pointer (some ⟨z,0,none⟩)] w fun e w'=>e=.returned (.int .i64 c)∧w=w':=by
 obtain⟨A,ca,g1,_⟩:=h.blk;obtain⟨_,_,_,z3,_⟩:=cells4 g1;go_enter func15,ntmps15;go_wp2_with fail;go_ret;exact⟨rfl,rfl⟩
theorem rec_of{n ap:List Lab}{t:Int}{d:Lab}{cn cd:Nat}(h1:Small n)(h2:nameE n=0)(h3:within n ap=true)(h4:easyT t)(h5:(Lit.int .u16 t).wf=true)(h6:chk t d=true)(h7:d.length≤100000)(h8:n.length≤cn)(h9:cn≤maxLen)(h10:d.length≤cd)(h11:cd≤maxLen):Rec n ap t d cn cd:=
 ⟨h1,h2,h3,h4,h5,by rw[h6];rfl,h7,h8,h9,h10,h11⟩
theorem own_caps{w:World}{B:Nat}{e:TypeId}{size:Nat}{A:Option Addr}{m c n:Nat}{xs:List Value}(h:w.ownsRow B e size (.slice A m c) n xs):n≤c∧c≤maxLen:=by
 obtain⟨A',c',h1,h2⟩:=own_form h;cases h1;exact h2
theorem DataAll(m k:Nat)(hm:m < 10)(hk:k < 256)(W:World):Calls prog 92 #[.int .u16 (typeK m),.int .u8 k] W fun e w'=>∃v,e=.returned v∧w'.ownsRow W.heap.size 5 1 v (dataN (typeK m) k).length ((dataN (typeK m) k).map byteV)∧Below W.heap.size W w':=by
 have h:m=0∨m=1∨m=2∨m=3∨m=4∨m=5∨m=6∨m=7∨m=8∨m=9:=by omega
 rcases h with rfl|rfl|rfl|rfl|rfl|rfl|rfl|rfl|rfl|rfl
 ·exact Data1 k hk W
 ·exact Data1 k hk W
 ·exact Data28 k hk W
 ·exact Data15 k hk W
 ·exact Data16 k hk W
 ·exact Data2 k hk W
 ·exact Data5 k hk W
 ·exact Data43 k hk W
 ·exact Data6 k hk W
 ·exact Data99 k hk W
def recN(k:Nat):List Lab:=owner (k %256)
def recT(k:Nat):Nat:=typeK (k / 256 %256 %10)
def recD(k:Nat):Lab:=dataN (recT k) (k / 65536 %256)
theorem RecordA(k:Nat)(hk:k < 4294967296)(w:World):Calls prog 45 #[.int .u32 k] w fun e w'=>∃v,e=.returned v∧RecV w' w.heap.size v (recN k) (recT k) (ttlK k) (recD k)∧Below w.heap.size w w':=
 RecordG k hk (recD k) w (fun W _=>DataAll (k / 256 %256 %10) (k / 65536 %256) (Nat.mod_lt _ (by omega)) (Nat.mod_lt _ (by omega)) W)
theorem chk_all:∀m,m < 10→∀k,k < 256→chk (typeK m) (dataN (typeK m) k)=true:=by
 decide+kernel
theorem len_all:∀m,m < 10→∀k,k < 256→(dataN (typeK m) k).length≤100:=by
 decide+kernel
def keyK(k:Nat):List Lab×Int×Lab:=(lower (recN k),((recT k:Nat):Int),canonD (recT k) (recD k))
def KeysL(f:Nat→Nat)(l:List Nat)(j:Nat)(Q:List Sq):Prop:=∀key,key∈keysQ Q↔∃i,i < j∧key=keyK (l.getD (f i) 0)
theorem KeysL.step{f:Nat→Nat}{l:List Nat}{j:Nat}{Q Q':List Sq}(h:KeysL f l j Q)(h2:∀key,key∈keysQ Q'↔key∈keysQ Q∨key=keyK (l.getD (f j) 0)):KeysL f l (j+1) Q':=by
 intro key;rw[h2,h key];constructor
 ·rintro(⟨i,hi,e⟩|e)
  ·exact⟨i,by omega,e⟩
  ·exact⟨j,by omega,e⟩
 ·rintro⟨i,hi,e⟩;by_cases hij:i=j
  ·subst hij;exact .inr e
  ·exact .inl ⟨i,by omega,e⟩
def LensQ(Q:List Sq):Prop:=∀q∈Q,∀d∈q.ds,d.1.l.length≤100000
theorem flat_total(l:List Sq):(l.flatMap saysQ).length=total l:=by
 induction l with
 |nil=>rfl
 |cons q l ih=>
  have e1:total (q::l)=q.ds.length+total l:=by simp[total]
  rw[List.flatMap_cons,List.length_append,ih,saysQ_len,e1]
theorem saysN_total(Q:List Sq)(n:List Lab):(saysN Q n).length=total (setsOf Q n):=by
 unfold saysN;rw[flat_total];unfold total;exact((secs_perm Q n).map _).sum_nat
theorem count_ns{ns:List (List Lab)}(hn:ns.Nodup){m:List Lab}(hm:m∈ns)(c:Nat):(ns.map fun n=>if m=n then c else 0).sum=c:=by
 induction ns with
 |nil=>cases hm
 |cons n ns ih=>
  rw[List.nodup_cons]at hn;rw[List.map_cons,List.sum_cons];rcases List.mem_cons.1 hm with rfl|hm
  ·rw[if_pos rfl];have:(ns.map fun n=>if m=n then c else 0).sum=0:=by
    have h1:∀n∈ns,(if m=n then c else 0)=0:=fun n hnn=>if_neg (fun e=>hn.1 (by rw[e];exact hnn));rw[List.map_congr_left h1];clear h1 ih hn
    induction ns with
    |nil=>rfl
    |cons _ _ ih=>simpa using ih
   omega
  ·have:¬m=n:=fun e=>hn.1 (by rw[←e];exact hm);rw[if_neg this,ih hn.2 hm];omega
theorem all_total{Q:List Sq}{ns:List (List Lab)}(hn:ns.Nodup)(h:∀q∈Q,q.n∈ns):(ns.flatMap (saysN Q)).length=total Q:=by
 have e:(ns.flatMap (saysN Q)).length=(ns.map fun n=>total (setsOf Q n)).sum:=by
  rw[List.length_flatMap];congr 1;exact List.map_congr_left fun n _=>saysN_total Q n
 rw[e];clear e
 induction Q with
 |nil=>
  have:∀n∈ns,total (setsOf [] n)=0:=fun n _=>rfl;rw[List.map_congr_left this];clear this h hn
  induction ns with
  |nil=>rfl
  |cons _ _ ih=>simpa using ih
 |cons q Q ih=>
  have e1:total (q::Q)=q.ds.length+total Q:=by simp[total]
  have e2:∀n∈ns,total (setsOf (q::Q) n)=(if q.n=n then q.ds.length else 0)+total (setsOf Q n):=fun n _=>by
   unfold setsOf;rw[List.filter_cons];by_cases hq:q.n=n
   ·rw[if_pos (by simpa using hq),if_pos hq];simp[total]
   ·rw[if_neg (by simpa using hq),if_neg hq,Nat.zero_add]
  have e3:∀(l:List (List Lab)) (f g:List Lab→Nat),(l.map fun n=>f n+g n).sum=(l.map f).sum+(l.map g).sum:=fun l f g=>by
   induction l with
   |nil=>rfl
   |cons a l ih=>simp[ih];omega
  rw[List.map_congr_left e2,e3,ih (fun r hr=>h r (by simp[hr])),count_ns hn (h q (by simp)),e1]
theorem KeysL.few{f:Nat→Nat}{l:List Nat}{j:Nat}{P:List Nq}{Q:List Sq}(h:Wf [exL] P Q)(hk:KeysL f l j Q):total Q≤j:=by
 have:=h.total_le (l:=(List.range j).map fun i=>keyK (l.getD (f i) 0)) fun k hkq=>by
  obtain⟨i,hi,e⟩:=(hk k).1 hkq;exact List.mem_map.2 ⟨i,List.mem_range.2 hi,e.symm⟩
 simpa using this
theorem own_room{w:World}{B:Nat}{e:TypeId}{size:Nat}{A:Option Addr}{m c n:Nat}{xs:List Value}(h:w.ownsRow B e size (.slice A m c) n xs):n≤c∧c≤maxLen:=by
 rcases h.2 with⟨h1,h2⟩|⟨g,cap,cur,h1,_,_,h3,h4,_⟩
 ·cases h1;subst h2;exact⟨Nat.le_refl _,by unfold maxLen;omega⟩
 ·cases h1;exact⟨h3,h4⟩
theorem yield_appendE{P:Program}{ops:Array Oper}{o:Oper}{a:Act}{W W':World}{R:Value→World→Prop}(hgd:o.guard=none)(s x:Operand)(ts:Array TypeId)
 (ho:o.op=.call {callee:=.builtin .append,args:= #[s,x],argTypes:=ts}) {vs vx v:Value} (hs:a.eval s=vs) (hx:a.eval x=vx) (hr:(Builtin.append_ ts o.type #[vs,vx]).run P W=.ok v W') (h:R v W'):opYield P ops o a W R:=by
 have hw:Region.wanted o (yielded ops a.tmps)=true:=by simp[Region.wanted,hgd]
 rw[opYield_def];rw[if_pos hw];unfold execOp;simp only[ho,resolve,invoke,builtin,Sem.run_bind,Sem.run_pure,Result.andThen_ok,List.map_toArray,List.map_cons,List.map_nil,hs,hx,hr];exact h
theorem datC_erase(ds:List (Blob×Blob))(i:Nat):(datC ds).take (i *2)++(datC ds).drop ((i+1) *2)=datC (ds.eraseIdx i):=by
 obtain⟨h1,_⟩:=datC_split ds i;obtain⟨_,h2⟩:=datC_split ds (i+1);rw[h1,h2,←datC_append,List.eraseIdx_eq_take_drop_succ]
theorem cur_del(cur xs:List Value)(k i:Nat)(hi:i≤k)(hx:cur.take ((k+1) *2)=xs)(hl:(k+1) *2≤cur.length):
 let c1:=cur.take (i *2)++xs.drop ((i+1) *2)++cur.drop (i *2+(xs.drop ((i+1) *2)).length)
 let c2:=c1.take (k *2)++[Value.slice none 0 0,Value.slice none 0 0]++c1.drop (k *2+2)
 c1.length=cur.length∧c2.length=cur.length∧c2.take (k *2)=xs.take (i *2)++xs.drop ((i+1) *2):=by
 intro c1 c2;have hxl:xs.length=(k+1) *2:=by rw[←hx];simp;omega
 have hl1:c1.length=cur.length:=by simp[c1,hxl];omega
 have ht:c1.take (k *2)=xs.take (i *2)++xs.drop ((i+1) *2):=by
  have e1:cur.take (i *2)=xs.take (i *2):=by rw[←hx,List.take_take];congr 1;omega
  simp only[c1];rw[e1,List.take_append_of_le_length (by simp[hxl];omega),List.take_of_length_le (by simp[hxl];omega)]
 refine⟨hl1,by simp[c2,hl1];omega, ?_⟩;simp only[c2,List.append_assoc];rw[List.take_append_of_le_length (by simp[hl1];omega),List.take_take,Nat.min_self,ht]
theorem DeleteAt(w:World)(B g cap i k:Nat)(ds:List (Blob×Blob))(hk:ds.length=k+1)(hi:i≤k)(hown:w.ownsRow B 121 2 (.slice (some ⟨g,0,none⟩) (k+1) cap) (k+1) (datC ds)):
 Calls prog 110 #[.slice (some ⟨g,0,none⟩) (k+1) cap,.int .i64 (i:Int),.int .i64 ((i:Int)+1)] w fun e w'=>e=.returned (.slice (some ⟨g,0,none⟩) k cap)∧w'.ownsRow B 121 2 (.slice (some ⟨g,0,none⟩) k cap) k (datC (ds.eraseIdx i))∧Kept (fun k=>k=g) w w':=by
 obtain⟨hc1,hc2⟩:=own_room hown;have hc3:=hc2;unfold maxLen at hc3;obtain⟨cur,hg,hgB,hsz,htk⟩:∃cur:Array Value,w.heap[g]? =some (.cells cur 121 (0,0))∧B≤g∧cur.size=cap *2∧cur.toList.take ((k+1) *2)=datC ds:=by
  rcases hown.2 with⟨h0,_⟩|⟨g',cap',cur,hv,hB,hh,_,_,hs,ht⟩
  ·cases h0
  ·cases hv;exact⟨cur,hh,hB,hs,ht⟩
 have hone:=datC_one ds;have hdl:(datC ds).length=(k+1) *2:=by rw[datC_len,hk]
 have her:=datC_erase ds i;have hcd:=cur_del cur.toList (datC ds) k i hi htk (by simp;omega);generalize hxs:datC ds=xs at *;obtain⟨i0,hi0,hz0,hz1,hz2⟩:=info_parts info_datum
 obtain⟨y,HX⟩:∃y:Addr,(y=⟨g,(i+1) *2,none⟩∨i=k)∧∀W,(Instr.slice 117 (.slice (some ⟨g,0,none⟩) (k+1) cap) (some (.int .i64 ((i:Int)+1))) none none).run prog W=.ok (.slice (some y) (k - i) (cap - (i+1))) W:=by
  by_cases h:cap=i+1
  ·have hik:i=k:=by omega
   subst hik;subst h;exact⟨⟨g,0,none⟩,.inr rfl,fun W=>by simp[go_sem];intro h;omega⟩
  ·refine⟨⟨g,(i+1) *2,none⟩,.inl rfl,fun W=> ?_⟩;have:=slice_from W g (k+1) cap (i+1) ((i:Int)+1) (by omega) (by omega) (by omega) hc1;rw[this];congr 2;omega
 have HA:∀W:World,W.heap[g]? =some (.cells cur 121 (0,0))→∀ty,(Builtin.append_ #[117,117] ty #[.slice (some ⟨g,0,none⟩) i cap,.slice (some y) (k - i) (cap - (i+1))]).run prog W=.ok (.slice (some ⟨g,0,none⟩) k cap) (W.setRow g (cur.toList.take (i *2)++xs.drop ((i+1) *2)++cur.toList.drop (i *2+(xs.drop ((i+1) *2)).length)).toArray):=fun W hW ty=>by
  have hs2:i0.size=2:=hz1;have:=run_append_room (P:=prog) W 117 ty 121 i0 underlying117 hi0 g i cap cur hW y (k - i) (cap - (i+1)) (xs.drop ((i+1) *2)) (by rw[hs2,List.length_drop,hdl];omega)
   (fun j u hj=>by
     rcases HX.1 with e|e
     ·rw[e,add_plain,cell_of_row _ _ _ _ _ _ hW];rw[List.getElem?_drop,←htk,List.getElem?_take]at hj;split at hj
      ·simpa using hj
      ·cases hj
     ·rw[List.drop_of_length_le (by rw[hdl,e];omega)]at hj;cases hj) (fun u hu=>hone u (List.mem_of_mem_drop hu)) (by omega) (by rw[hs2,List.length_drop,hdl,hsz];omega)
  rw[hs2]at this;rw[this];congr 2;omega
 obtain⟨hl1,hl2,ht2⟩:=hcd;generalize hc1e:cur.toList.take (i *2)++xs.drop ((i+1) *2)++cur.toList.drop (i *2+(xs.drop ((i+1) *2)).length)=c1 at *;have hcl2:cur.toList.length=cap *2:=by simpa using hsz
 rw[hcl2]at hl1 hl2;have HCL:∀W:World,W.heap[g]? =some (.cells c1.toArray 121 (0,0))→(Builtin.clear_ #[117] 0 #[.slice (some ⟨g,k *2,none⟩) 1 (cap - k)]).run prog W=.ok (.tuple #[]) (W.setRow g (c1.take (k *2)++[Value.slice none 0 0,Value.slice none 0 0]++c1.drop (k *2+2)).toArray):=fun W hW=>by
  have hst:=run_storeCells_at (P:=prog) g (k *2) 121 [.slice none 0 0,.slice none 0 0] 0 c1.toArray W hW (by simp;omega) (by simp[Value.oneCell']);have hz:(zeroValue 121).run prog W=.ok (.agg #[.slice none 0 0,.slice none 0 0]) W:=by kernel_rfl
  simp[Builtin.clear_,run_underlying underlying117,hz,Result.andThen];have e:(Builtin.zeroCells (Value.agg #[Value.slice none 0 0,Value.slice none 0 0]).cells 1).toList=[Value.slice none 0 0,Value.slice none 0 0]:=by kernel_rfl
  rw[e,hst];simp
 have HAs:=hid HA;have HXs:=hid HX;have HCLs:=hid HCL;have HG:=hid (And.intro hg (And.intro hgB (And.intro ht2 (And.intro her (And.intro hl1 hl2)))));have hik:(i:Int)≤(k:Int):=by omega
 have hkc:(k:Int)+1≤(cap:Int):=by omega
 have hne:¬(i:Int)=(i:Int)+1:=by omega
 have hneb:((i:Int)==(i:Int)+1)=false:=by simpa using hne
 have HX2:=HX.2;have hib:(i:Int)≤(cap:Int):=by omega
 have hkk:¬cap=k:=by omega
 have hkk2:k+1 - k=1:=by omega
 clear HA HX HCL hg hgB ht2 her hl1 hl2 hone hdl htk hown hc1e hxs;go_enter func110,ntmps110;go_wp2_with fail;refine wp_region_t bindD (fun _ h=>bindD_binds h) mixed0 (by kernel_rfl) (fun _ _=>false) (by kernel_rfl)
  (fun j Z Z'=>(j≠6→Z'=Z)∧(j=6→Z'=(World.drew w).setRow g c1.toArray)) (fun _=>True)
  (fun j vals Z=>match j with
    |0=>vals 0=.slice (some ⟨g,0,none⟩) (k+1) cap
    |1=>vals 1=.int .i64 (i:Int)
    |2=>vals 2=.slice (some ⟨g,0,none⟩) i cap
    |3=>vals 3=.slice (some ⟨g,0,none⟩) (k+1) cap
    |4=>vals 4=.int .i64 ((i:Int)+1)
    |5=>vals 5=.slice (some y) (k - i) (cap - (i+1))
    |6=>vals 6=.slice (some ⟨g,0,none⟩) k cap∧Z=(World.drew w).setRow g c1.toArray
    |7=>vals 7=.slice (some ⟨g,0,none⟩) k cap
    |_=>True) ?_ (fun Z=>Z=World.drew w) (fun j=>j==6) rfl ?_ trivial (fun _ _ _ _ _=>trivial) ?_ ?_ ?_
 ·intro j vals m v Z hij hw hR;rcases j with _|_|_|_|_|_|_|_|j
  all_goals first
   |trivial
   |(simpa[hij,Ne.symm hij]using hR;done)
 ·intro m Z Z' hk0 _ h1 hT;have h6:m≠6:=by
   rintro rfl;cases hk0
  rw[hT.1 h6];exact h1
 ·intro m j v Z Z' hij _ hw _ hR hT;rcases j with _|_|_|_|_|_|_|_|j
  all_goals first
   |exact hR
   |(rw[hT.1 hij];exact hR)
 ·intro m o hio vals Z _ haf hI0;rcases m with _|_|_|_|_|_|_|_|m
  all_goals first
   |(exfalso;simp at hio;done)
   |skip
  all_goals
   simp at hio;subst hio;simp[bindD,rdB,Region.binds]at haf
  all_goals first
   |(simp[opU,go_sem,haf,HX2];done)
   |skip
  ·simp[opU,go_sem,haf,hib]
  ·have hw:=hI0 (by
    intro k hk hk2;have hk3:k=6:=by simpa using hk2
    subst hk3;exact .inl rfl)
   subst hw;have hA:=HAs.out (World.drew w) HG.out.1;obtain⟨h2,h5⟩:=haf;exact yield_appendE rfl (.tmp 22) (.tmp 25) _ rfl (by simp[relAct,dstAt,Act.put,Act.eval,h2]) (by simp[relAct,dstAt,Act.put,Act.eval,h5]) (hA _) ⟨⟨fun h=>absurd rfl h,fun _=>rfl⟩,rfl,rfl⟩
 ·intro vals Z _ hR;obtain⟨_,h6w⟩:=hR 6 (by show 6 < 8;omega) (fun _ _=>rfl);have h7:=hR 7 (by show 7 < 8;omega) (fun _ _=>rfl);have h7:vals 7=.slice (some ⟨g,0,none⟩) k cap:=h7;simp[relAct,dstAt,Act.put];rw[h7];clear hR h7;have hblk:=setRow_block (World.drew w) g c1.toArray cur 121 (0,0) HG.out.1
  have hk1:Kept (fun b=>b=g) w ((World.drew w).setRow g c1.toArray):=(Kept.refl (fun b=>b=g) w).drew.trans ((Kept.of_grown (setRow_grown (World.drew w) g c1.toArray)).mono (fun b _ h=>by cases h;rfl));subst h6w;generalize(World.drew w).setRow g c1.toArray=W1 at *;have hcl:=HCLs.out W1 hblk
  have hblk2:=setRow_block W1 g (c1.take (k *2)++[Value.slice none 0 0,Value.slice none 0 0]++c1.drop (k *2+2)).toArray c1.toArray 121 (0,0) hblk;have hk2:Kept (fun b=>b=g) w _:=hk1.trans ((Kept.of_grown (setRow_grown W1 g (c1.take (k *2)++[Value.slice none 0 0,Value.slice none 0 0]++c1.drop (k *2+2)).toArray)).mono (fun b _ h=>by cases h;rfl));obtain⟨_,r1,r2,r3,r4,r5⟩:=HG.out;rw[r3]at r2
  generalize c1.take (k *2)++[Value.slice none 0 0,Value.slice none 0 0]++c1.drop (k *2+2)=c2 at *;have hown2:(W1.setRow g c2.toArray).ownsRow B 121 2 (.slice (some ⟨g,0,none⟩) k cap) k (datC (ds.eraseIdx i)):=⟨by rw[←r2,List.length_take];omega,.inr ⟨g,cap,c2.toArray,rfl,r1,hblk2,by omega,hc2,by simpa using r5,by simpa using r2⟩⟩
  have HF:=hid (And.intro hown2 hk2);clear hown2 hk2 hblk2 r1 r2 r3 r4 r5 hblk hk1;generalize W1.setRow g c2.toArray=W2 at *;go_wp2_with fail;go_ret;exact⟨rfl,HF.out.1,HF.out.2⟩
theorem One.setSets{w w':World}{B z bn bb x bs s:Nat}{ap n:List Lab}{t ttl:Int}{v:Value}{ds:List (Blob×Blob)}{f:Lab→Int}{N:Nat}(h:One w B z bn bb x bs s ap n t ttl v ds f N)(hg:w.grownBy w' (some bs)):
 Zn w' B z bn bb ap ds.length (.map [(.string (zkey n),.lit (.int .i64 (x:Int)))]) f N∧(∃A c,w'.heap[x]? =some (.cells #[.slice A n.length c,.map (some bs)] 112 (0,0))∧w'.ownsRow B 9 1 (.slice A n.length c) n.length ((lower n).map strV))∧Turn B w w':=by
 have hk:Kept (fun k=>k=bs) w w':=(Kept.of_grown hg).mono (fun k _ h=>by cases h;rfl);have hZ:Zonal (fun k=>k=bs) w:=Zonal.map h.st.sets;obtain⟨A,ca,g1,g2⟩:=h.zn.blk;obtain⟨A',c',g5,g6⟩:=h.st.node
 exact⟨h.zn.kept hk hZ (Ne.symm (ne_map h.st.sets g1)) (Ne.symm h.n1) (Ne.symm h.n2),⟨A',c',cells_zonal g5 hk hZ zT_node,row_zonal g6 hk hZ zT_str⟩,Turn.zonal hk hZ h.size (fun k e=>by rw[e];exact h.st.h1)⟩
theorem One.lay{w W:World}{B z bn bb x bs s:Nat}{ap n:List Lab}{t ttl:Int}{v v2:Value}{ds:List (Blob×Blob)}{f:Lab→Int}{N:Nat}{ds':List (Blob×Blob)}(h:One w B z bn bb x bs s ap n t ttl v ds f N)(hk:Kept (fun k=>k=s∨some k=v.ownBlock) w W)
 (hs:W.heap[s]? =some (.cells #[.int .u32 ttl,v2] 119 (0,0))) (hr:W.ownsRow B 121 2 v2 ds'.length (datC ds')) (h1:DatOwn W B ds'):
 One (W.setCell ⟨z,3,none⟩ (.int .i64 ((ds'.length:Nat):Int))) B z bn bb x bs s ap n t ttl v2 ds' f N∧Turn B w (W.setCell ⟨z,3,none⟩ (.int .i64 ((ds'.length:Nat):Int))):=by
 have hZ:Zonal (fun k=>k=s∨some k=v.ownBlock) w:=by
  intro k hk2;rcases hk2 with e|e
  ·exact Zonal.cells h.st.set (.inr (.inl rfl)) k e
  ·exact Zonal.row h.st.row k e
 obtain⟨A,ca,g1,g2⟩:=h.zn.blk;obtain⟨A',c',g5,g6⟩:=h.st.node;obtain⟨E,g3,g4⟩:=h.zn.below;have hrow:∀k,some k=v.ownBlock→∃cs,w.heap[k]? =some (.cells cs 121 (0,0))∧B≤k:=fun k e=>row_block h.st.row e.symm;have hnz:¬(z=s∨some z=v.ownBlock):=by
  rintro(e|e)
  ·exact ne_cells g1 h.st.set (by decide) e
  ·obtain⟨cs,e1,_⟩:=hrow z e;exact ne_cells g1 e1 (by decide) rfl
 have hnm:∀{k:TypeId} {R:Value→Option (DataW Unit×List MemPlace)} {b n:Nat} {D:DataW Unit},w.ownsMap prog k R b n D→¬(b=s∨some b=v.ownBlock):=by
  rintro k R b n D hm (e|e)
  ·exact ne_map hm h.st.set e
  ·obtain⟨cs,e1,_⟩:=hrow b e;exact ne_map hm e1 rfl
 have hzn:=h.zn.kept hk hZ hnz (hnm h.zn.nodes) (hnm g3);have hT:Turn B w W:=Turn.zonal hk hZ h.size (fun k e=>by
  rcases e with e|e
  ·rw[e];exact h.st.h2
  ·exact(hrow k e).choose_spec.2)
 obtain⟨q1,q2,q3,q4⟩:=hzn.setN (c':=((ds'.length:Nat):Int));have hsz:=(heap_set (i:=3) (v:=.int .i64 ((ds'.length:Nat):Int)) ((hk.block z (lt_block g1) hnz).trans g1))
 have hzW:=(hk.block z (lt_block g1) hnz).trans g1;have hms:=ownsMap_block h.st.sets (hk.block _ h.st.sets.lt (hnm h.st.sets));have hd:=h1.zonal q2 q3
 refine⟨⟨q1,⟨⟨A',c',cells_zonal (cells_zonal g5 hk hZ zT_node) q2 q3 zT_node,row_zonal (row_zonal g6 hk hZ zT_str) q2 q3 zT_str⟩,ownsMap_block hms (q2.block _ hms.lt (ne_map hms hzW)),(q2.block s (lt_block hs) (ne_cells hs hzW (by decide))).trans hs, ?_,hd,h.st.h1,h.st.h2⟩,h.n1,h.n2⟩,hT.trans q4⟩;refine Kept.row hr q2 fun k hkb e=> ?_;obtain⟨cs,e1,_⟩:=row_block hr hkb
 exact ne_cells e1 hzW (by decide) e
section
variable {w w':World} {B z bn bb x bs s:Nat} {ap n:List Lab} {t ttl:Int} {v:Value} {ds:List (Blob×Blob)} {c:Int} {D D2:DataW Unit} {f:Lab→Int} {N N2:Nat}
theorem Foc.setSets(h:Foc w B z bn bb x bs s ap n t ttl v ds c D D2 f N N2)(hg:w.grownBy w' (some bs)):
 Zn w' B z bn bb ap c D f N∧(∃A c,w'.heap[x]? =some (.cells #[.slice A n.length c,.map (some bs)] 112 (0,0))∧w'.ownsRow B 9 1 (.slice A n.length c) n.length ((lower n).map strV))∧Kept (fun k=>k=bs) w w'∧Zonal (fun k=>k=bs) w:=by
 have hk:Kept (fun k=>k=bs) w w':=(Kept.of_grown hg).mono (fun k _ h=>by cases h;rfl);have hZ:Zonal (fun k=>k=bs) w:=Zonal.map h.st.sets;obtain⟨A,ca,g1,g2⟩:=h.zn.blk;obtain⟨A',c',g5,g6⟩:=h.st.node;exact⟨h.zn.kept hk hZ (Ne.symm (ne_map h.st.sets g1)) (Ne.symm h.n1) (Ne.symm h.n2),⟨A',c',cells_zonal g5 hk hZ zT_node,row_zonal g6 hk hZ zT_str⟩,hk,hZ⟩
end
theorem GoneKeep(w:World)(B z bn bb x bs s:Nat)(ap n:List Lab)(t ttl:Int)(v:Value)(ds:List (Blob×Blob))(c:Int)(D D2:DataW Unit)(f:Lab→Int)(N N2:Nat)(h:Foc w B z bn bb x bs s ap n t ttl v ds c D D2 f N N2)(hds:ds≠[])(hsz:Maps.size D2≠0)(A:Option Addr)(m:List Lab)(cn:Nat)(hA:Cs w A (m.map strV))(hm:Small m)(hmn:zkey m=zkey n)(hn:Small n)(hwt:(Lit.int .u16 t).wf=true):
 Calls prog 111 #[.pointer (some ⟨z,0,none⟩),.slice A m.length cn,.int .u16 t] w fun e w'=>e=.returned (.tuple #[])∧Below w.heap.size w w':=by
 have HK:=hid (ZKey A m cn w hA hm);rw[hmn]at HK;have HO:=hid h;have hkl:=keyOf_str (zkey n) (zkey_len hn);have hkt:=keyOf_u16 t hwt;have hdl:¬(ds.length:Int)=0:=by
  intro e;exact hds (List.eq_nil_of_length_eq_zero (by omega))
 have hml:¬((Maps.size D2:Nat):Int)=0:=by omega
 clear h hA;go_enter func111,ntmps111;go_wp2_with fail;refine HK.out.mono ?_;rintro e w1 ⟨rfl,hb1⟩;have hO1:=HO.out.ext hb1;obtain⟨Aa,ca,hzb,hza⟩:=hO1.zn.blk;obtain⟨z0,z1,z2,z3,zf⟩:=cells4 hzb;obtain⟨An,cnn,hxb,hxn⟩:=hO1.st.node;obtain⟨x0,x1,xf⟩:=cells2 hxb;obtain⟨s0,s1,sf⟩:=cells2 hO1.st.set;obtain⟨Av,cv,rfl,_⟩:=own_form hO1.st.row
 have hl1:=look_ptr hO1.zn.nodes keyS underlying100 rfl hkl (hO1.hD:_=ptrD (some x));have hl2:=look_ptr hO1.st.sets keyT underlying110 rfl hkt (hO1.hD2:_=ptrD (some s));replace hl1:(Instr.lookup 100 (.map (some bn)) (strV (zkey n)) false).run prog w1=.ok (.pointer (some ⟨x,0,none⟩)) w1:=hl1
 replace hl2:(Instr.lookup 110 (.map (some bs)) (.int .u16 t) false).run prog w1=.ok (.pointer (some ⟨s,0,none⟩)) w1:=hl2;have hS1:=hO1.st.sets;generalize hds0:ds.length=dn at *;generalize hsz0:Maps.size D2=sz at *
 go_wp2_with (first
  |(at_len;refine wpList_len_own _ rfl _ 110 rfl 36 115 underlying110 _ bs N2 _ rfl hS1 ?_;rw[hsz0]))
 go_end0
 exact⟨rfl,hb1⟩
theorem GoneSet(w:World)(B z bn bb x bs s:Nat)(ap n:List Lab)(t ttl:Int)(v:Value)(c:Int)(D D2:DataW Unit)(f:Lab→Int)(N N2:Nat)(h:Foc w B z bn bb x bs s ap n t ttl v [] c D D2 f N N2)(hsz:Maps.size (D2.del (.int .u16 t))≠0)(A:Option Addr)(m:List Lab)(cn:Nat)(hA:Cs w A (m.map strV))(hm:Small m)(hmn:zkey m=zkey n)(hn:Small n)(hwt:(Lit.int .u16 t).wf=true):
 Calls prog 111 #[.pointer (some ⟨z,0,none⟩),.slice A m.length cn,.int .u16 t] w fun e w'=>e=.returned (.tuple #[])∧Zn w' B z bn bb ap c D f N∧NdG w' B x bs n N2 (D2.del (.int .u16 t))∧Kept (fun k=>k=bs) w w':=by
 have hml:¬((Maps.size (D2.del (.int .u16 t)):Nat):Int)=0:=by omega
 have hB1:=h.st.h1;have HK:=hid (ZKey A m cn w hA hm);rw[hmn]at HK;have HO:=hid h;have hkl:=keyOf_str (zkey n) (zkey_len hn);have hkt:=keyOf_u16 t hwt;clear h hA;go_enter func111,ntmps111;go_wp2_with fail;refine HK.out.mono ?_;rintro e w1 ⟨rfl,hb1⟩;have hO1:=HO.out.ext hb1;obtain⟨Aa,ca,hzb,hza⟩:=hO1.zn.blk;obtain⟨z0,z1,z2,z3,zf⟩:=cells4 hzb
 obtain⟨An,cnn,hxb,hxn⟩:=hO1.st.node;obtain⟨x0,x1,xf⟩:=cells2 hxb;obtain⟨s0,s1,sf⟩:=cells2 hO1.st.set;obtain⟨Av,cv,rfl,_⟩:=own_form hO1.st.row;have hl1:=look_ptr hO1.zn.nodes keyS underlying100 rfl hkl (hO1.hD:_=ptrD (some x));have hl2:=look_ptr hO1.st.sets keyT underlying110 rfl hkt (hO1.hD2:_=ptrD (some s))
 replace hl1:(Instr.lookup 100 (.map (some bn)) (strV (zkey n)) false).run prog w1=.ok (.pointer (some ⟨x,0,none⟩)) w1:=hl1;replace hl2:(Instr.lookup 110 (.map (some bs)) (.int .u16 t) false).run prog w1=.ok (.pointer (some ⟨s,0,none⟩)) w1:=hl2;have hS1:=hO1.st.sets;have hK1:Kept (fun _=>False) w w1:=Kept.of_ext hb1;have tok1:True:=trivial
 generalize hsz0:Maps.size (D2.del (.int .u16 t))=sz at *
 go_wp2_with (first
  |(at_delete;have _t:=tok1;refine wpList_delete_own _ rfl _ _ 110 36 rfl 115 keyT underlying110 ptrR bs N2 _ rfl hS1 (.int .u16 t) (.int .u16 t) rfl hkt ?_;intro w2 hown2 ht2;clear tok1;obtain⟨hz2,⟨A2,c2,hx2,hxn2⟩,hk2,hZ2⟩:=hO1.setSets ht2.grown;obtain⟨x20,x21,_⟩:=cells2 hx2;have hN2:=hz2.nodes;obtain⟨A2z,c2z,hzb2,_⟩:=hz2.blk;obtain⟨_,z21,_⟩:=cells4 hzb2)
  |(at_len;refine wpList_len_own _ rfl _ 110 rfl 36 115 underlying110 _ bs N2 _ rfl hown2 ?_;rw[hsz0]))
 go_end0
 exact⟨rfl,hz2,⟨⟨A2,c2,hx2,hxn2⟩,hown2,hB1⟩,(hK1.mono (fun _ _ h=>h.elim)).trans hk2⟩
theorem GoneName(w:World)(B z bn bb x bs s:Nat)(ap n:List Lab)(t ttl:Int)(v:Value)(c:Int)(D D2:DataW Unit)(f:Lab→Int)(N N2:Nat)(h:Foc w B z bn bb x bs s ap n t ttl v [] c D D2 f N N2)(hsz:Maps.size (D2.del (.int .u16 t))=0)(A:Option Addr)(m:List Lab)(cn:Nat)(hA:Cs w A (m.map strV))(hm:Small m)(hmn:zkey m=zkey n)(hn:Small n)(hwt:(Lit.int .u16 t).wf=true)(hap1:1≤ap.length)(hapn:ap.length≤n.length)(hN:N≤3000000000000)(hf:∀m, -1000000≤f m∧f m≤1000000):
 Calls prog 111 #[.pointer (some ⟨z,0,none⟩),.slice A m.length cn,.int .u16 t] w fun e w'=>e=.returned (.tuple #[])∧∃N',N'≤N+n.length+2∧N≤N'∧Zn w' B z bn bb ap c (D.del (.string (zkey n))) (cnt f (lower n) (-1) (n.length - ap.length+1)) N'∧Kept (fun k=>k=bs∨k=bn∨k=bb) w w':=by
 have HK:=hid (ZKey A m cn w hA hm);rw[hmn]at HK;have HO:=hid h;have hkl:=keyOf_str (zkey n) (zkey_len hn);have hkt:=keyOf_u16 t hwt;clear h hA;go_enter func111,ntmps111;go_wp2_with fail;refine HK.out.mono ?_;rintro e w1 ⟨rfl,hb1⟩;have hO1:=HO.out.ext hb1;obtain⟨Aa,ca,hzb,hza⟩:=hO1.zn.blk;obtain⟨z0,z1,z2,z3,zf⟩:=cells4 hzb;obtain⟨An,cnn,hxb,hxn⟩:=hO1.st.node
 obtain⟨x0,x1,xf⟩:=cells2 hxb;obtain⟨s0,s1,sf⟩:=cells2 hO1.st.set;obtain⟨Av,cv,rfl,_⟩:=own_form hO1.st.row;have hl1:=look_ptr hO1.zn.nodes keyS underlying100 rfl hkl (hO1.hD:_=ptrD (some x));have hl2:=look_ptr hO1.st.sets keyT underlying110 rfl hkt (hO1.hD2:_=ptrD (some s))
 replace hl1:(Instr.lookup 100 (.map (some bn)) (strV (zkey n)) false).run prog w1=.ok (.pointer (some ⟨x,0,none⟩)) w1:=hl1;replace hl2:(Instr.lookup 110 (.map (some bs)) (.int .u16 t) false).run prog w1=.ok (.pointer (some ⟨s,0,none⟩)) w1:=hl2;have hS1:=hO1.st.sets;have hK1:Kept (fun _=>False) w w1:=Kept.of_ext hb1;have tok1:True:=trivial;have tok2:True:=trivial
 have HF:Hid (∀m, -1000000≤f m∧f m≤1000000):=hid hf;have HHl:=hid hn;clear hf
 go_wp2_with (first
  |(at_delete;have _t:=tok1;refine wpList_delete_own _ rfl _ _ 110 36 rfl 115 keyT underlying110 ptrR bs N2 _ rfl hS1 (.int .u16 t) (.int .u16 t) rfl hkt ?_;intro w2 hown2 ht2;clear tok1;obtain⟨hz2,⟨A2,c2,hx2,hxn2⟩,hk2,hZ2⟩:=hO1.setSets ht2.grown;obtain⟨x20,x21,_⟩:=cells2 hx2;have hN2:=hz2.nodes;obtain⟨A2z,c2z,hzb2,_⟩:=hz2.blk;obtain⟨_,z21,_⟩:=cells4 hzb2)
  |(at_len;refine wpList_len_own _ rfl _ 110 rfl 36 115 underlying110 _ bs N2 _ rfl hown2 ?_;rw[hsz])
  |(at_delete;have _t:=tok2;refine wpList_delete_own _ rfl _ _ 100 9 rfl 109 keyS underlying100 ptrR bn N _ rfl hN2 (strV (zkey n)) (.string (zkey n)) rfl hkl ?_;intro w3 hown3 ht3;clear tok2;have HP3:=hid (hz2.setNodes ht3.grown hown3 (Nat.le_refl N));have hx3:=cells_zonal hx2 HP3.out.2.1 HP3.out.2.2.1 zT_node;obtain⟨x30,x31,_⟩:=cells2 hx3))
 obtain⟨hz3,hk3,hZ3,hT3⟩:=HP3.out;have hxn3:=row_zonal hxn2 hk3 hZ3 zT_str;obtain⟨A3,c3,hzb3,_⟩:=hz3.blk;obtain⟨E3,hE3,hs3⟩:=hz3.below;obtain⟨hq1,hq2⟩:=own_caps hxn3
 have HCt:=hid (Counted z bn bb (0,0) A3 ap.length c3 _ A2 (lower n) c2 (-1) N E3 f w3 hzb3 hE3 hs3 (by omega) HF.out (.inr rfl) (cs_own hxn3).2 HHl.out.lower (by rw[lower_len];exact hq1) hq2 (by rw[lower_len];exact hapn) hap1);rw[lower_len]at HCt;refine HCt.out.mono ?_;rintro e w4 ⟨rfl,hk4,E4,N4,hE4,hN4,hs4⟩;have hP4:=hz3.setBelow (N':=N+n.length+2) hk4 (hE4.mono (by omega)) hs4 (by omega)
 have hF1:=hP4.1;have hF2:Kept (fun k=>k=bs∨k=bn∨k=bb) w w4:=(((hK1.mono (fun _ _ h=>h.elim)).trans (hk2.mono (fun _ _ h=>.inl h))).trans (hk3.mono (fun _ _ h=>.inr (.inl h)))).trans (hk4.mono (fun _ _ h=>.inr (.inr h)));clear hz2 hz3 hP4 HCt HP3 hk3 hk4 hE4 hE3 hs4 hs3;go_wp2_with fail
 go_end0
 exact⟨rfl,_,Nat.le_refl _,by omega,hF1,hF2⟩
end Nm
namespace Nm
def delQ(Q:List Sq)(s:Nat):List Sq:=Q.filter fun r=> !decide (r.s=s)
def delP(P:List Nq)(n:List Lab):List Nq:=P.filter fun p=> !decide (p.n=n)
theorem mem_delQ{Q:List Sq}{s:Nat}{r:Sq}:r∈delQ Q s↔r∈Q∧r.s≠s:=by simp[delQ]
theorem mem_delP{P:List Nq}{n:List Lab}{p:Nq}:p∈delP P n↔p∈P∧p.n≠n:=by simp[delP]
theorem delQ_same{Q:List Sq}{s:Nat}(h:∀r∈Q,r.s≠s):delQ Q s=Q:=List.filter_eq_self.2 fun r hr=>by simp[h r hr]
theorem delP_same{P:List Nq}{n:List Lab}(h:∀r∈P,r.n≠n):delP P n=P:=List.filter_eq_self.2 fun r hr=>by simp[h r hr]
theorem total_delQ{Q:List Sq}(h:(Q.map (·.s)).Nodup){q:Sq}(hq:q∈Q):total (delQ Q q.s)+q.ds.length=total Q:=by
 induction Q with
 |nil=>cases hq
 |cons r Q ih=>
  rw[List.map_cons,List.nodup_cons]at h;have e1:∀(r:Sq) (Q:List Sq),total (r::Q)=r.ds.length+total Q:=fun r Q=>by simp[total]
  by_cases he:r.s=q.s
  ·have hr:r=q:=by
    rcases List.mem_cons.1 hq with e|hq
    ·exact e.symm
    ·exact absurd (List.mem_map.2 ⟨q,hq,he.symm⟩) h.1
   subst hr;have e2:delQ (r::Q) r.s=delQ Q r.s:=by simp[delQ]
   rw[e2,delQ_same (fun x hx e=>h.1 (List.mem_map.2 ⟨x,hx,e⟩)),e1];omega
  ·have e2:delQ (r::Q) q.s=r::delQ Q q.s:=by simp[delQ,he]
   rw[e2,e1,e1];rcases List.mem_cons.1 hq with e|hq
   ·exact absurd (by rw[e]) he
   ·have:=ih h.2 hq;omega
theorem delQ_updS(Q:List Sq){s:Nat}{q2:Sq}(hs:q2.s=s):delQ (updS Q s q2) s=delQ Q s:=by
 induction Q with
 |nil=>rfl
 |cons r Q ih=>
  have e2:updS (r::Q) s q2=(if r.s=s then q2 else r)::updS Q s q2:=rfl;unfold delQ at ih ⊢;rw[e2,List.filter_cons,List.filter_cons,ih];by_cases he:r.s=s
  ·rw[if_pos he];simp[hs,he]
  ·rw[if_neg he]
theorem nt_updS{Q:List Sq}(h:(Q.map (·.s)).Nodup){q q2:Sq}(hq:q∈Q)(hn:q2.n=q.n)(ht:q2.t=q.t):(updS Q q.s q2).map (fun q=>(q.n,q.t))=Q.map (fun q=>(q.n,q.t)):=by
 unfold updS;rw[List.map_map];refine List.map_congr_left fun x hx=> ?_;show((if x.s=q.s then q2 else x).n,(if x.s=q.s then q2 else x).t)=(x.n,x.t)
 split
 ·rename_i e;have:=uniq_s h hx hq e;subst this;rw[hn,ht]
 ·rfl
theorem setsOf_delQ(Q:List Sq)(s:Nat)(n:List Lab):setsOf (delQ Q s) n=delQ (setsOf Q n) s:=by
 unfold setsOf delQ;rw[List.filter_filter,List.filter_filter];congr 1;funext r;exact Bool.and_comm _ _
theorem ent_delQ{Q:List Sq}(hkQ:(Q.map fun q=>(q.n,q.t)).Nodup)(hs:(Q.map (·.s)).Nodup){q:Sq}(hq:q∈Q):((setsOf Q q.n).map Sq.ent).filter (fun p=> !p.1.sameKey (.int .u16 q.t))=(setsOf (delQ Q q.s) q.n).map Sq.ent:=by
 rw[setsOf_delQ,List.filter_map];congr 1;unfold delQ;refine List.filter_congr fun r hr=> ?_;show(!r.ent.1.sameKey (.int .u16 q.t))= !decide (r.s=q.s);obtain⟨h1,h2⟩:=mem_setsOf.1 hr;by_cases e:r.t=q.t
 ·have:=uniq_of (fun q:Sq=>(q.n,q.t)) hkQ h1 hq (by show(r.n,r.t)=(q.n,q.t);rw[h2,e]);subst this;have h3:r.ent.1.sameKey (.int .u16 r.t)=true:=sameKey_self (key_int _ _);rw[h3];simp
 ·have hne:r.ent.1≠.int .u16 q.t:=fun h=>by
   have h:Lit.int .u16 r.t=Lit.int .u16 q.t:=h;injection h with _ h;exact e h
  rw[Maps.sameKey_ne hne];have hrs:r.s≠q.s:=fun h=>e (by rw[uniq_s hs h1 hq h]);simp[hrs]
theorem ent_delP{ap:List Lab}{P:List Nq}(hok:∀p∈P,InZ ap p.n){p:Nq}(hp:p∈P):(P.map Nq.ent).filter (fun e=> !e.1.sameKey (.string (zkey p.n)))=(delP P p.n).map Nq.ent:=by
 rw[List.filter_map];congr 1;unfold delP;refine List.filter_congr fun r hr=> ?_;show(!r.ent.1.sameKey (.string (zkey p.n)))= !decide (r.n=p.n);by_cases e:r.n=p.n
 ·have h3:r.ent.1.sameKey (.string (zkey p.n))=true:=by
   show(Lit.string (zkey r.n)).sameKey (.string (zkey p.n))=true;rw[e];exact sameKey_self (key_lit _)
  rw[h3];simp[e]
 ·have hne:r.ent.1≠.string (zkey p.n):=fun h=>by
   have h:Lit.string (zkey r.n)=Lit.string (zkey p.n):=h;injection h with h;have:=zkey_inj (hok r hr).ok (hok p hp).ok h;rw[(hok r hr).low,(hok p hp).low]at this;exact e this
  rw[Maps.sameKey_ne hne];simp[e]
theorem cntP_delP{ap:List Lab}{P:List Nq}(hk:(P.map (·.n)).Nodup){p:Nq}(hp:p∈P):cntP ap (delP P p.n)=cnt (cntP ap P) p.n (-1) (p.n.length - ap.length+1):=by
 funext m;have e0:cnt (cntP ap P) p.n (-1) (p.n.length - ap.length+1) m=cntP ap P m - occ p.n (p.n.length - ap.length+1) m:=by
  simp[cnt];omega
 rw[e0]
 induction P with
 |nil=>cases hp
 |cons r P ih=>
  rw[List.map_cons,List.nodup_cons]at hk;have e1:∀(r:Nq) (P:List Nq),cntP ap (r::P) m=occ r.n (r.n.length - ap.length+1) m+cntP ap P m:=fun r P=>by simp[cntP]
  by_cases he:r.n=p.n
  ·have hr:r=p:=by
    rcases List.mem_cons.1 hp with e|hp
    ·exact e.symm
    ·exact absurd (List.mem_map.2 ⟨p,hp,he.symm⟩) hk.1
   subst hr;have e2:delP (r::P) r.n=delP P r.n:=by simp[delP]
   rw[e2,delP_same (fun x hx e=>hk.1 (List.mem_map.2 ⟨x,hx,e⟩)),e1];omega
  ·have e2:delP (r::P) p.n=r::delP P p.n:=by simp[delP,he]
   rw[e2,e1,e1];rcases List.mem_cons.1 hp with e|hp
   ·exact absurd (by rw[e]) he
   ·have:=ih hk.2 hp (by simp[cnt];omega);omega
section
variable {w w':World} {B z bn bb:Nat} {ap:List Lab} {P:List Nq} {Q:List Sq} {N N':Nat}
theorem ZG.delS(h:ZG w B z bn bb ap P Q N)(hkP:(P.map (·.n)).Nodup){p:Nq}{q:Sq}(hp:p∈P)(hq:q∈Q)(hpq:p.n=q.n)(hd:q.ds=[])(hk:Kept (fun k=>k=p.bs) w w')
 {D D2:DataW Unit} (hD:Ents D (P.map Nq.ent)) (hzn:Zn w' B z bn bb ap (total Q) D (cntP ap P) N) (hnd:NdG w' B p.x p.bs p.n N D2) (hD2:Ents D2 ((setsOf (delQ Q q.s) p.n).map Sq.ent)):
 ZG w' B z bn bb ap P (delQ Q q.s) N∧(∀k,zblk z bn bb P (delQ Q q.s) k→zblk z bn bb P Q k):=by
 obtain⟨D20,h20,_⟩:=h.nd p hp;have hZ:Zonal (fun k=>k=p.bs) w:=Zonal.map h20.sets;have ht:=total_delQ h.ds hq;rw[hd]at ht;refine⟨⟨⟨D, ?_,hD⟩,fun r hr=> ?_,fun r hr=> ?_,h.dbs, ?_, ?_⟩, ?_⟩
 ·have:total (delQ Q q.s)=total Q:=by simpa using ht
  rw[this];exact hzn
 ·by_cases e:r.n=p.n
  ·have:=uniq_of _ hkP hr hp e;subst this;exact⟨D2,hnd,hD2⟩
  ·obtain⟨D3,h3,h4⟩:=h.nd r hr;refine⟨D3,h3.kept hk hZ (fun es=>e (by rw[dbs_ne h.dbs hr hp es])), ?_⟩;rw[setsOf_delQ,delQ_same (fun x hx es=> ?_)]
   ·exact h4
   ·obtain⟨h5,h6⟩:=mem_setsOf.1 hx;have:=uniq_s h.ds h5 hq es;subst this;exact e (by rw[←h6,hpq])
 ·obtain⟨hr,_⟩:=mem_delQ.1 hr;have h3:=h.sd r hr;refine h3.kept hk hZ (fun e=>ne_map h20.sets h3.set e.symm) (fun b hb e=> ?_);obtain⟨cs,e1,_⟩:=row_block h3.row hb;exact ne_map h20.sets e1 e.symm
 ·exact(h.ds.sublist ((List.filter_sublist).map _))
 ·exact h.dv.sublist List.filter_sublist
 ·rintro k (e|e|e|e|⟨r,hr,e⟩)
  ·exact .inl e
  ·exact .inr (.inl e)
  ·exact .inr (.inr (.inl e))
  ·exact .inr (.inr (.inr (.inl e)))
  ·exact .inr (.inr (.inr (.inr ⟨r,(mem_delQ.1 hr).1,e⟩)))
theorem ZG.delN(h:ZG w B z bn bb ap P Q N)(hkP:(P.map (·.n)).Nodup){p:Nq}{q:Sq}(hp:p∈P)(hq:q∈Q)(hpq:p.n=q.n)(hd:q.ds=[])(hl:setsOf (delQ Q q.s) p.n=[])(hk:Kept (fun k=>k=p.bs∨k=bn∨k=bb) w w')
 {D:DataW Unit} (hD:Ents D ((delP P p.n).map Nq.ent)) (hzn:Zn w' B z bn bb ap (total Q) D (cntP ap (delP P p.n)) N') (hN:N≤N'):
 ZG w' B z bn bb ap (delP P p.n) (delQ Q q.s) N'∧(∀k,zblk z bn bb (delP P p.n) (delQ Q q.s) k→zblk z bn bb P Q k):=by
 obtain⟨D20,h20,_⟩:=h.nd p hp;obtain⟨D0,h1,_⟩:=h.zn;obtain⟨E,g3,_⟩:=h1.below;have hZ:Zonal (fun k=>k=p.bs∨k=bn∨k=bb) w:=by
  rintro k (e|e|e)
  ·exact Zonal.map h20.sets k e
  ·exact Zonal.map h1.nodes k e
  ·exact Zonal.map g3 k e
 have hcS:∀{g:Nat} {cs:Array Value} {T:TypeId} {fr:Nat×Nat},w.heap[g]? =some (.cells cs T fr)→¬(g=p.bs∨g=bn∨g=bb):=fun hg e=>by
  rcases e with e|e|e
  ·exact ne_map h20.sets hg e.symm
  ·exact ne_map h1.nodes hg e.symm
  ·exact ne_map g3 hg e.symm
 have ht:=total_delQ h.ds hq;rw[hd]at ht;refine⟨⟨⟨D, ?_,hD⟩,fun r hr=> ?_,fun r hr=> ?_, ?_, ?_, ?_⟩, ?_⟩
 ·have:total (delQ Q q.s)=total Q:=by simpa using ht
  rw[this];exact hzn
 ·obtain⟨hr,hrn⟩:=mem_delP.1 hr;obtain⟨D3,h3,h4⟩:=h.nd r hr;obtain⟨b1,b2⟩:=h.bs_ne hr;refine⟨D3,(h3.kept hk hZ (fun es=> ?_)).mono hN, ?_⟩
  ·rcases es with e|e|e
   ·exact hrn (by rw[dbs_ne h.dbs hr hp e])
   ·exact b1 e
   ·exact b2 e
  ·rw[setsOf_delQ,delQ_same (fun x hx es=> ?_)]
   ·exact h4
   ·obtain⟨h5,h6⟩:=mem_setsOf.1 hx;have:=uniq_s h.ds h5 hq es;subst this;exact hrn (by rw[←h6,hpq])
 ·obtain⟨hr,_⟩:=mem_delQ.1 hr;have h3:=h.sd r hr;refine h3.kept hk hZ (hcS h3.set) (fun b hb=> ?_);obtain⟨cs,e1,_⟩:=row_block h3.row hb;exact hcS e1
 ·exact h.dbs.sublist (((List.filter_sublist (l:=P)).map _).cons_cons _ |>.cons_cons _)
 ·exact(h.ds.sublist ((List.filter_sublist).map _))
 ·exact h.dv.sublist List.filter_sublist
 ·rintro k (e|e|e|⟨r,hr,e⟩|⟨r,hr,e⟩)
  ·exact .inl e
  ·exact .inr (.inl e)
  ·exact .inr (.inr (.inl e))
  ·exact .inr (.inr (.inr (.inl ⟨r,(mem_delP.1 hr).1,e⟩)))
  ·exact .inr (.inr (.inr (.inr ⟨r,(mem_delQ.1 hr).1,e⟩)))
end
end Nm
end Go.Proofs.YtmbdoacafhljkaaGreat
