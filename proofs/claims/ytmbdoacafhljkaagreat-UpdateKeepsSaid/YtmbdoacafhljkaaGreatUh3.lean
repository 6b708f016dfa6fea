/- Texts merged by a program: SoaB, Open, Open2, RdMath, Reader, Reader2, Shape, Shape2, Read, Target. -/
import Derived.Defers
import Derived.Recover
import Derived.StillTailTactics
import Derived.IntWalk
import Derived.Laws.BitsAllLaws
import Derived.Test.YtmbdoacafhljkaaGreatUh1
import Derived.Test.YtmbdoacafhljkaaGreatUh2
set_option linter.unusedSimpArgs false
set_option linter.unusedVariables false
set_option maxRecDepth 1000000
set_option maxHeartbeats 20000000
open Go.Proofs.Tryz
namespace Go.Proofs.YtmbdoacafhljkaaGreat
open Go.RowKit
namespace Nm
structure SoaM where
 m:List Lab
 x:List Lab
 s1:Nat
 s2:Nat
 s3:Nat
 s4:Nat
 s5:Nat
structure SoaM.fits(g:SoaM):Prop where
 m:Small g.m
 x:Small g.x
 s1:g.s1 < 4294967296
 s2:g.s2 < 4294967296
 s3:g.s3 < 4294967296
 s4:g.s4 < 4294967296
 s5:g.s5 < 4294967296
def SoaM.bytes(g:SoaM):Lab:=wire g.m++wire g.x++be4 g.s1++be4 g.s2++be4 g.s3++be4 g.s4++be4 g.s5
def SoaM.v(g:SoaM)(A:Option Addr)(ca:Nat)(B:Option Addr)(cb:Nat):Value:=.agg #[.slice A g.m.length ca,.slice B g.x.length cb,.int .u32 g.s1,.int .u32 g.s2,.int .u32 g.s3,.int .u32 g.s4,.int .u32 g.s5]
theorem cells7{w:World}{g:Nat}{T:TypeId}{c0 c1 c2 c3 c4 c5 c6:Value}(h:w.heap[g]? =some (.cells #[c0,c1,c2,c3,c4,c5,c6] T (0,0))):
 w.cell? ⟨g,0,none⟩=some c0∧w.cell? ⟨g,1,none⟩=some c1∧w.cell? ⟨g,2,none⟩=some c2∧w.cell? ⟨g,3,none⟩=some c3∧w.cell? ⟨g,4,none⟩=some c4∧w.cell? ⟨g,5,none⟩=some c5∧w.cell? ⟨g,6,none⟩=some c6∧∀i,w.frozen? ⟨g,i,none⟩=false:=by
 refine⟨?_, ?_, ?_, ?_, ?_, ?_, ?_,fun i=>by simp[World.frozen?,h]⟩ <;> (rw[cell_of_row w g _ _ _ _ h];rfl)
theorem SoaBytes(g:SoaM)(hg:g.fits)(A B:Option Addr)(ca cb:Nat)(w:World)(hA:Cs w A (g.m.map strV))(hB:Cs w B (g.x.map strV)):
 Calls prog 147 #[g.v A ca B cb] w fun e w'=>∃v,e=.returned v∧w'.ownsRow w.heap.size 5 1 v g.bytes.length (g.bytes.map byteV)∧Below w.heap.size w w':=by
 obtain⟨i0,hi,hz0,hz1,hz2⟩:=info_parts info_u8;unfold SoaM.v;have hb1:Below w.heap.size w (w.alloc (.cells #[.slice A g.m.length ca,.slice B g.x.length cb,.int .u32 g.s1,.int .u32 g.s2,.int .u32 g.s3,.int .u32 g.s4,.int .u32 g.s5] 91)):=bAl
 have hblk:=heap_alloc_new w (.cells #[.slice A g.m.length ca,.slice B g.x.length cb,.int .u32 g.s1,.int .u32 g.s2,.int .u32 g.s3,.int .u32 g.s4,.int .u32 g.s5] 91);obtain⟨k0,k1,k2,k3,k4,k5,k6,_⟩:=cells7 hblk;have hsz:(w.alloc (.cells #[.slice A g.m.length ca,.slice B g.x.length cb,.int .u32 g.s1,.int .u32 g.s2,.int .u32 g.s3,.int .u32 g.s4,.int .u32 g.s5] 91)).heap.size=w.heap.size+1:=by simp
 go_enter func147,ntmps147;go_wp2_with fail;generalize w.alloc (.cells #[.slice A g.m.length ca,.slice B g.x.length cb,.int .u32 g.s1,.int .u32 g.s2,.int .u32 g.s3,.int .u32 g.s4,.int .u32 g.s5] 91)=w1 at *;have hwm:=wire_len_few hg.m;have hwx:=wire_len_few hg.x
 have HWA:Hid (∀W,Below w1.heap.size w1 W→Calls prog 118 #[.slice A g.m.length ca] W fun e w'=>∃v,e=.returned v∧w'.ownsRow W.heap.size 5 1 v (wire g.m).length ((wire g.m).map byteV)∧Below W.heap.size W w'):=hid fun W hW=>Wire A g.m ca W ((hA.below hb1).below hW) hg.m
 have HWB:Hid (∀W,Below w1.heap.size w1 W→Calls prog 118 #[.slice B g.x.length cb] W fun e w'=>∃v,e=.returned v∧w'.ownsRow W.heap.size 5 1 v (wire g.x).length ((wire g.x).map byteV)∧Below W.heap.size W w'):=hid fun W hW=>Wire B g.x cb W ((hB.below hb1).below hW) hg.x
 have HBY:Hid (∀a b,wire g.m=a→wire g.x=b→g.bytes=a++b++be4 g.s1++be4 g.s2++be4 g.s3++be4 g.s4++be4 g.s5):=hid fun a b h1 h2=>by rw[←h1,←h2];rfl
 clear hA hB hblk;generalize hwa:wire g.m=a at *;generalize hwb:wire g.x=b at *;have HB2:=hid (HBY.out a b rfl rfl);have HG:=hid hg;clear HBY hwa hwb hg
 refine wp_region_mono mixed0 (by kernel_rfl) [.is (.pointer (some ⟨w.heap.size,0,none⟩)),.is (.slice A g.m.length ca),.own w1.heap.size 5 1 a.length (a.map byteV),.is (.pointer (some ⟨w.heap.size,1,none⟩)),.is (.slice B g.x.length cb),.own w1.heap.size 5 1 b.length (b.map byteV),
  blobsF [a,b],.own w1.heap.size 5 1 (a++b).length ((a++b).map byteV),.own w1.heap.size 5 1 (a++b).length ((a++b).map byteV)] rfl ?_ ?_
 ·intro i o hio vals W hE haf;have e0:=(bcl (o:=0) hE (by omega)).trans k0;have e1:=(bcl (o:=1) hE (by omega)).trans k1;rcases i with _|_|_|_|_|_|_|_|_|i
  all_goals first
   |(exfalso;simp at hio;done)
   |(simp at hio;subst hio;simp[bindD,rdB,Region.binds,factAt]at haf;simp[opU,go_sem,haf,e0,e1,Ext.refl,factAt];done)
   |skip
  all_goals
   simp at hio;subst hio;simp[bindD,rdB,Region.binds,factAt]at haf
  ·simp[opU,go_sem,haf,factAt];refine(HWA.out W hE).mono fun e W' h5=> ?_;obtain⟨v,he,ho,hb⟩:=h5;exact⟨v,he,hb,own_base ho hE.size⟩
  ·simp[opU,go_sem,haf,factAt];refine(HWB.out W hE).mono fun e W' h5=> ?_;obtain⟨v,he,ho,hb⟩:=h5;exact⟨v,he,hb,own_base ho hE.size⟩
  ·obtain⟨h2,h5⟩:=haf;obtain⟨A4,c4,e4,_,hc4⟩:=Cs.of_own h2;obtain⟨A7,c7,e7',_,hc7⟩:=Cs.of_own h5;simp[opU,go_sem,e4,e7',factAt];have hb5:Below W.heap.size W (W.alloc (.cells #[.slice A4 a.length c4,.slice A7 b.length c7] 37)):=bAl
   refine⟨hb5,some ⟨W.heap.size,0,none⟩,[⟨A4,a,c4⟩,⟨A7,b,c7⟩],rfl, ?_,rfl, ?_⟩
   ·exact cs_new W 37 [.slice A4 a.length c4,.slice A7 b.length c7] (0,0)
   ·intro z hz;rcases List.mem_cons.1 hz with rfl|hz
    ·exact Cs.below (w:=W) hc4 hb5
    ·rcases List.mem_cons.1 hz with rfl|hz
     ·exact Cs.below (w:=W) hc7 hb5
     ·cases hz
  ·rw[blobs_p]at haf;obtain⟨A9,bs,h1,h2,h3,h4⟩:=haf;simp[opU,go_sem,h1,factAt];have hbl:bs.length=2:=by have:=congrArg List.length h3;simpa using this
   have hj:join bs=a++b:=by rw[join_of h3];simp
   have hcc:=Concat A9 bs 2 W h2 h4 (by omega) (by rw[hj];simp;omega);rw[hbl]at hcc;refine hcc.mono fun e W' h5=> ?_;obtain⟨v,he,ho,hb⟩:=h5;refine⟨v,he,hb, ?_⟩;rw[hj]at ho;simpa using own_base ho hE.size
 ·intro vals W hE hF;simp only[facts]at hF;obtain⟨_,_,_,_,_,_,_,_,h8,_⟩:=hF;have h9:W.ownsRow w1.heap.size 5 1 (vals 8) (a++b).length ((a++b).map byteV):=h8;simp[relAct,dstAt,Act.put];have e2:=(bcl (o:=2) hE (by omega)).trans k2;have e3:=(bcl (o:=3) hE (by omega)).trans k3;have e4:=(bcl (o:=4) hE (by omega)).trans k4;have e5:=(bcl (o:=5) hE (by omega)).trans k5
  have e6:=(bcl (o:=6) hE (by omega)).trans k6;have hz:=hE.size;have hlab:(a++b).length≤2002002:=by simp;omega
  generalize a++b=xs0 at *;generalize vals 8=v0 at *;have hlt0:=fun k hk=>(h9.lt k hk)
  clear k0 k1 k2 k3 k4 k5 k6;have hbz:Below W.heap.size W (W.alloc (.cells #[.int .u32 g.s1,.int .u32 g.s2,.int .u32 g.s3,.int .u32 g.s4,.int .u32 g.s5] 35)):=bAl
  have hq:(W.alloc (.cells #[.int .u32 g.s1,.int .u32 g.s2,.int .u32 g.s3,.int .u32 g.s4,.int .u32 g.s5] 35)).heap[W.heap.size]? =some (.cells #[.int .u32 g.s1,.int .u32 g.s2,.int .u32 g.s3,.int .u32 g.s4,.int .u32 g.s5] 35 (0,0)):=heap_alloc_new W _
  have q0:(W.alloc (.cells #[.int .u32 g.s1,.int .u32 g.s2,.int .u32 g.s3,.int .u32 g.s4,.int .u32 g.s5] 35)).cell? ⟨W.heap.size,0,none⟩=some (.int .u32 g.s1):=by rw[cell_of_row _ _ 0 _ _ _ hq];rfl
  have q1:(W.alloc (.cells #[.int .u32 g.s1,.int .u32 g.s2,.int .u32 g.s3,.int .u32 g.s4,.int .u32 g.s5] 35)).cell? ⟨W.heap.size,1,none⟩=some (.int .u32 g.s2):=by rw[cell_of_row _ _ 1 _ _ _ hq];rfl
  have q2:(W.alloc (.cells #[.int .u32 g.s1,.int .u32 g.s2,.int .u32 g.s3,.int .u32 g.s4,.int .u32 g.s5] 35)).cell? ⟨W.heap.size,2,none⟩=some (.int .u32 g.s3):=by rw[cell_of_row _ _ 2 _ _ _ hq];rfl
  have q3:(W.alloc (.cells #[.int .u32 g.s1,.int .u32 g.s2,.int .u32 g.s3,.int .u32 g.s4,.int .u32 g.s5] 35)).cell? ⟨W.heap.size,3,none⟩=some (.int .u32 g.s4):=by rw[cell_of_row _ _ 3 _ _ _ hq];rfl
  have q4:(W.alloc (.cells #[.int .u32 g.s1,.int .u32 g.s2,.int .u32 g.s3,.int .u32 g.s4,.int .u32 g.s5] 35)).cell? ⟨W.heap.size,4,none⟩=some (.int .u32 g.s5):=by rw[cell_of_row _ _ 4 _ _ _ hq];rfl
  have hzz:(W.alloc (.cells #[.int .u32 g.s1,.int .u32 g.s2,.int .u32 g.s3,.int .u32 g.s4,.int .u32 g.s5] 35)).heap.size=W.heap.size+1:=by simp
  have HO0:=hid (own_below h9 hbz);have hn1:¬some W.heap.size=v0.ownBlock:=fun h=>by have:=hlt0 _ h.symm;omega
  have hBz:=(hb1.trans (hE.mono (by omega))).trans (hbz.mono (by omega));clear hq h9 hlt0 hbz;go_wp2_with fail;clear e2 e3 e4 e5 e6;refine wp_loop_rounds 6 ?_;rw[rounds_succ];go_wp2_with fail;generalize W.alloc (.cells #[.int .u32 g.s1,.int .u32 g.s2,.int .u32 g.s3,.int .u32 g.s4,.int .u32 g.s5] 35)=W0 at *;have mv0:=Moved.refl v0 W0
  refine(put4 w1.heap.size v0 (xs0.length) _ g.s1 W0 HO0.out (by omega) (by omega) HG.out.s1).mono ?_;rintro e W1 ⟨v1,rfl,own1,mvn1⟩;have mv1:=mv0.trans mvn1;have s1:=mv1.kept.size;have r1:=(mv1.kept.cell (o:=1) (show W.heap.size < _ by omega) hn1).trans q1;have HO1:=hid own1;clear own1;go_wp2_with fail;rw[rounds_succ];go_wp2_with fail
  refine(put4 w1.heap.size v1 (xs0.length+4) _ g.s2 W1 HO1.out (by omega) (by omega) HG.out.s2).mono ?_;rintro e W2 ⟨v2,rfl,own2,mvn2⟩;have mv2:=mv1.trans mvn2;have s2:=mv2.kept.size;have r2:=(mv2.kept.cell (o:=2) (show W.heap.size < _ by omega) hn1).trans q2;have HO2:=hid own2;clear own2;go_wp2_with fail;rw[rounds_succ];go_wp2_with fail
  refine(put4 w1.heap.size v2 (xs0.length+4+4) _ g.s3 W2 HO2.out (by omega) (by omega) HG.out.s3).mono ?_;rintro e W3 ⟨v3,rfl,own3,mvn3⟩;have mv3:=mv2.trans mvn3;have s3:=mv3.kept.size;have r3:=(mv3.kept.cell (o:=3) (show W.heap.size < _ by omega) hn1).trans q3;have HO3:=hid own3;clear own3;go_wp2_with fail;rw[rounds_succ];go_wp2_with fail
  refine(put4 w1.heap.size v3 (xs0.length+4+4+4) _ g.s4 W3 HO3.out (by omega) (by omega) HG.out.s4).mono ?_;rintro e W4 ⟨v4,rfl,own4,mvn4⟩;have mv4:=mv3.trans mvn4;have s4:=mv4.kept.size;have r4:=(mv4.kept.cell (o:=4) (show W.heap.size < _ by omega) hn1).trans q4;have HO4:=hid own4;clear own4;go_wp2_with fail;rw[rounds_succ];go_wp2_with fail
  refine(put4 w1.heap.size v4 (xs0.length+4+4+4+4) _ g.s5 W4 HO4.out (by omega) (by omega) HG.out.s5).mono ?_;rintro e W5 ⟨v5,rfl,own5,mvn5⟩;have mv5:=mv4.trans mvn5;have s5:=mv5.kept.size;have HO5:=hid own5;clear own5;go_wp2_with fail;rw[rounds_succ];go_wp2_with fail;go_ret;have hbF:=hBz.trans (mv5.below HO0.out (by omega) |>.mono (by omega));refine⟨_,rfl, ?_,hbF⟩
  have ho:=own_base HO5.out (show w.heap.size≤w1.heap.size by omega);rw[HB2.out];have hl:(xs0++be4 g.s1++be4 g.s2++be4 g.s3++be4 g.s4++be4 g.s5).length=xs0.length+4+4+4+4+4:=by simp[be4]
  rw[hl];exact ho
def failP(e:Int):List PanicEntry:=[{v:=.iface 311 (.agg #[.int .i64 e]),recovered:=false}]
theorem fail(e:Int)(w:World):Calls prog 234 #[.int .i64 e] w fun r w'=>r=.panicked (failP e)∧w=w':=by
 go_enter func234,ntmps234;go_wp2_with fail;exact⟨rfl,rfl,rfl⟩
def Open1R(b:Lab)(w:World)(v at_:Value)(wr:World):Prop:=
 ∃(k:Nat) (n:List Lab),k≤b.length∧at_=.int .i64 k∧n.length≤k∧wr.ownsRow w.heap.size 9 1 v n.length (n.map strV)∧parse b=pre n k (parse (b.drop k))∧Below w.heap.size w wr
theorem Open1(p:Addr)(A:Option Addr)(b:Lab)(cap:Nat)(w:World)(hp:w.cell? p=some (.slice A b.length cap))(hpb:p.block < w.heap.size)(hc:Cs w A (b.map byteV))(hb:b.length≤100000)(hcap:b.length≤cap)(hcap2:cap≤maxLen):
 Calls prog 233 #[.pointer (some p)] w fun e w'=>Below w.heap.size w w'∧
  ((∃n k v,parse b=some (n,k)∧e=.returned (.tuple #[v,.int .i64 k])∧w'.ownsRow w.heap.size 9 1 v n.length (n.map strV))∨(parse b=none∧e=.panicked (failP 30))):=by
 obtain⟨i0,hi,hz0,hz1,hz2⟩:=info_parts info_str;unfold maxLen at hcap2;go_enter func233,ntmps233;go_wp2_with fail
 go_loopw [3,4] (Open1R b w) (fun _ i _=>b.length - (intOf i).toNat)
 case atStart=>exact⟨0,[],Nat.zero_le _,rfl,Nat.zero_le _,World.ownsRow_nil _ _ _ _,by rw[pre_nil];rfl,Below.refl _ _⟩
 case round=>
  obtain⟨k,n,hk,rfl,hnk,hown,hpre,hbel⟩:=hrel;have hp1:=(hbel.cell hpb).trans hp;have HP:=hid hpre;clear hpre;by_cases hlt:k < b.length
  ·obtain⟨bk,off,rfl,hbl,hc0⟩:=Cs.byte hc hlt;have hc1:=(hbel.cell (p:=⟨bk,off+k,none⟩) hbl).trans hc0;have HL:=hid (pre_long (n:=n) hlt);have HE:=hid (pre_end (n:=n) hlt);have HO:=hid (pre_short (n:=n) hlt);have HS:=hid (pre_step (n:=n) hlt);have hcc:b[k].toNat < 256:=UInt8.toNat_lt _;generalize b[k].toNat=c at *;by_cases h63:63 < c
   ·go_wp2_with fail;refine(fail 30 _).mono ?_;rintro e w' ⟨rfl,rfl⟩;go_wp2_with fail;exact⟨rfl,hbel,.inr ⟨by rw[HP.out,HL.out h63],rfl⟩⟩
   ·by_cases h0:c=0
    ·have h0b:((c:Int)==0)=true:=by simp[h0]
     have H0:=hid h0;clear h0;go_wp2_with fail
     go_ret2
     exact⟨hbel,.inl ⟨n,k+1,_,by rw[HP.out,HE.out H0.out],rfl,hown⟩⟩
    ·have h0b:((c:Int)==0)=false:=by simp[h0]
     by_cases h2:k+1+c≤b.length
     ·have hlab:((b.drop (k+1)).take c).length=c:=by rw[List.length_take,List.length_drop];omega
      have hcs:=((hc.below (hbel.trans (Below.refl _ _))).drop' (k+1) cap (by simpa using hcap)).take' c;rw[if_neg (by omega),←List.map_drop,←List.map_take]at hcs;have hcv:(convert 37 9 (.slice (some ⟨bk,off+(k+1),none⟩) c (cap - (k+1)))).run prog wr=.ok (.string (strB ((b.drop (k+1)).take c))) wr:=by
       have:=run_str (P:=prog) wr underlying37 underlying5 underlying9 (cap - (k+1)) hcs;rw[hlab]at this;exact this
      have HS2:=hid (HS.out h0 h63 h2);have HLab:=hid hlab;clear hlab hcs HS HO HL HE;generalize(b.drop (k+1)).take c=lab at *
      go_wp2_with (first|(at_builtin;refine wpList_push2 hown hbel.size [strV lab] rfl (by simp[strV,Value.oneCell']) hi hz0 hz1 hz2 rfl (by decide) rfl _ _ 28 underlying28 rfl rfl rfl (by unfold maxLen;omega) (by omega) ?_;intro v4 w4 hown4 hbw4;have hbw5:=hbel.trans hbw4))
      refine⟨⟨k+1+c,n++[lab],h2,by go_num,by simp;omega,by rw[List.map_append,List.length_append];exact hown4,by rw[HP.out,HS2.out],hbw5⟩,by simp[intOf];omega⟩
     ·go_wp2_with fail;refine(fail 30 _).mono ?_;rintro e w' ⟨rfl,rfl⟩;go_wp2_with fail;exact⟨rfl,hbel,.inr ⟨by rw[HP.out,HO.out h0 h2],rfl⟩⟩
  ·have hkl:k=b.length:=by omega
   have HO:Hid (pre n k (parse (b.drop k))=none):=hid (pre_out hlt);clear hkl;go_wp2_with fail;refine(fail 30 _).mono ?_;rintro e w' ⟨rfl,rfl⟩;go_wp2_with fail;exact⟨rfl,hbel,.inr ⟨by rw[HP.out,HO.out],rfl⟩⟩
theorem three{w:World}{a b c:Nat}{x0 x1 x2:Value}(h0:w.cell? ⟨a,0,none⟩=some x0)(h1:w.cell? ⟨b,0,none⟩=some x1)(h2:w.cell? ⟨c,0,none⟩=some x2)(hab:a < b)(hbc:b < c)(v0 v1 v2:Value)(o:Obj){w':World}
 (hw:w'=((((w.setCell ⟨a,0,none⟩ v0).setCell ⟨b,0,none⟩ v1).setCell ⟨c,0,none⟩ v2).alloc o).drew):
 w'.cell? ⟨a,0,none⟩=some v0∧w'.cell? ⟨b,0,none⟩=some v1∧w'.cell? ⟨c,0,none⟩=some v2∧(a≤w.heap.size→Below a w w'):=by
 have a1:=setc_same (v:=v0) h0;have b1:=(setc_far (o:=0) (v:=v0) (show a≠b by omega)).trans h1;have c1:=(setc_far (o:=0) (v:=v0) (show a≠c by omega)).trans h2;have a2:=(setc_far (o:=0) (v:=v1) (show b≠a by omega)).trans a1;have b2:=setc_same (v:=v1) b1;have c2:=(setc_far (o:=0) (v:=v1) (show b≠c by omega)).trans c1;have a3:=(setc_far (o:=0) (v:=v2) (show c≠a by omega)).trans a2
 have b3:=(setc_far (o:=0) (v:=v2) (show c≠b by omega)).trans b2;have c3:=setc_same (v:=v2) c2;subst hw;exact⟨alloc_cell o a3,alloc_cell o b3,alloc_cell o c3,fun hs=>(((((Below.refl _ _).setCell (p:=⟨a,0,none⟩) (Nat.le_refl _) _).setCell (p:=⟨b,0,none⟩) (show a≤b by omega) _).setCell (p:=⟨c,0,none⟩) (show a≤c by omega) _).alloc (by simp[World.setCell];omega) o).drew⟩
theorem three_d{w:World}{a b c:Nat}{x0 x1 x2:Value}(h0:w.cell? ⟨a,0,none⟩=some x0)(h1:w.cell? ⟨b,0,none⟩=some x1)(h2:w.cell? ⟨c,0,none⟩=some x2)(hab:a < b)(hbc:b < c)(v0 v1 v2:Value){w':World}
 (hw:w'=(((w.setCell ⟨a,0,none⟩ v0).setCell ⟨b,0,none⟩ v1).setCell ⟨c,0,none⟩ v2).drew):
 w'.cell? ⟨a,0,none⟩=some v0∧w'.cell? ⟨b,0,none⟩=some v1∧w'.cell? ⟨c,0,none⟩=some v2∧Kept (fun k=>a≤k∧k≤c) w w':=by
 have a1:=setc_same (v:=v0) h0;have b1:=(setc_far (o:=0) (v:=v0) (show a≠b by omega)).trans h1;have c1:=(setc_far (o:=0) (v:=v0) (show a≠c by omega)).trans h2;have a2:=(setc_far (o:=0) (v:=v1) (show b≠a by omega)).trans a1;have b2:=setc_same (v:=v1) b1;have c2:=(setc_far (o:=0) (v:=v1) (show b≠c by omega)).trans c1;have a3:=(setc_far (o:=0) (v:=v2) (show c≠a by omega)).trans a2
 have b3:=(setc_far (o:=0) (v:=v2) (show c≠b by omega)).trans b2;have c3:=setc_same (v:=v2) c2;subst hw;exact⟨a3,b3,c3,((((Kept.refl _ _).setCell (p:=⟨a,0,none⟩) (fun _=>(show a≤a∧a≤c by omega)) _).setCell (p:=⟨b,0,none⟩) (fun _=>(show a≤b∧b≤c by omega)) _).setCell (p:=⟨c,0,none⟩) (fun _=>(show a≤c∧c≤c by omega)) _).drew⟩
theorem asserted_fail(er:Int)(W:World):(Instr.typeAssert (.iface 311 (.agg #[.int .i64 er])) 20 311 true).run prog W=.ok (.tuple #[.agg #[.int .i64 er],.bool true]) W:=by kernel_rfl
theorem caught1_panic(a b c:Nat)(x0 x1 x2:Value)(er:Int)(w:World)(h0:w.cell? ⟨a,0,none⟩=some x0)(h1:w.cell? ⟨b,0,none⟩=some x1)(h2:w.cell? ⟨c,0,none⟩=some x2)
 (f0:w.frozen? ⟨a,0,none⟩=false) (f1:w.frozen? ⟨b,0,none⟩=false) (f2:w.frozen? ⟨c,0,none⟩=false) (l0:a < w.heap.size) (l1:b < w.heap.size) (l2:c < w.heap.size) (hab:a < b) (hbc:b < c):
 CallsD prog 246 #[.pointer (some ⟨a,0,none⟩),.pointer (some ⟨b,0,none⟩),.pointer (some ⟨c,0,none⟩)] (.panicking (failP er)) w fun e u' w'=>
  e=.returned (.tuple #[])∧u'=.panicking [{v:=.iface 311 (.agg #[.int .i64 er]),recovered:=true}]∧
  w'.cell? ⟨a,0,none⟩=some (.slice none 0 0)∧w'.cell? ⟨b,0,none⟩=some (.int .i64 0)∧w'.cell? ⟨c,0,none⟩=some (.int .i64 er)∧Below a w w':=by
 have hta:=asserted_fail er;refine callsD_of_wpS func246 rfl fun c₀ cs hu=> ?_;apply wpS_seq;apply wpS_region;simp[wpOpsS,go_sem,recoverD,failP,hu,ntmps246,Exit.thenS];refine wpS_of_wp ?_;simp only[Array.replicate_succ,Array.replicate_zero,List.push_toArray,List.append_toArray,List.nil_append,List.cons_append,List.setIfInBounds_toArray,List.set_cons_succ,List.set_cons_zero]
 have n0:¬a=w.heap.size:=by omega
 have n1:¬b=w.heap.size:=by omega
 have n2:¬c=w.heap.size:=by omega
 have m0:¬w.heap.size=a:=by omega
 have m1:¬w.heap.size=b:=by omega
 have m2:¬w.heap.size=c:=by omega
 have d0:¬a=b:=by omega
 have d1:¬b=a:=by omega
 have d2:¬a=c:=by omega
 have d3:¬c=a:=by omega
 have d4:¬b=c:=by omega
 have d5:¬c=b:=by omega
 go_wp2_with fail
 go_region
 obtain⟨z0,z1,z2,z3⟩:=three h0 h1 h2 hab hbc (.slice none 0 0) (.int .i64 0) (.int .i64 er) (.cells #[.int .i64 er] 311) rfl;exact⟨rfl,_,rfl,_,results_none rfl _ _ _,rfl,rfl,z0,z1,z2,z3 (by omega)⟩
theorem caught1_idle(a b c:Addr)(w:World):CallsD prog 246 #[.pointer (some a),.pointer (some b),.pointer (some c)] .returning w fun e u' w'=>e=.returned (.tuple #[])∧u'=.returning∧w'=w:=by
 refine callsD_of_wpS func246 rfl fun c₀ cs hu=> ?_;apply wpS_seq;apply wpS_region;simp[wpOpsS,go_sem,recoverD,hu,ntmps246,Exit.thenS];refine wpS_of_wp ?_;simp only[Array.replicate_succ,Array.replicate_zero,List.push_toArray,List.append_toArray,List.nil_append,List.cons_append,List.setIfInBounds_toArray,List.set_cons_succ,List.set_cons_zero];go_wp2_with fail
 exact⟨rfl,.returning,by cases c₀;simp_all,_,results_none rfl _ _ _,rfl,rfl,rfl⟩
theorem caughtO(p:Addr)(A:Option Addr)(b:Lab)(cap:Nat)(w:World)(hp:w.cell? p=some (.slice A b.length cap))(hpb:p.block < w.heap.size)(hc:Cs w A (b.map byteV))(hb:b.length≤100000)(hcap:b.length≤cap)(hcap2:cap≤maxLen):
 Calls prog 232 #[.func (.func 233) #[] #[.pointer (some p)]] w fun e w'=>Below w.heap.size w w'∧
  ∃v,e=.returned (.tuple #[v,.int .i64 (openK b),.int .i64 (openE b)])∧w'.ownsRow w.heap.size 9 1 v (openN b).length ((openN b).map strV):=by
 have hmf:∀(fn:Fn) (first cap:Array Value) (w:World),(Instr.makeFunc fn first cap).run prog w=.ok (.func fn first cap) w:=fun _ _ _ _=>rfl
 go_enter_defers func232,ntmps232
 go_wp2_with fail;generalize hw3:((w.alloc (Obj.cells #[Value.slice none 0 0] 28)).alloc (Obj.cells #[Value.int IntKind.i64 0] 3)).alloc (Obj.cells #[Value.int IntKind.i64 0] 96)=w3;have hb3:Below w.heap.size w w3:=by rw[←hw3];exact(bAl.alloc (by simp) _).alloc (by simp;omega) _
 have hsz3:w3.heap.size=w.heap.size+3:=by rw[←hw3];simp
 have c0:w3.cell? ⟨w.heap.size,0,none⟩=some (.slice none 0 0):=by rw[←hw3];simp[go_sem]
 have c1:w3.cell? ⟨w.heap.size+1,0,none⟩=some (.int .i64 0):=by rw[←hw3];simp[go_sem]
 have c2:w3.cell? ⟨w.heap.size+1+1,0,none⟩=some (.int .i64 0):=by rw[←hw3];simp[go_sem]
 have f0:w3.frozen? ⟨w.heap.size,0,none⟩=false:=by rw[←hw3];simp[go_sem]
 have f1:w3.frozen? ⟨w.heap.size+1,0,none⟩=false:=by rw[←hw3];simp[go_sem]
 have f2:w3.frozen? ⟨w.heap.size+1+1,0,none⟩=false:=by rw[←hw3];simp[go_sem]
 clear hw3;refine(Open1 p A b cap w3 ((hb3.cell hpb).trans hp) (by omega) (hc.below hb3) (by omega) hcap hcap2).mono ?_;rintro e w4 ⟨hb4,hcase⟩;have d0:=(bcl hb4 (by omega)).trans c0;have d1:=(bcl hb4 (by omega)).trans c1;have d2:=(bcl hb4 (by omega)).trans c2;have g0:=(bfr hb4 (by omega)).trans f0;have g1:=(bfr hb4 (by omega)).trans f1;have g2:=(bfr hb4 (by omega)).trans f2;have hsz4:=hb4.size
 have hb5:Below w.heap.size w w4:=hb3.trans (hb4.mono (by omega));clear c0 c1 c2 f0 f1 f2;rcases hcase with⟨n,k,v,hpar,rfl,hown⟩|⟨hpar,rfl⟩
 ·have HP:=hid hpar;have HN:=hid (nameE_parse hpar);obtain⟨q1,q2,q3,q4⟩:=parse_some b.length b (Nat.le_refl _) hpar;have hfew:Few n:=⟨by omega,fun l hl=>by have:=(q3 l hl).2;omega⟩
  clear hpar q2 q3;obtain⟨A5,c5,rfl,_,hcs5⟩:=Cs.of_own hown;have m0:¬w.heap.size=w.heap.size+1:=by omega
  go_wp2_with fail;generalize hw6:(w4.setCell {block:=w.heap.size,off:=0} (Value.slice A5 n.length c5)).setCell {block:=w.heap.size+1,off:=0} (Value.int IntKind.i64 ↑k)=w6;have hb6:Below w.heap.size w4 w6:=by rw[←hw6];exact((Below.refl _ _).setCell (p:=⟨w.heap.size,0,none⟩) (Nat.le_refl _) _).setCell (p:=⟨w.heap.size+1,0,none⟩) (Nat.le_succ _) _
  have hk6:Kept (fun k=>k < w3.heap.size) w4 w6:=by rw[←hw6];exact((Kept.refl _ _).setCell (p:=⟨w.heap.size,0,none⟩) (fun _=>(show w.heap.size < w3.heap.size by omega)) _).setCell (p:=⟨w.heap.size+1,0,none⟩) (fun _=>(show w.heap.size+1 < w3.heap.size by omega)) _
  have e0:w6.cell? ⟨w.heap.size,0,none⟩=some (.slice A5 n.length c5):=by rw[←hw6];simp[go_sem,d0,d1]
  have e1:w6.cell? ⟨w.heap.size+1,0,none⟩=some (.int .i64 k):=by rw[←hw6];simp[go_sem,d0,d1]
  have e2:w6.cell? ⟨w.heap.size+1+1,0,none⟩=some (.int .i64 0):=by rw[←hw6];simp[go_sem,d0,d1,d2]
  have k0:w6.frozen? ⟨w.heap.size,0,none⟩=false:=by rw[←hw6];simp[go_sem,g0]
  have k1:w6.frozen? ⟨w.heap.size+1,0,none⟩=false:=by rw[←hw6];simp[go_sem,g1]
  have k2:w6.frozen? ⟨w.heap.size+1+1,0,none⟩=false:=by rw[←hw6];simp[go_sem,g2]
  have hown6:w6.ownsRow w3.heap.size 9 1 (.slice A5 n.length c5) n.length (n.map strV):=Kept.row hown hk6 (fun k hk=>by have:=(hown.lt k hk).1;omega);obtain⟨_,_,hx1,_,hcs6⟩:=Cs.of_own hown6;cases hx1;have hb7:=hb5.trans hb6;have hs6:=hk6.size;clear hw6 hcs5 d0 d1 d2 g0 g1 g2 hk6;refine(Check A5 n c5 w6 hcs6 hfew).mono ?_;rintro e w' ⟨rfl,rfl⟩;have n0:¬w.heap.size+1=w.heap.size:=by omega
  have n1:¬w.heap.size+1+1=w.heap.size:=by omega
  have n2:¬w.heap.size=w.heap.size+1+1:=by omega
  have n3:¬w.heap.size+1+1=w.heap.size+1:=by omega
  have n4:¬w.heap.size+1=w.heap.size+1+1:=by omega
  by_cases h5:255 < k
  ·have e31:nameE n=31:=by rw[HN.out,if_pos h5]
   have H1:Hid (openK b=0∧openE b=31∧openN b=[]):=hid (by unfold openK openE openN;rw[HP.out];simp[h5]);rw[e31];clear e31 HN HP;go_wp2_with fail;refine(fail 31 _).mono ?_;rintro e w' ⟨rfl,rfl⟩;go_wp2_with fail
   refine leaves_cons (f:=246) (args:= #[.pointer (some ⟨w.heap.size,0,none⟩),.pointer (some ⟨w.heap.size+1,0,none⟩),.pointer (some ⟨w.heap.size+1+1,0,none⟩)]) (by simp) (by simp[go_sem]) ?_;refine(caught1_panic w.heap.size (w.heap.size+1) (w.heap.size+1+1) _ _ _ 31 w6 e0 e1 e2 k0 k1 k2 (by omega) (by omega) (by omega) (by omega) (by omega)).mono ?_
   rintro e u' w9 ⟨rfl,rfl,z0,z1,z2,hb9⟩;simp[Leaves,settle,results,results232,go_sem,z0,z1,z2];refine⟨hb7.trans hb9, ?_⟩;rw[H1.out.1,H1.out.2.1,H1.out.2.2];exact⟨_,⟨rfl,rfl,rfl⟩,World.ownsRow_nil _ _ _ _⟩
  ·have e0':nameE n=0:=by rw[HN.out,if_neg h5]
   have H1:Hid (openK b=k∧openE b=0∧openN b=n):=hid (by unfold openK openE openN;rw[HP.out];simp[h5]);rw[e0'];clear e0' HN HP;go_wp2_with fail
   go_region
   go_wp2_with fail;generalize hw8:(((w6.setCell {block:=w.heap.size,off:=0} (Value.slice A5 n.length c5)).setCell {block:=w.heap.size+1,off:=0} (Value.int IntKind.i64 ↑k)).setCell {block:=w.heap.size+1+1,off:=0} (Value.int IntKind.i64 0)).drew=w8;obtain⟨z0,z1,z2,hk8⟩:=three_d e0 e1 e2 (by omega) (by omega) _ _ _ hw8.symm;clear hw8
   have hown8:=Kept.row hown6 hk8 (fun k hk=>by have:=(hown.lt k hk).1;omega);have hb8:=hk8.below (B:=w.heap.size) (by omega) (fun k hk=>by omega);refine leaves_cons (f:=246) (args:= #[.pointer (some ⟨w.heap.size,0,none⟩),.pointer (some ⟨w.heap.size+1,0,none⟩),.pointer (some ⟨w.heap.size+1+1,0,none⟩)]) (by simp) (by simp[go_sem]) ?_;refine(caught1_idle _ _ _ _).mono ?_
   rintro e u' w9 ⟨rfl,rfl,rfl⟩;simp[Leaves,settle,results,results232,go_sem,z0,z1,z2];refine⟨hb7.trans hb8, ?_⟩;rw[H1.out.1,H1.out.2.1,H1.out.2.2];exact⟨_,⟨rfl,rfl,rfl⟩,own_base hown8 (by omega)⟩
 ·have H1:Hid (openK b=0∧openE b=30∧openN b=[]):=hid (by unfold openK openE openN;rw[hpar];exact⟨rfl,rfl,rfl⟩);clear hpar;go_wp2_with fail;refine leaves_cons (f:=246) (args:= #[.pointer (some ⟨w.heap.size,0,none⟩),.pointer (some ⟨w.heap.size+1,0,none⟩),.pointer (some ⟨w.heap.size+1+1,0,none⟩)]) (by simp) (by simp[go_sem]) ?_
  refine(caught1_panic w.heap.size (w.heap.size+1) (w.heap.size+1+1) _ _ _ 30 w4 d0 d1 d2 g0 g1 g2 (by omega) (by omega) (by omega) (by omega) (by omega)).mono ?_;rintro e u' w5 ⟨rfl,rfl,z0,z1,z2,hb6⟩;simp[Leaves,settle,results,results232,go_sem,z0,z1,z2];refine⟨hb5.trans hb6, ?_⟩;rw[H1.out.1,H1.out.2.1,H1.out.2.2];exact⟨_,⟨rfl,rfl,rfl⟩,World.ownsRow_nil _ _ _ _⟩
theorem Open(A:Option Addr)(b:Lab)(cap:Nat)(w:World)(hc:Cs w A (b.map byteV))(hb:b.length≤100000)(hcap:b.length≤cap)(hcap2:cap≤maxLen):
 Calls prog 217 #[.slice A b.length cap] w fun e w'=>Below w.heap.size w w'∧
  ∃v,e=.returned (.tuple #[v,.int .i64 (openK b),.int .i64 (openE b)])∧w'.ownsRow w.heap.size 9 1 v (openN b).length ((openN b).map strV):=by
 have hmf:∀(fn:Fn) (first cap:Array Value) (w:World),(Instr.makeFunc fn first cap).run prog w=.ok (.func fn first cap) w:=fun _ _ _ _=>rfl;go_enter func217,ntmps217;go_wp2_with fail;have hb1:Below w.heap.size w (w.alloc (.cells #[.slice A b.length cap] 37)):=bAl
 refine(caughtO ⟨w.heap.size,0,none⟩ A b cap _ (by simp[go_sem]) (by simp) (hc.below hb1) hb hcap hcap2).mono ?_;rintro e w2 ⟨hb2,v,rfl,hown⟩;go_wp2_with fail
 go_ret3
 exact⟨hb1.trans (hb2.mono (by simp)),v,rfl,own_base hown (by simp)⟩
def openO(b:Lab):Option (List Lab×Nat):=match parse b with
 |none=>none
 |some (n,k)=>if 255 < k then none else some (n,k)
theorem openO_some{b:Lab}{n:List Lab}{k:Nat}(h:openO b=some (n,k)):parse b=some (n,k)∧k≤255∧openE b=0∧openN b=n∧openK b=k:=by
 unfold openO at h;unfold openE openN openK;cases hp:parse b with
 |none=>rw[hp]at h;cases h
 |some p=>
  obtain⟨n',k'⟩:=p;rw[hp]at h;simp only at h ⊢;split at h
  ·cases h
  ·rename_i h1;cases h;rw[if_neg h1,if_neg h1,if_neg h1];exact⟨rfl,by omega,rfl,rfl,rfl⟩
theorem openO_none{b:Lab}(h:openO b=none):openE b≠0∧openN b=[]∧openK b=0:=by
 unfold openO at h;unfold openE openN openK;cases hp:parse b with
 |none=>exact⟨by decide,rfl,rfl⟩
 |some p=>
  obtain⟨n',k'⟩:=p;rw[hp]at h;simp only at h ⊢;split at h
  ·rename_i h1;rw[if_pos h1,if_pos h1,if_pos h1];exact⟨by decide,rfl,rfl⟩
  ·cases h
theorem openO_le{b:Lab}{n:List Lab}{k:Nat}(h:openO b=some (n,k)):k≤b.length∧wire n=b.take k∧(∀l∈n,1≤l.length∧l.length≤63)∧n.length < k:=by
 obtain⟨h1,_⟩:=openO_some h;exact parse_some b.length b (Nat.le_refl _) h1
def wholeB(b:Lab):Bool:=match openO b with
 |none=>false
 |some (_,k)=>k==b.length
def textsB:Nat→Lab→Bool
 |0,_=>false
 |_+1,[]=>true
 |f+1,c::r=>decide (c.toNat≤r.length)&&textsB f (r.drop c.toNat)
def soaO(b:Lab):Option (List Lab×List Lab×Nat):=match openO b with
 |none=>none
 |some (m,i)=>match openO (b.drop i)with
  |none=>none
  |some (x,k)=>if b.length=i+k+20 then some (m,x,i+k)else none
def chk(t:Int)(b:Lab):Bool:=decide (b.length≤8192)&&
 (if t=1 then b.length==4 else if t=28 then b.length==16 else if t=2∨t=5 then wholeB b else if t=15 then decide (2≤b.length)&&wholeB (b.drop 2)
  else if t=6 then(soaO b).isSome else if t=16 then !b.isEmpty &&textsB (b.length+1) b else if t=43 then decide (5≤b.length)
  else if t=46 then decide (18≤b.length)&&(openO (b.drop 18)).isSome else if t=48 then decide (4≤b.length)
  else if t=51 then decide (5≤b.length)&&b.length==5+(b.getD 4 0).toNat else true)
def canonO(t:Int)(b:Lab):Lab:=
 if t=2∨t=5 then wire (lower (openN b))else if t=15 then b.take 2++wire (lower (openN (b.drop 2)))
 else if t=6 then(match soaO b with|none=>[]|some (m,x,k)=>wire (lower m)++wire (lower x)++b.drop k)
 else if t=46 then b.take 18++wire (lower (openN (b.drop 18)))++b.drop (18+openK (b.drop 18))else b
def canonD(t:Int)(b:Lab):Lab:=if chk t b then canonO t b else b
def numOf:Lab→Nat→Nat
 |[],acc=>acc
 |c::r,acc=>numOf r ((acc *256+c.toNat) %4294967296)
theorem mixed:prog.follows .mixedOrders=true:=by kernel_rfl
def mustP:List PanicEntry:=[{v:=.iface 257 (.agg #[]),recovered:=false}]
theorem must_yes(w:World):Calls prog 180 #[.bool true] w fun r w'=>r=.returned (.tuple #[])∧w=w':=by
 go_enter func180,ntmps180;go_wp2_with fail
 go_end0
 exact⟨rfl,rfl⟩
theorem must_no(w:World):Calls prog 180 #[.bool false] w fun r w'=>r=.panicked mustP∧w=w':=by
 go_enter func180,ntmps180;go_wp2_with fail;exact⟨rfl,rfl,rfl⟩
structure Rdr(w:World)(r:Nat)(A:Option Addr)(l:Lab)(cap k:Nat):Prop where
 c0:w.cell? ⟨r,0,none⟩=some (.slice A l.length cap)
 c1:w.cell? ⟨r,1,none⟩=some (.int .i64 k)
 f1:w.frozen? ⟨r,1,none⟩=false
 hr:r < w.heap.size
 cs:Cs w A (l.map byteV)
 ne:∀a,A=some a→l.map byteV≠[]→a.block≠r
 len:l.length≤100000
 cap1:l.length≤cap
 cap2:cap≤maxLen
 le:k≤l.length
theorem Rdr.kept{S:Nat→Prop}{w w':World}{r:Nat}{A:Option Addr}{l:Lab}{cap k:Nat}(h:Rdr w r A l cap k)(hk:Kept S w w')(hr:¬S r)(hA:∀a,A=some a→l.map byteV≠[]→¬S a.block):Rdr w' r A l cap k:=
 ⟨(hk.cell h.hr hr).trans h.c0,(hk.cell h.hr hr).trans h.c1,(hk.frozen h.hr hr).trans h.f1,Nat.lt_of_lt_of_le h.hr hk.size,Kept.cs h.cs hk hA,h.ne,h.len,h.cap1,h.cap2,h.le⟩
theorem Rdr.ext{w w':World}{r:Nat}{A:Option Addr}{l:Lab}{cap k:Nat}(h:Rdr w r A l cap k)(hk:Below w.heap.size w w'):Rdr w' r A l cap k:=h.kept (Kept.of_ext hk) (fun h=>h) (fun _ _ _ h=>h)
theorem Rdr.move{w:World}{r:Nat}{A:Option Addr}{l:Lab}{cap k:Nat}(h:Rdr w r A l cap k){k':Nat}(hk:k'≤l.length):Rdr (w.setCell ⟨r,1,none⟩ (.int .i64 k')) r A l cap k':=by
 have hkp:Kept (fun b=>b=r) w (w.setCell ⟨r,1,none⟩ (.int .i64 k')):=Kept.setCell (S:=fun b=>b=r) (Kept.refl _ _) (p:=⟨r,1,none⟩) (fun _=>rfl) _;refine⟨?_,setc_same h.c1,setc_frozen.trans h.f1,by simpa[World.setCell]using h.hr,Kept.cs h.cs hkp h.ne,h.ne,h.len,h.cap1,h.cap2,hk⟩;rw[World.cell?_setCell_other _ _ _ _ (by simp)];exact h.c0
theorem Rdr.drew{w:World}{r:Nat}{A:Option Addr}{l:Lab}{cap k:Nat}(h:Rdr w r A l cap k):Rdr w.drew r A l cap k:=h.kept ((Kept.refl (fun _=>False) _).drew) (fun h=>h) (fun _ _ _ h=>h)
def piece(A:Option Addr)(cap k:Nat):Option Addr:=if cap=k then A else A.map (fun x=>x.add k)
theorem take_yes(r:Nat)(A:Option Addr)(l:Lab)(cap k n:Nat)(w:World)(h:Rdr w r A l cap k)(hn:k+n≤l.length):
 Calls prog 185 #[.pointer (some ⟨r,0,none⟩),.int .i64 n] w fun e w'=>
  e=.returned (.slice (piece A cap k) n (cap - k))∧Rdr w' r A l cap (k+n)∧Kept (fun b=>b=r) w w':=by
 have c0:=h.c0;have c1:=h.c1;have f1:=h.f1;have hlen:=h.len;have hcap:=h.cap1;have hcap2:=h.cap2;unfold maxLen at hcap2;have hk:=h.le;have hwr:IntKind.i64.wrap ((l.length:Int) - k)=(l.length:Int) - k:=IntWalk.i64_in _ (by omega);have hle:decide ((n:Int)≤(l.length:Int) - k)=true:=by simp;omega
 have hks:((k:Int)+n - n)=k:=by omega
 have hmv:=h.move (k':=k+n) hn;have HM:=hid hmv;have H:=hid h;clear h hmv;go_enter func185,ntmps185;go_wp2_with fail
 go_still_tail 12,mixed
 go_wp2_with fail;refine(must_yes _).mono ?_;rintro e w' ⟨rfl,rfl⟩;go_wp2_with fail;have hM2:=HM.out;have d0:=hM2.c0;have d1:=hM2.c1;have hks2:IntKind.i64.wrap (((k+n:Nat):Int) - n)=k:=by rw[IntWalk.i64_in _ (by omega)];omega
 clear hM2 c0 c1 f1 hwr hks;rw[show((k:Int)+n)=((k+n:Nat):Int)from by omega];generalize hw1:w.setCell ⟨r,1,none⟩ (.int .i64 ((k+n:Nat):Int))=w1 at *;have hk1:Kept (fun b=>b=r) w w1:=by rw[←hw1];exact Kept.setCell (S:=fun b=>b=r) (Kept.refl _ _) (p:=⟨r,1,none⟩) (fun _=>rfl) _
 have HR:∀(B:Option Addr) (m c:Nat),B=piece A cap k→m=n→c=cap - k→(Ending.returned (.slice B m c)=Ending.returned (.slice (piece A cap k) n (cap - k))∧Rdr w1.drew.drew r A l cap (k+n)∧Kept (fun b=>b=r) w w1.drew.drew):=fun B m c h1 h2 h3=>by
  subst h1 h2 h3;exact⟨rfl,HM.out.drew.drew,hk1.drew.drew⟩
 have HR2:=hid HR;clear HR hw1;unfold piece at HR2;by_cases hck:cap=k
 ·rw[if_pos hck]at HR2
  go_region
  go_wp2_with fail;go_ret;unfold piece;rw[if_pos hck];exact HR2.out _ _ _ rfl (by omega) (by omega)
 ·rw[if_neg hck]at HR2;cases A with
  |none=>
   go_region
   go_wp2_with fail;go_ret;unfold piece;rw[if_neg hck];exact HR2.out _ _ _ rfl (by omega) (by omega)
  |some a=>
   go_region
   go_wp2_with fail;go_ret;unfold piece;rw[if_neg hck];exact HR2.out _ _ _ rfl (by omega) (by omega)
theorem take_no(r:Nat)(A:Option Addr)(l:Lab)(cap k n:Nat)(w:World)(h:Rdr w r A l cap k)(hn:¬k+n≤l.length)(hn2:n≤100000):
 Calls prog 185 #[.pointer (some ⟨r,0,none⟩),.int .i64 n] w fun e w'=>
  e=.panicked mustP∧Kept (fun b=>b=r) w w':=by
 have c0:=h.c0;have c1:=h.c1;have hlen:=h.len;have hk:=h.le;have hwr:IntKind.i64.wrap ((l.length:Int) - k)=(l.length:Int) - k:=IntWalk.i64_in _ (by omega);have hle:decide ((n:Int)≤(l.length:Int) - k)=false:=by simp;omega
 clear h;go_enter func185,ntmps185;go_wp2_with fail
 go_still_tail 12,mixed
 go_wp2_with fail;refine(must_no _).mono ?_;rintro e w' ⟨rfl,rfl⟩;go_wp2_with fail;exact⟨rfl,rfl,(Kept.refl _ _).drew⟩
theorem numOf_lt:∀(l:Lab) (a:Nat),a < 4294967296→numOf l a < 4294967296
 |[],a,h=>h
 |c::r,a,_=>numOf_lt r _ (Nat.mod_lt _ (by omega))
theorem numOf_snoc:∀(l:Lab) (c:UInt8) (a:Nat),numOf (l++[c]) a=(numOf l a *256+c.toNat) %4294967296
 |[],_,_=>rfl
 |d::l,c,a=>numOf_snoc l c _
theorem or8(N x:Nat)(hx:x < 256):bits BinOp.or IntKind.u32 ((N:Int) *256 %4294967296) (x:Int)=(((N *256+x) %4294967296:Nat):Int):=by
 have e:(N:Int) *256 %4294967296=((2 ^ 8 *(N %16777216):Nat):Int):=by omega
 rw[e,u32_or_nat _ _ (by omega) (by omega),←Nat.two_pow_add_eq_or_of_lt (by omega:x < 2 ^ 8)];omega
def NumR(p:Lab)(w:World)(o i:Value)(wr:World):Prop:=∃k:Nat,k≤p.length∧i=.int .i64 k∧o=.int .u32 (numOf (p.take k) 0:Nat)∧w=wr
theorem piece_cs{w:World}{A:Option Addr}{l:Lab}{cap k n:Nat}(h:Cs w A (l.map byteV))(hcap:l.length≤cap):Cs w (piece A cap k) (((l.drop k).take n).map byteV):=by
 have:=(h.drop' k cap (by simpa using hcap)).take' n;rw[←List.map_drop,←List.map_take]at this;exact this
theorem piece_len{l:Lab}{k n:Nat}(hn:k+n≤l.length):((l.drop k).take n).length=n:=by rw[List.length_take,List.length_drop];omega
theorem num_yes(r:Nat)(A:Option Addr)(l:Lab)(cap k n:Nat)(w:World)(h:Rdr w r A l cap k)(hn:k+n≤l.length):
 Calls prog 173 #[.pointer (some ⟨r,0,none⟩),.int .i64 n] w fun e w'=>
  e=.returned (.int .u32 (numOf ((l.drop k).take n) 0:Nat))∧Rdr w' r A l cap (k+n)∧Kept (fun b=>b=r) w w':=by
 have hlen:=h.len;go_enter func173,ntmps173;go_wp2_with fail;refine(take_yes r A l cap k n w h hn).mono ?_;rintro e w1 ⟨rfl,hr1,hk1⟩;have hcs:=piece_cs (k:=k) (n:=n) hr1.cs h.cap1;have hpl:=piece_len hn;generalize hpp:(l.drop k).take n=p at *;have hpe:=hid hpp;clear hpp;generalize piece A cap k=B at *;have HR:=hid hr1;clear hr1;obtain rfl:p.length=n:=hpl;go_wp2_with fail
 go_loopw [5,12] (NumR p w1) (fun _ i _=>p.length - (intOf i).toNat)
 case atStart=>exact⟨0,Nat.zero_le _,rfl,rfl,rfl⟩
 case round=>
  obtain⟨j,hj,rfl,rfl,rfl⟩:=hrel;have hlt0:=numOf_lt (p.take j) 0 (by omega);by_cases hlt:j < p.length
  ·obtain⟨bk,off,rfl,hbl,hc0⟩:=Cs.byte hcs hlt;have HN:Hid (numOf (p.take (j+1)) 0=(numOf (p.take j) 0 *256+p[j].toNat) %4294967296):=hid (by rw[List.take_succ_eq_append_getElem hlt,numOf_snoc]);have hcc:p[j].toNat < 256:=UInt8.toNat_lt _;generalize numOf (p.take j) 0=a at *;generalize p[j].toNat=c at *;go_wp2_with fail
   exact⟨⟨j+1,by omega,by go_num,by rw[HN.out,or8 a c hcc],rfl⟩,by simp[intOf];omega⟩
  ·have hjl:j=p.length:=by omega
   rw[hjl,List.take_length]at hlt0 ⊢;clear hjl;go_wp2_with fail;go_ret;exact⟨by rw[hpe.out];rfl,HR.out,hk1⟩
theorem num_no(r:Nat)(A:Option Addr)(l:Lab)(cap k n:Nat)(w:World)(h:Rdr w r A l cap k)(hn:¬k+n≤l.length)(hn2:n≤100000):
 Calls prog 173 #[.pointer (some ⟨r,0,none⟩),.int .i64 n] w fun e w'=>e=.panicked mustP∧Kept (fun b=>b=r) w w':=by
 go_enter func173,ntmps173;go_wp2_with fail;refine(take_no r A l cap k n w h hn hn2).mono ?_;rintro e w1 ⟨rfl,hk1⟩;go_wp2_with fail;exact⟨rfl,rfl,hk1⟩
theorem name(r:Nat)(A:Option Addr)(l:Lab)(cap k:Nat)(w:World)(h:Rdr w r A l cap k):
 Calls prog 172 #[.pointer (some ⟨r,0,none⟩)] w fun e w'=>Kept (fun b=>b=r) w w'∧
  ((∃n j v,openO (l.drop k)=some (n,j)∧e=.returned v∧Rdr w' r A l cap (k+j)∧w'.ownsRow w.heap.size 9 1 v n.length (n.map strV))∨
    (openO (l.drop k)=none∧e=.panicked mustP)):=by
 have c0:=h.c0;have c1:=h.c1;have f1:=h.f1;have hlen:=h.len;have hcap:=h.cap1;have hcap2:=h.cap2;unfold maxLen at hcap2;have hk:=h.le;have hcs:Cs w (piece A cap k) ((l.drop k).map byteV):=by
  have:=h.cs.drop' k cap (by simpa using hcap);rw[←List.map_drop]at this;exact this
 have hlk:(l.drop k).length=l.length - k:=List.length_drop;have H:=hid h;clear h;have hcase:(openO (l.drop k)=some (openN (l.drop k),openK (l.drop k))∧openE (l.drop k)=0∧k+openK (l.drop k)≤l.length)∨(openO (l.drop k)=none∧¬openE (l.drop k)=0):=by
  cases hO:openO (l.drop k)with
  |none=>exact .inr ⟨rfl,(openO_none hO).1⟩
  |some p=>
   obtain⟨n,j⟩:=p;obtain⟨_,_,g1,g2,g3⟩:=openO_some hO;have:=(openO_le hO).1;exact .inl ⟨by rw[g2,g3],g1,by rw[g3];omega⟩
 have HC:=hid hcase;have hOp:∀W,Ext w W→Calls prog 217 #[.slice (piece A cap k) (l.length - k) (cap - k)] W fun e w'=>Below W.heap.size W w'∧
  ∃v,e=.returned (.tuple #[v,.int .i64 (openK (l.drop k)),.int .i64 (openE (l.drop k))])∧w'.ownsRow W.heap.size 9 1 v (openN (l.drop k)).length ((openN (l.drop k)).map strV):=fun W hE=>by
  have:=Open (piece A cap k) (l.drop k) (cap - k) W (hcs.below hE) (by omega) (by omega) (by unfold maxLen;omega);rw[hlk]at this;exact this
 clear hcase;generalize openN (l.drop k)=N at *;generalize openK (l.drop k)=K at *;generalize openE (l.drop k)=E at *;have HOp:=hid hOp;clear hOp hcs hlk;go_enter func172,ntmps172;go_wp2_with fail
 refine wp_region_mono mixed (by kernel_rfl) [.is (.pointer (some ⟨r,0,none⟩)),.is (.pointer (some ⟨r,0,none⟩)),.is (.pointer (some ⟨r,0,none⟩)),.is (.slice A l.length cap),.is (.pointer (some ⟨r,0,none⟩)),.is (.pointer (some ⟨r,0,none⟩)),.is (.pointer (some ⟨r,1,none⟩)),.is (.int .i64 k),
  .is (.slice (piece A cap k) (l.length - k) (cap - k)),.tup3 (.own w.heap.size 9 1 N.length (N.map strV)) (.is (.int .i64 K)) (.is (.int .i64 E)),
  .tup3 (.own w.heap.size 9 1 N.length (N.map strV)) (.is (.int .i64 K)) (.is (.int .i64 E)),
  .own w.heap.size 9 1 N.length (N.map strV),.is (.int .i64 K),.is (.int .i64 E),
  .own w.heap.size 9 1 N.length (N.map strV),.is (.int .i64 K),.is (.int .i64 E)] rfl ?_ ?_
 ·intro i o hio vals W hE haf;have hRW:=H.out.ext hE;have e0:=hRW.c0;have e1:=hRW.c1;rcases i with _|_|_|_|_|_|_|_|_|_|_|_|_|_|_|_|_|i
  all_goals first
   |(exfalso;simp at hio;done)
   |(simp at hio;subst hio;simp[bindD,rdB,Region.binds,factAt]at haf;simp[opU,go_sem,haf,e0,e1,Ext.refl,factAt,hk,piece];done)
   |skip
  all_goals
   simp at hio;subst hio;simp[bindD,rdB,Region.binds,factAt]at haf
  ·simp[opU,go_sem,haf,factAt];refine(HOp.out W hE).mono fun e W' h5=> ?_;obtain⟨hb,v,he,ho⟩:=h5;exact⟨_,he,hb,Fact.tup3_mk (own_base ho hE.size) rfl rfl⟩
  all_goals
   simp[tup3_p]at haf;obtain⟨a,b,c,q1,q2,q3,q4⟩:=haf;simp[opU,go_sem,factAt,Ext.refl,q1,q2,q3,q4]
 ·intro vals W hE hF;simp[facts]at hF;have hown:W.ownsRow w.heap.size 9 1 (vals 14) N.length (N.map strV):=by simp[hF]
  have hF0:=hid hF;simp[relAct,dstAt,Act.put,hF];clear hF;generalize vals 14=v at *;have hRW:=H.out.ext hE;have e1:=hRW.c1;have e2:=hRW.f1;rcases HC.out with⟨hO,rfl,hle⟩|⟨hO,hne⟩
  ·have HO:=hid hO;have hmv:=hRW.move (k':=k+K) hle;have HM:=hid hmv;have hbl:=hRW.hr;have hownr:∀W',Kept (fun b=>b=r) W W'→W'.ownsRow w.heap.size 9 1 v N.length (N.map strV):=fun W' hk=>Kept.row hown hk (fun b hb=>by have:=(hown.lt b hb).1;have:=H.out.hr;omega);have HWr:=hid hownr;clear hO hmv hownr hRW;go_wp2_with fail;refine(must_yes _).mono ?_;rintro e w' ⟨rfl,rfl⟩
   go_wp2_with fail;rw[show((k:Int)+K)=((k+K:Nat):Int)from by omega];have hk9:Kept (fun b=>b=r) W (W.setCell ⟨r,1,none⟩ (.int .i64 ((k+K:Nat):Int))):=Kept.setCell (S:=fun b=>b=r) (Kept.refl _ _) (p:=⟨r,1,none⟩) (fun _=>rfl) _;go_ret;exact⟨((Kept.of_ext hE).mono (fun _ _ h=>h.elim)).trans hk9,.inl ⟨N,K,v,HO.out,rfl,HM.out,HWr.out _ hk9⟩⟩
  ·have hneb:(E==0)=false:=by simpa using hne
   clear hRW;go_wp2_with fail;refine(must_no _).mono ?_;rintro e w' ⟨rfl,rfl⟩;go_wp2_with fail;exact⟨rfl,(Kept.of_ext hE).mono (fun _ _ h=>h.elim),.inr ⟨hO,rfl⟩⟩
theorem numOf_one{l:Lab}{k:Nat}(h:k < l.length):numOf ((l.drop k).take 1) 0=l[k].toNat:=by
 rw[List.drop_eq_getElem_cons h,List.take_succ_cons,List.take_zero];have:=UInt8.toNat_lt l[k];show(0 *256+l[k].toNat) %4294967296=_;omega
theorem text_yes(r:Nat)(A:Option Addr)(l:Lab)(cap k:Nat)(w:World)(h:Rdr w r A l cap k)(hk:k < l.length)(hn:k+1+l[k].toNat≤l.length):
 Calls prog 179 #[.pointer (some ⟨r,0,none⟩)] w fun e w'=>Kept (fun b=>b=r) w w'∧Rdr w' r A l cap (k+1+l[k].toNat)∧∃v,e=.returned v∧w'.ownsRow w.heap.size 5 1 v l[k].toNat (((l.drop (k+1)).take l[k].toNat).map byteV):=by
 have hlen:=h.len;have HN:=hid (numOf_one hk);go_enter func179,ntmps179;go_wp2_with fail;refine(num_yes r A l cap k 1 w h (by omega)).mono ?_;rintro e w1 ⟨rfl,hr1,hk1⟩;rw[HN.out];have hcc:l[k].toNat < 256:=UInt8.toNat_lt _;have hcap:=h.cap1;have hpl:=piece_len (k:=k+1) (n:=l[k].toNat) hn;generalize hq0:l[k].toNat=c at *;have HQ:=hid hq0;clear hq0;go_wp2_with fail
 refine(take_yes r A l cap (k+1) c w1 hr1 hn).mono ?_;rintro e w2 ⟨rfl,hr2,hk2⟩;have hcs:=piece_cs (k:=k+1) (n:=c) hr2.cs hcap;generalize hq1:(l.drop (k+1)).take c=p at *;have HQ1:=hid hq1;clear hq1;generalize piece A cap (k+1)=B at *;obtain rfl:p.length=c:=hpl;have HR:=hid hr2;clear hr2 hr1 h;go_wp2_with fail;refine(CloneB B p (cap - (k+1)) w2 hcs (by omega)).mono ?_
 rintro e w3 ⟨v,rfl,hown,hb3⟩;go_wp2_with fail;go_ret;rw[HQ.out,HQ1.out];exact⟨(hk1.trans hk2).then (Kept.of_ext hb3) (fun _ _ h=>h.elim),HR.out.ext hb3,v,rfl,own_base hown ((hk1.trans hk2).size)⟩
theorem text_no(r:Nat)(A:Option Addr)(l:Lab)(cap k:Nat)(w:World)(h:Rdr w r A l cap k)(hn:¬(∃hk:k < l.length,k+1+l[k].toNat≤l.length)):
 Calls prog 179 #[.pointer (some ⟨r,0,none⟩)] w fun e w'=>Kept (fun b=>b=r) w w'∧e=.panicked mustP:=by
 have hlen:=h.len;have hle:=h.le;go_enter func179,ntmps179;go_wp2_with fail;by_cases hk:k < l.length
 ·have hn2:¬k+1+l[k].toNat≤l.length:=fun h=>hn ⟨hk,h⟩;have HN:=hid (numOf_one hk);clear hn;refine(num_yes r A l cap k 1 w h (by omega)).mono ?_;rintro e w1 ⟨rfl,hr1,hk1⟩;rw[HN.out];have hcc:l[k].toNat < 256:=UInt8.toNat_lt _;generalize l[k].toNat=c at *;go_wp2_with fail;refine(take_no r A l cap (k+1) c w1 hr1 hn2 (by omega)).mono ?_;rintro e w2 ⟨rfl,hk2⟩;go_wp2_with fail
  exact⟨rfl,hk1.trans hk2,rfl⟩
 ·clear hn;refine(num_no r A l cap k 1 w h (by omega) (by omega)).mono ?_;rintro e w1 ⟨rfl,hk1⟩;go_wp2_with fail;exact⟨rfl,hk1,rfl⟩
theorem rest(r:Nat)(A:Option Addr)(l:Lab)(cap k:Nat)(w:World)(h:Rdr w r A l cap k):
 Calls prog 176 #[.pointer (some ⟨r,0,none⟩)] w fun e w'=>Kept (fun b=>b=r) w w'∧Rdr w' r A l cap l.length∧∃v,e=.returned v∧w'.ownsRow w.heap.size 5 1 v (l.length - k) ((l.drop k).map byteV):=by
 have c0:=h.c0;have c1:=h.c1;have hlen:=h.len;have hk:=h.le;have hcap:=h.cap1;have hwr:IntKind.i64.wrap ((l.length:Int) - k)=((l.length - k:Nat):Int):=by rw[IntWalk.i64_in _ (by omega)];omega
 have hT:=take_yes r A l cap k (l.length - k) w.drew h.drew (by omega);have HT:=hid hT;have HP:Hid ((l.drop k).take (l.length - k)=l.drop k∧(l.drop k).length=l.length - k∧k+(l.length - k)=l.length):=hid ⟨List.take_of_length_le (by rw[List.length_drop];omega),List.length_drop,by omega⟩;have H:=hid h;clear hT h;go_enter func176,ntmps176;go_wp2_with fail
 go_still_tail 11,mixed
 clear c0 c1 hwr;go_wp2_with fail;refine HT.out.mono ?_;rintro e w1 ⟨rfl,hr1,hk1⟩;rw[HP.out.2.2]at hr1;have hcs:=piece_cs (k:=k) (n:=l.length - k) hr1.cs hcap;rw[HP.out.1]at hcs;have hC:=CloneB (piece A cap k) (l.drop k) (cap - k) w1 hcs (by rw[HP.out.2.1];omega);rw[HP.out.2.1]at hC;have HR:=hid hr1;clear hr1 hcs;generalize piece A cap k=B at *;go_wp2_with fail;refine hC.mono ?_
 rintro e w3 ⟨v,rfl,hown,hb3⟩;go_wp2_with fail;go_ret;exact⟨(Kept.refl _ _).drew.trans (hk1.then (Kept.of_ext hb3) (fun _ _ h=>h.elim)),HR.out.ext hb3,v,rfl,own_base hown hk1.size⟩
theorem textsB_fuel:∀(f g:Nat) (b:Lab),b.length < f→b.length < g→textsB f b=textsB g b
 |0,_,b,h,_=>by omega
 |_+1,0,b,_,h=>by omega
 |f+1,g+1,[],_,_=>rfl
 |f+1,g+1,c::r,h1,h2=>by
  unfold textsB;rw[textsB_fuel f g (r.drop c.toNat) (by simp at *;omega) (by simp at *;omega)]
def txt(l:Lab)(k:Nat):Bool:=textsB ((l.drop k).length+1) (l.drop k)
theorem txt_step{l:Lab}{k:Nat}(h:k < l.length):txt l k=(decide (k+1+l[k].toNat≤l.length)&&txt l (k+1+l[k].toNat)):=by
 unfold txt;rw[List.drop_eq_getElem_cons h]
 conv=>lhs;unfold textsB
 rw[List.drop_drop,textsB_fuel _ ((l.drop (k+1+l[k].toNat)).length+1) _ (by simp;omega) (by omega)];have:(l.drop (k+1)).length=l.length - (k+1):=List.length_drop;rw[this];have e:decide (l[k].toNat≤l.length - (k+1))=decide (k+1+l[k].toNat≤l.length):=by
  rw[decide_eq_decide];omega
 rw[e]
theorem txt_end{l:Lab}{k:Nat}(h:¬k < l.length):txt l k=true:=by
 unfold txt;rw[List.drop_eq_nil_of_le (by omega)];rfl
theorem txt_zero(l:Lab):textsB (l.length+1) l=txt l 0:=rfl
def TextsR(r:Nat)(A:Option Addr)(l:Lab)(cap k:Nat)(w wr:World):Prop:=∃j:Nat,Rdr wr r A l cap j∧Kept (fun b=>b=r) w wr∧txt l k=txt l j
theorem texts(r:Nat)(A:Option Addr)(l:Lab)(cap k:Nat)(w:World)(h:Rdr w r A l cap k):
 Calls prog 186 #[.pointer (some ⟨r,0,none⟩)] w fun e w'=>Kept (fun b=>b=r) w w'∧
  ((k < l.length∧txt l k=true∧e=.returned (.tuple #[])∧Rdr w' r A l cap l.length)∨((¬k < l.length∨txt l k=false)∧e=.panicked mustP)):=by
 have hlen:=h.len;have hle:=h.le;go_enter func186,ntmps186;go_wp2_with fail;by_cases hk:k < l.length
 ·have HS:=hid (txt_step hk);by_cases hn:k+1+l[k].toNat≤l.length
  ·refine(text_yes r A l cap k w h hk hn).mono ?_;rintro e w1 ⟨hk1,hr1,v,rfl,_⟩;have HT:Hid (txt l k=txt l (k+1+l[k].toNat)):=hid (by rw[HS.out];simp[hn]);clear h;generalize k+1+l[k].toNat=j0 at *;go_wp2_with fail
   go_loopw [] (TextsR r A l cap k w) (fun wr=>l.length - (intOf ((wr.cell? ⟨r,1,none⟩).getD (.int .i64 0))).toNat)
   case atStart=>exact⟨j0,hr1,hk1,HT.out⟩
   case round=>
    obtain⟨j,hr,hkk,ht⟩:=hrel;have c0:=hr.c0;have c1:=hr.c1;have hjl:=hr.le;have HR:=hid hr;have HT2:=hid ht;clear ht HT HS hr1 hr;by_cases hj:j < l.length
    ·have HS:=hid (txt_step hj);go_wp2_with fail
     go_region
     by_cases hn2:j+1+l[j].toNat≤l.length
     ·have hT3:=text_yes r A l cap j wr.drew HR.out.drew hj hn2;have HT3:=hid hT3;have HT:Hid (txt l j=txt l (j+1+l[j].toNat)):=hid (by rw[HS.out];simp[hn2]);have hj1:j < j+1+l[j].toNat:=by omega
      clear hT3 HS;generalize j+1+l[j].toNat=j1 at *;go_wp2_with fail;refine HT3.out.mono ?_;rintro e w2 ⟨hk2,hr2,v2,rfl,_⟩;have d1:=hr2.c1;go_wp2_with fail;refine⟨⟨j1,hr2,(hkk.drew).trans hk2,by rw[HT2.out,HT.out]⟩, ?_⟩;rw[d1,c1];simp[intOf];omega
     ·have hT3:=text_no r A l cap j wr.drew HR.out.drew (fun⟨_,h⟩=>hn2 h);have HT3:=hid hT3;clear hT3;go_wp2_with fail;refine HT3.out.mono ?_;rintro e w2 ⟨hk2,rfl⟩;go_wp2_with fail;exact⟨rfl,(hkk.drew).trans hk2,.inr ⟨.inr (by rw[HT2.out,HS.out];simp[hn2]),rfl⟩⟩
    ·have hje:j=l.length:=by omega
     have HE:=hid (txt_end hj);have HJ:=hid hje;clear hje;go_wp2_with fail
     go_region
     go_wp2_with fail
     go_end0
     have hr5:=HR.out.drew;rw[HJ.out]at hr5;exact⟨hkk.drew,.inl ⟨hk,by rw[HT2.out,HE.out],rfl,hr5⟩⟩
  ·refine(text_no r A l cap k w h (fun⟨_,h⟩=>hn h)).mono ?_;rintro e w1 ⟨hk1,rfl⟩;go_wp2_with fail;exact⟨rfl,hk1,.inr ⟨.inr (by rw[HS.out];simp[hn]),rfl⟩⟩
 ·refine(text_no r A l cap k w h (fun⟨h,_⟩=>hk h)).mono ?_;rintro e w1 ⟨hk1,rfl⟩;go_wp2_with fail;exact⟨rfl,hk1,.inr ⟨.inl hk,rfl⟩⟩
def shp(t:Int)(l:Lab):Bool:=
 if t=1 then l.length==4 else if t=28 then l.length==16 else if t=2∨t=5 then wholeB l else if t=15 then decide (2≤l.length)&&wholeB (l.drop 2)
 else if t=16 then !l.isEmpty &&txt l 0 else if t=43 then decide (5≤l.length)else if t=51 then decide (5≤l.length)&&l.length==5+(l.getD 4 0).toNat else true
theorem chk_shp{t:Int}(h1:t≠6)(h2:t≠46)(h3:t≠48)(l:Lab):chk t l=(decide (l.length≤8192)&&shp t l):=by
 unfold chk shp;congr 1;rw[txt_zero];simp only[h1,h2,h3,if_false]
def ShapeP(r:Nat)(A:Option Addr)(l:Lab)(cap:Nat)(t:Int)(w:World)(e:Ending)(w':World):Prop:=
 Kept (fun b=>b=r) w w'∧((∃j,e=.returned (.tuple #[])∧Rdr w' r A l cap j∧shp t l=decide (j=l.length))∨(shp t l=false∧e=.panicked mustP))
theorem wholeB_some{l:Lab}{n:List Lab}{j:Nat}(h:openO l=some (n,j)):wholeB l=decide (j=l.length):=by
 unfold wholeB;rw[h];simp only[];rw[Bool.eq_iff_iff];simp
theorem wholeB_none{l:Lab}(h:openO l=none):wholeB l=false:=by unfold wholeB;rw[h]
theorem shape_take(t:Int)(n:Nat)(hn2:n≤100000)(r:Nat)(A:Option Addr)(l:Lab)(cap:Nat)(w:World)(h:Rdr w r A l cap 0)(hs:shp t l=(l.length==n)):
 Calls prog 185 #[.pointer (some ⟨r,0,none⟩),.int .i64 n] w fun e w'=>Kept (fun b=>b=r) w w'∧((∃v,e=.returned v∧Rdr w' r A l cap n∧shp t l=decide (n=l.length))∨(shp t l=false∧e=.panicked mustP)):=by
 by_cases hn:0+n≤l.length
 ·refine(take_yes r A l cap 0 n w h hn).mono ?_;rintro e w' ⟨rfl,h1,h2⟩;rw[Nat.zero_add]at h1;refine⟨h2,.inl ⟨_,rfl,h1, ?_⟩⟩;rw[hs,Bool.eq_iff_iff];simp;omega
 ·refine(take_no r A l cap 0 n w h hn hn2).mono ?_;rintro e w' ⟨rfl,h1⟩;refine⟨h1,.inr ⟨?_,rfl⟩⟩;rw[hs];simp;omega
theorem shape(r:Nat)(A:Option Addr)(l:Lab)(cap:Nat)(t:Int)(w:World)(h:Rdr w r A l cap 0):
 Calls prog 130 #[.pointer (some ⟨r,0,none⟩),.int .u16 t] w (ShapeP r A l cap t w):=by
 have hlen:=h.len;by_cases e1:t=1
 ·subst e1;have hc:=shape_take 1 4 (by omega) r A l cap w h rfl;go_enter func130,ntmps130;go_wp2_with fail;refine hc.mono ?_;rintro e w' ⟨hk,⟨v,rfl,hr,hs⟩|⟨hs,rfl⟩⟩
  ·go_wp2_with fail
   go_end0
   exact⟨hk,.inl ⟨_,rfl,hr,hs⟩⟩
  ·go_wp2_with fail;exact⟨rfl,hk,.inr ⟨hs,rfl⟩⟩
 by_cases e28:t=28
 ·subst e28;have hc:=shape_take 28 16 (by omega) r A l cap w h rfl;go_enter func130,ntmps130;go_wp2_with fail;refine hc.mono ?_;rintro e w' ⟨hk,⟨v,rfl,hr,hs⟩|⟨hs,rfl⟩⟩
  ·go_wp2_with fail
   go_end0
   exact⟨hk,.inl ⟨_,rfl,hr,hs⟩⟩
  ·go_wp2_with fail;exact⟨rfl,hk,.inr ⟨hs,rfl⟩⟩
 by_cases e25:t=2∨t=5
 ·have hs0:shp t l=wholeB l:=by unfold shp;rw[if_neg e1,if_neg e28,if_pos e25]
  have hc:=name r A l cap 0 w h;rw[List.drop_zero]at hc;rcases e25 with rfl|rfl
  all_goals
   go_enter func130,ntmps130;go_wp2_with fail;refine hc.mono ?_;rintro e w' ⟨hk,⟨n,j,v,ho,rfl,hr,_⟩|⟨ho,rfl⟩⟩
   ·have HO:=hid ho;clear ho;rw[Nat.zero_add]at hr;go_wp2_with fail
    go_end0
    exact⟨hk,.inl ⟨_,rfl,hr,by rw[hs0,wholeB_some HO.out]⟩⟩
   ·have HO:=hid ho;clear ho;go_wp2_with fail;exact⟨rfl,hk,.inr ⟨by rw[hs0,wholeB_none HO.out],rfl⟩⟩
 by_cases e15:t=15
 ·subst e15;have hs0:shp 15 l=(decide (2≤l.length)&&wholeB (l.drop 2)):=rfl;go_enter func130,ntmps130;go_wp2_with fail;by_cases h2:0+2≤l.length
  ·refine(num_yes r A l cap 0 2 w h h2).mono ?_;rintro e w1 ⟨rfl,hr1,hk1⟩;rw[Nat.zero_add]at hr1;have hc:=name r A l cap 2 w1 hr1;have HS:Hid (shp 15 l=wholeB (l.drop 2)):=hid (by rw[hs0];simp;omega);have hd:(l.drop 2).length=l.length - 2:=List.length_drop;have HD:=hid hd;clear hs0 hd;go_wp2_with fail;refine hc.mono ?_;rintro e w' ⟨hk,⟨n,j,v,ho,rfl,hr,_⟩|⟨ho,rfl⟩⟩
   ·have HO:=hid ho;clear ho;go_wp2_with fail
    go_end0
    exact⟨hk1.trans hk,.inl ⟨_,rfl,hr,by rw[HS.out,wholeB_some HO.out,HD.out,decide_eq_decide];omega⟩⟩
   ·have HO:=hid ho;clear ho;go_wp2_with fail;exact⟨rfl,hk1.trans hk,.inr ⟨by rw[HS.out,wholeB_none HO.out],rfl⟩⟩
  ·refine(num_no r A l cap 0 2 w h h2 (by omega)).mono ?_;rintro e w1 ⟨rfl,hk1⟩;go_wp2_with fail;exact⟨rfl,hk1,.inr ⟨by rw[hs0];simp;omega,rfl⟩⟩
 by_cases e16:t=16
 ·subst e16;have hs0:shp 16 l=(!l.isEmpty &&txt l 0):=rfl;have hc:=texts r A l cap 0 w h;go_enter func130,ntmps130;go_wp2_with fail;refine hc.mono ?_;rintro e w' ⟨hk,⟨h1,h2,rfl,hr⟩|⟨h1,rfl⟩⟩
  ·have HO:Hid (shp 16 l=true):=hid (by rw[hs0,h2];simpa using List.length_pos_iff.1 h1);clear h2 hs0;go_wp2_with fail
   go_end0
   exact⟨hk,.inl ⟨_,rfl,hr,by rw[HO.out];simp⟩⟩
  ·have HO:Hid (shp 16 l=false):=hid (by
    rw[hs0];rcases h1 with h1|h1
    ·have:l=[]:=List.length_eq_zero_iff.1 (by omega);subst this;rfl
    ·rw[h1];simp)
   clear h1 hs0;go_wp2_with fail;exact⟨rfl,hk,.inr ⟨HO.out,rfl⟩⟩
 by_cases e43:t=43
 ·subst e43;have hs0:shp 43 l=decide (5≤l.length):=rfl;have HS:=hid hs0;clear hs0;go_enter func130,ntmps130;go_wp2_with fail;by_cases h2:0+4≤l.length
  ·refine(take_yes r A l cap 0 4 w h h2).mono ?_;rintro e w1 ⟨rfl,hr1,hk1⟩;rw[Nat.zero_add]at hr1;have hc:=rest r A l cap 4 w1 hr1;go_wp2_with fail;refine hc.mono ?_;rintro e w2 ⟨hk2,hr2,v,rfl,hown⟩;obtain⟨A5,c5,rfl,_,_⟩:=Cs.of_own hown;by_cases h5:5≤l.length
   ·have h6:decide (0 < l.length - 4)=true:=by simp;omega
    go_wp2_with fail;refine(must_yes _).mono ?_;rintro e w' ⟨rfl,rfl⟩;go_wp2_with fail
    go_end0
    exact⟨hk1.trans hk2,.inl ⟨_,rfl,hr2,by rw[HS.out];simpa using h5⟩⟩
   ·have h6:decide (0 < l.length - 4)=false:=by simp;omega
    go_wp2_with fail;refine(must_no _).mono ?_;rintro e w' ⟨rfl,rfl⟩;go_wp2_with fail;exact⟨rfl,hk1.trans hk2,.inr ⟨by rw[HS.out];simpa using h5,rfl⟩⟩
  ·refine(take_no r A l cap 0 4 w h h2 (by omega)).mono ?_;rintro e w1 ⟨rfl,hk1⟩;go_wp2_with fail;exact⟨rfl,hk1,.inr ⟨by rw[HS.out];simp;omega,rfl⟩⟩
 by_cases e51:t=51
 ·subst e51;have hs0:shp 51 l=(decide (5≤l.length)&&l.length==5+(l.getD 4 0).toNat):=rfl;have HS:=hid hs0;clear hs0;go_enter func130,ntmps130;go_wp2_with fail;by_cases h2:0+4≤l.length
  ·refine(take_yes r A l cap 0 4 w h h2).mono ?_;rintro e w1 ⟨rfl,hr1,hk1⟩;rw[Nat.zero_add]at hr1;by_cases h5:4 < l.length
   ·have HG:Hid (l.getD 4 0=l[4]):=hid (by simp[List.getD_eq_getElem?_getD,h5]);by_cases h6:4+1+l[4].toNat≤l.length
    ·have hc:=text_yes r A l cap 4 w1 hr1 h5 h6;have HE:Hid (shp 51 l=decide (4+1+l[4].toNat=l.length)):=hid (by rw[HS.out,HG.out,Bool.eq_iff_iff];simp;omega);clear HS HG;generalize 4+1+l[4].toNat=j at *;have HC:=hid hc;clear hc;go_wp2_with fail;refine HC.out.mono ?_;rintro e w2 ⟨hk2,hr2,v,rfl,_⟩;go_wp2_with fail
     go_end0
     exact⟨hk1.trans hk2,.inl ⟨_,rfl,hr2,HE.out⟩⟩
    ·have hc:=text_no r A l cap 4 w1 hr1 (fun⟨_,h⟩=>h6 h);have HE:Hid (shp 51 l=false):=hid (by rw[HS.out,HG.out];simp;omega);clear HS HG;go_wp2_with fail;refine hc.mono ?_;rintro e w2 ⟨hk2,rfl⟩;go_wp2_with fail;exact⟨rfl,hk1.trans hk2,.inr ⟨HE.out,rfl⟩⟩
   ·have hc:=text_no r A l cap 4 w1 hr1 (fun⟨h,_⟩=>h5 h);have HE:Hid (shp 51 l=false):=hid (by rw[HS.out];simp;omega);go_wp2_with fail;refine hc.mono ?_;rintro e w2 ⟨hk2,rfl⟩;go_wp2_with fail;exact⟨rfl,hk1.trans hk2,.inr ⟨HE.out,rfl⟩⟩
  ·refine(take_no r A l cap 0 4 w h h2 (by omega)).mono ?_;rintro e w1 ⟨rfl,hk1⟩;go_wp2_with fail;exact⟨rfl,hk1,.inr ⟨by rw[HS.out];simp;omega,rfl⟩⟩
 have HS:Hid (shp t l=true):=hid (by unfold shp;rw[if_neg e1,if_neg e28,if_neg e25,if_neg e15,if_neg e16,if_neg e43,if_neg e51]);have hc:=rest r A l cap 0 w h;have b1:(t==1)=false:=by simpa using e1
 have b2:(t==2)=false:=by simpa using fun h=>e25 (.inl h)
 have b3:(t==5)=false:=by simpa using fun h=>e25 (.inr h)
 have b4:(t==28)=false:=by simpa using e28
 have b5:(t==15)=false:=by simpa using e15
 have b6:(t==16)=false:=by simpa using e16
 have b7:(t==43)=false:=by simpa using e43
 have b8:(t==51)=false:=by simpa using e51
 clear e1 e25 e28 e15 e16 e43 e51;go_enter func130,ntmps130;go_wp2_with fail;refine hc.mono ?_;rintro e w2 ⟨hk2,hr2,v,rfl,hown⟩;go_wp2_with fail
 go_end0
 exact⟨hk2,.inl ⟨_,rfl,hr2,by rw[HS.out];simp⟩⟩
def code50(b:Bool):Int:=if b then 0 else 50
theorem asserted_must(W:World):(Instr.typeAssert (.iface 257 (.agg #[])) 20 257 true).run prog W=.ok (.tuple #[.agg #[],.bool true]) W:=by kernel_rfl
def mustR:FrameMode:=.panicking [{v:=.iface 257 (.agg #[]),recovered:=true}]
theorem two{w:World}{a b:Nat}{x0 x1:Value}(h0:w.cell? ⟨a,0,none⟩=some x0)(h1:w.cell? ⟨b,0,none⟩=some x1)(hab:a < b)(v0 v1:Value){w':World}
 (hw:w'=(w.setCell ⟨a,0,none⟩ v0).setCell ⟨b,0,none⟩ v1):
 w'.cell? ⟨a,0,none⟩=some v0∧w'.cell? ⟨b,0,none⟩=some v1∧Kept (fun k=>a≤k∧k≤b) w w':=by
 have a1:=setc_same (v:=v0) h0;have b1:=(setc_far (o:=0) (v:=v0) (show a≠b by omega)).trans h1;have a2:=(setc_far (o:=0) (v:=v1) (show b≠a by omega)).trans a1;have b2:=setc_same (v:=v1) b1;subst hw;exact⟨a2,b2,((Kept.refl _ _).setCell (p:=⟨a,0,none⟩) (fun _=>(show a≤a∧a≤b by omega)) _).setCell (p:=⟨b,0,none⟩) (fun _=>(show a≤b∧b≤b by omega)) _⟩
theorem readI1_panic(a b:Nat)(x0 x1:Value)(w:World)(h0:w.cell? ⟨a,0,none⟩=some x0)(h1:w.cell? ⟨b,0,none⟩=some x1)
 (f0:w.frozen? ⟨a,0,none⟩=false) (f1:w.frozen? ⟨b,0,none⟩=false) (l0:a < w.heap.size) (l1:b < w.heap.size) (hab:a < b):
 CallsD prog 184 #[.pointer (some ⟨a,0,none⟩),.pointer (some ⟨b,0,none⟩)] (.panicking mustP) w fun e u' w'=>
  e=.returned (.tuple #[])∧u'=mustR∧w'.cell? ⟨a,0,none⟩=some (.int .i64 0)∧w'.cell? ⟨b,0,none⟩=some (.int .i64 50)∧Below a w w':=by
 have hta:=asserted_must;refine callsD_of_wpS func184 rfl fun c₀ cs hu=> ?_;apply wpS_seq;apply wpS_region;simp[wpOpsS,go_sem,recoverD,mustP,hu,ntmps184,Exit.thenS];refine wpS_of_wp ?_;simp only[Array.replicate_succ,Array.replicate_zero,List.push_toArray,List.append_toArray,List.nil_append,List.cons_append,List.setIfInBounds_toArray,List.set_cons_succ,List.set_cons_zero]
 have n0:¬a=w.heap.size:=by omega
 have n1:¬b=w.heap.size:=by omega
 have m0:¬w.heap.size=a:=by omega
 have m1:¬w.heap.size=b:=by omega
 have d0:¬a=b:=by omega
 have d1:¬b=a:=by omega
 go_wp2_with fail;obtain⟨z0,z1,hk⟩:=two h0 h1 hab (.int .i64 0) (.int .i64 50) rfl;exact⟨rfl,_,rfl,_,results_none rfl _ _ _,rfl,rfl,alloc_cell _ z0,alloc_cell _ z1,(hk.below (B:=a) (by omega) (fun k hk=>by omega)).alloc (by have:=hk.size;omega) _⟩
theorem readI1_idle(a b:Addr)(w:World):CallsD prog 184 #[.pointer (some a),.pointer (some b)] .returning w fun e u' w'=>e=.returned (.tuple #[])∧u'=.returning∧w'=w:=by
 refine callsD_of_wpS func184 rfl fun c₀ cs hu=> ?_;apply wpS_seq;apply wpS_region;simp[wpOpsS,go_sem,recoverD,hu,ntmps184,Exit.thenS];refine wpS_of_wp ?_;simp only[Array.replicate_succ,Array.replicate_zero,List.push_toArray,List.append_toArray,List.nil_append,List.cons_append,List.setIfInBounds_toArray,List.set_cons_succ,List.set_cons_zero];go_wp2_with fail
 exact⟨rfl,.returning,by cases c₀;simp_all,_,results_none rfl _ _ _,rfl,rfl,rfl⟩
theorem Check1(p:Addr)(t:Int)(r:Nat)(A:Option Addr)(l:Lab)(cap:Nat)(w:World)(hp:w.cell? p=some (.int .u16 t))(h:Rdr w r A l cap 0):
 Calls prog 129 #[.pointer (some ⟨r,0,none⟩),.pointer (some p)] w fun e w'=>
  Kept (fun b=>b=r) w w'∧((∃j,e=.returned (.int .i64 0)∧Rdr w' r A l cap j∧shp t l=decide (j=l.length))∨(shp t l=false∧e=.panicked mustP)):=by
 go_enter func129,ntmps129;go_wp2_with fail;refine(shape r A l cap t w h).mono ?_;rintro e w' ⟨hk,⟨j,rfl,hr,hs⟩|⟨hs,rfl⟩⟩
 ·have HS:=hid hs;clear hs;go_wp2_with fail;go_ret;exact⟨hk,.inl ⟨_,rfl,hr,HS.out⟩⟩
 ·have HS:=hid hs;clear hs;go_wp2_with fail;exact⟨rfl,hk,.inr ⟨HS.out,rfl⟩⟩
theorem readI(p:Addr)(t:Int)(A:Option Addr)(l:Lab)(cap:Nat)(w:World)(hp:w.cell? p=some (.int .u16 t))(hpb:p.block < w.heap.size)(hc:Cs w A (l.map byteV))(hl:l.length≤100000)(hcap:l.length≤cap)(hcap2:cap≤maxLen):
 Calls prog 128 #[.slice A l.length cap,.func (.func 129) #[] #[.pointer (some p)]] w fun e w'=>
  Below w.heap.size w w'∧e=.returned (.tuple #[.int .i64 0,.int .i64 (code50 (shp t l))]):=by
 have hmf:∀(fn:Fn) (first cap:Array Value) (w:World),(Instr.makeFunc fn first cap).run prog w=.ok (.func fn first cap) w:=fun _ _ _ _=>rfl
 go_enter_defers func128,ntmps128
 go_wp2_with fail;generalize hw3:(((w.alloc (Obj.cells #[Value.int IntKind.i64 0] 3)).alloc (Obj.cells #[Value.int IntKind.i64 0] 96)).alloc (Obj.cells #[Value.slice A l.length cap,Value.int IntKind.i64 0] 260))=w3;have hb3:Below w.heap.size w w3:=by rw[←hw3];exact(bAl.alloc (by simp) _).alloc (by simp;omega) _
 have hsz3:w3.heap.size=w.heap.size+3:=by rw[←hw3];simp
 have c0:w3.cell? ⟨w.heap.size,0,none⟩=some (.int .i64 0):=by rw[←hw3];simp[go_sem]
 have c1:w3.cell? ⟨w.heap.size+1,0,none⟩=some (.int .i64 0):=by rw[←hw3];simp[go_sem]
 have f0:w3.frozen? ⟨w.heap.size,0,none⟩=false:=by rw[←hw3];simp[go_sem]
 have f1:w3.frozen? ⟨w.heap.size+1,0,none⟩=false:=by rw[←hw3];simp[go_sem]
 have hR:Rdr w3 (w.heap.size+1+1) A l cap 0:=by
  refine⟨by rw[←hw3];simp[go_sem],by rw[←hw3];simp[go_sem],by rw[←hw3];simp[go_sem],by omega,hc.below hb3, ?_,hl,hcap,hcap2,Nat.zero_le _⟩;intro a ha hx;have:=hc.where ha hx;omega
 have hp3:=(hb3.cell hpb).trans hp;clear hw3;refine(Check1 p t (w.heap.size+1+1) A l cap w3 hp3 hR).mono ?_;rintro e w4 ⟨hk4,hcase⟩;have d0:=(hk4.cell (b:=w.heap.size) (o:=0) (by omega) (by omega)).trans c0;have d1:=(hk4.cell (b:=w.heap.size+1) (o:=0) (by omega) (by omega)).trans c1;have g0:=(hk4.frozen (b:=w.heap.size) (o:=0) (by omega) (by omega)).trans f0
 have g1:=(hk4.frozen (b:=w.heap.size+1) (o:=0) (by omega) (by omega)).trans f1;have hsz4:=hk4.size;have hb4:Below w.heap.size w w4:=hb3.trans (hk4.below (by omega) (fun k hk=>by omega));clear c0 c1 f0 f1 hR hp3 hk4
 have door:∀W:World,Below w.heap.size w W→W.cell? ⟨w.heap.size,0,none⟩=some (.int .i64 0)→W.cell? ⟨w.heap.size+1,0,none⟩=some (.int .i64 0)→W.frozen? ⟨w.heap.size,0,none⟩=false→W.frozen? ⟨w.heap.size+1,0,none⟩=false→w.heap.size+3≤W.heap.size→
  CallsD prog 184 #[.pointer (some ⟨w.heap.size,0,none⟩),.pointer (some ⟨w.heap.size+1,0,none⟩)] (.panicking mustP) W fun e u' w'=>
  e=.returned (.tuple #[])∧u'=mustR∧w'.cell? ⟨w.heap.size,0,none⟩=some (.int .i64 0)∧w'.cell? ⟨w.heap.size+1,0,none⟩=some (.int .i64 50)∧Below w.heap.size w w':=fun W hb k0 k1 j0 j1 hs=>
  (readI1_panic w.heap.size (w.heap.size+1) _ _ W k0 k1 j0 j1 (by omega) (by omega) (by omega)).mono fun e u' w' ⟨h1,h2,h3,h4,h5⟩=>⟨h1,h2,h3,h4,hb.trans h5⟩
 have HD:=hid door;clear door;rcases hcase with⟨j,rfl,hr,hs⟩|⟨hs,rfl⟩
 ·have HS:=hid hs;have e1:=hr.c1;have hlj:=hr.le;clear hs hr;have n0:¬w.heap.size=w.heap.size+1:=by omega
  have n1:¬w.heap.size=w.heap.size+1+1:=by omega
  have n2:¬w.heap.size+1=w.heap.size:=by omega
  have n3:¬w.heap.size+1=w.heap.size+1+1:=by omega
  by_cases hj:j=l.length
  ·have hjb:((j:Int)==(l.length:Int))=true:=by simp[hj]
   have HT:Hid (shp t l=true):=hid (by rw[HS.out];simpa using hj);clear hj HS;go_wp2_with fail;refine(must_yes _).mono ?_;rintro e w' ⟨rfl,rfl⟩;go_wp2_with fail;have hk5:Kept (fun b=>b=w.heap.size) w4 (w4.setCell ⟨w.heap.size,0,none⟩ (.int .i64 0)):=Kept.setCell (S:=fun b=>b=w.heap.size) (Kept.refl _ _) (p:=⟨w.heap.size,0,none⟩) (fun _=>rfl) _;have k0:=setc_same (v:=.int .i64 0) d0
   have k1:=(hk5.cell (b:=w.heap.size+1) (o:=0) (by omega) (by omega)).trans d1;have hs5:=hk5.size;obtain⟨z0,z1,hk6⟩:=two k0 k1 (by omega) (.int .i64 0) (.int .i64 0) rfl;have hb6:=(hb4.trans (hk5.below (B:=w.heap.size) (by omega) (fun k hk=>by omega))).trans (hk6.below (B:=w.heap.size) (by omega) (fun k hk=>by omega));clear hk6
   generalize((w4.setCell {block:=w.heap.size,off:=0} (Value.int IntKind.i64 0)).setCell {block:=w.heap.size,off:=0} (Value.int IntKind.i64 0)).setCell {block:=w.heap.size+1,off:=0} (Value.int IntKind.i64 0)=w6 at *;refine leaves_cons (f:=184) (args:= #[.pointer (some ⟨w.heap.size,0,none⟩),.pointer (some ⟨w.heap.size+1,0,none⟩)]) (by simp) (by simp[go_sem]) ?_
   refine(readI1_idle _ _ _).mono ?_;rintro e u' w9 ⟨rfl,rfl,rfl⟩;simp[Leaves,settle,results,results128,go_sem,z0,z1];exact⟨hb6,by rw[HT.out];rfl⟩
  ·have hjb:((j:Int)==(l.length:Int))=false:=by simp;omega
   have HT:Hid (shp t l=false):=hid (by rw[HS.out];simpa using hj);clear hj HS;go_wp2_with fail;refine(must_no _).mono ?_;rintro e w' ⟨rfl,rfl⟩;have hk5:Kept (fun b=>b=w.heap.size) w4 (w4.setCell ⟨w.heap.size,0,none⟩ (.int .i64 0)):=Kept.setCell (S:=fun b=>b=w.heap.size) (Kept.refl _ _) (p:=⟨w.heap.size,0,none⟩) (fun _=>rfl) _
   have hb5:=hb4.trans (hk5.below (B:=w.heap.size) (by omega) (fun k hk=>by omega));have k0:=setc_same (v:=.int .i64 0) d0;have k1:=(hk5.cell (b:=w.heap.size+1) (o:=0) (by omega) (by omega)).trans d1;have j0:=(setc_frozen (p:=⟨w.heap.size,0,none⟩) (v:=.int .i64 0)).trans g0;have j1:=(setc_frozen (p:=⟨w.heap.size,0,none⟩) (v:=.int .i64 0)).trans g1;have hs5:=hk5.size;go_wp2_with fail
   refine leaves_cons (f:=184) (args:= #[.pointer (some ⟨w.heap.size,0,none⟩),.pointer (some ⟨w.heap.size+1,0,none⟩)]) (by simp) (by simp[go_sem]) ?_;refine(HD.out _ hb5 k0 k1 j0 j1 (by omega)).mono ?_;rintro e u' w5 ⟨rfl,rfl,z0,z1,hb6⟩;simp[Leaves,settle,mustR,results,results128,go_sem,z0,z1];exact⟨hb6,by rw[HT.out];rfl⟩
 ·have HS:=hid hs;clear hs;go_wp2_with fail;refine leaves_cons (f:=184) (args:= #[.pointer (some ⟨w.heap.size,0,none⟩),.pointer (some ⟨w.heap.size+1,0,none⟩)]) (by simp) (by simp[go_sem]) ?_;refine(HD.out w4 hb4 d0 d1 g0 g1 (by omega)).mono ?_;rintro e u' w5 ⟨rfl,rfl,z0,z1,hb5⟩;simp[Leaves,settle,mustR,results,results128,go_sem,z0,z1];exact⟨hb5,by rw[HS.out];rfl⟩
theorem CheckS(t:Int)(A:Option Addr)(l:Lab)(cap:Nat)(w:World)(h1:t≠6)(h2:t≠46)(h3:t≠48)(h4:t≠50)(hc:Cs w A (l.map byteV))(hl:l.length≤100000)(hcap:l.length≤cap)(hcap2:cap≤maxLen):
 Calls prog 81 #[.int .u16 t,.slice A l.length cap] w fun e w'=>Below w.heap.size w w'∧e=.returned (.int .i64 (code50 (chk t l))):=by
 have HC:=hid (chk_shp h1 h2 h3 l);have b1:(t==6)=false:=by simpa using h1
 have b2:(t==46)=false:=by simpa using h2
 have b3:(t==48)=false:=by simpa using h3
 have b4:(t==50)=false:=by simpa using h4
 have hmf:∀(fn:Fn) (first cap:Array Value) (w:World),(Instr.makeFunc fn first cap).run prog w=.ok (.func fn first cap) w:=fun _ _ _ _=>rfl;have hb1:Below w.heap.size w (w.alloc (.cells #[.int .u16 t] 36)):=bAl;clear h1 h2 h3 h4;by_cases h8:8192 < l.length
 ·have HE:Hid (chk t l=false):=hid (by rw[HC.out];simp;omega);go_enter func81,ntmps81;go_wp2_with fail;go_ret;exact⟨hb1,by rw[HE.out];rfl⟩
 ·have HE:Hid (chk t l=shp t l):=hid (by rw[HC.out];simp;omega);have hr:=readI ⟨w.heap.size,0,none⟩ t A l cap (w.alloc (.cells #[.int .u16 t] 36)) (by simp[go_sem]) (by simp) (hc.below hb1) hl hcap hcap2;have HR:=hid hr;clear hr hc;go_enter func81,ntmps81;go_wp2_with fail;refine HR.out.mono ?_;rintro e w2 ⟨hb2,rfl⟩;go_wp2_with fail;go_ret
  exact⟨hb1.trans (hb2.mono (by simp)),by rw[HE.out];rfl⟩
theorem readN1_panic(a b:Nat)(x0 x1:Value)(w:World)(h0:w.cell? ⟨a,0,none⟩=some x0)(h1:w.cell? ⟨b,0,none⟩=some x1)
 (f0:w.frozen? ⟨a,0,none⟩=false) (f1:w.frozen? ⟨b,0,none⟩=false) (l0:a < w.heap.size) (l1:b < w.heap.size) (hab:a < b):
 CallsD prog 244 #[.pointer (some ⟨a,0,none⟩),.pointer (some ⟨b,0,none⟩)] (.panicking mustP) w fun e u' w'=>
  e=.returned (.tuple #[])∧u'=mustR∧w'.cell? ⟨a,0,none⟩=some (.slice none 0 0)∧w'.cell? ⟨b,0,none⟩=some (.int .i64 50)∧Below a w w':=by
 have hta:=asserted_must;refine callsD_of_wpS func244 rfl fun c₀ cs hu=> ?_;apply wpS_seq;apply wpS_region;simp[wpOpsS,go_sem,recoverD,mustP,hu,ntmps244,Exit.thenS];refine wpS_of_wp ?_;simp only[Array.replicate_succ,Array.replicate_zero,List.push_toArray,List.append_toArray,List.nil_append,List.cons_append,List.setIfInBounds_toArray,List.set_cons_succ,List.set_cons_zero]
 have n0:¬a=w.heap.size:=by omega
 have n1:¬b=w.heap.size:=by omega
 have m0:¬w.heap.size=a:=by omega
 have m1:¬w.heap.size=b:=by omega
 have d0:¬a=b:=by omega
 have d1:¬b=a:=by omega
 go_wp2_with fail;obtain⟨z0,z1,hk⟩:=two h0 h1 hab (.slice none 0 0) (.int .i64 50) rfl;exact⟨rfl,_,rfl,_,results_none rfl _ _ _,rfl,rfl,alloc_cell _ z0,alloc_cell _ z1,(hk.below (B:=a) (by omega) (fun k hk=>by omega)).alloc (by have:=hk.size;omega) _⟩
theorem readN1_idle(a b:Addr)(w:World):CallsD prog 244 #[.pointer (some a),.pointer (some b)] .returning w fun e u' w'=>e=.returned (.tuple #[])∧u'=.returning∧w'=w:=by
 refine callsD_of_wpS func244 rfl fun c₀ cs hu=> ?_;apply wpS_seq;apply wpS_region;simp[wpOpsS,go_sem,recoverD,hu,ntmps244,Exit.thenS];refine wpS_of_wp ?_;simp only[Array.replicate_succ,Array.replicate_zero,List.push_toArray,List.append_toArray,List.nil_append,List.cons_append,List.setIfInBounds_toArray,List.set_cons_succ,List.set_cons_zero];go_wp2_with fail
 exact⟨rfl,.returning,by cases c₀;simp_all,_,results_none rfl _ _ _,rfl,rfl,rfl⟩
def ahd(t:Int):Nat:=if t=15 then 2 else 0
theorem ahead(t:Int)(w:World):Calls prog 196 #[.int .u16 t] w fun e w'=>e=.returned (.int .i64 (ahd t))∧w=w':=by
 unfold ahd;by_cases h:t=15
 ·subst h;go_enter func196,ntmps196;go_wp2_with fail;go_ret;exact⟨rfl,rfl⟩
 ·have hb:(t==15)=false:=by simpa using h
  go_enter func196,ntmps196;go_wp2_with fail;go_ret;exact⟨rfl,rfl⟩
def isN(t:Int):Prop:=t=2∨t=5∨t=15
theorem shp_name{t:Int}(ht:isN t)(l:Lab):shp t l=(decide (ahd t≤l.length)&&wholeB (l.drop (ahd t))):=by
 rcases ht with rfl|rfl|rfl
 ·rfl
 ·rfl
 ·rfl
theorem Target1(p:Addr)(t:Int)(ht:isN t)(r:Nat)(A:Option Addr)(l:Lab)(cap:Nat)(w:World)(hp:w.cell? p=some (.int .u16 t))(h:Rdr w r A l cap 0)(hpr:p.block≠r)(hpw:p.block < w.heap.size)(hps:p.spot=none):
 Calls prog 225 #[.pointer (some ⟨r,0,none⟩),.pointer (some p)] w fun e w'=>
  Kept (fun b=>b=r) w w'∧((∃j v,e=.returned v∧Rdr w' r A l cap j∧shp t l=decide (j=l.length)∧w'.ownsRow w.heap.size 9 1 v (openN (l.drop (ahd t))).length ((openN (l.drop (ahd t))).map strV))∨(shp t l=false∧e=.panicked mustP)):=by
 have HS:=hid (shp_name ht l);have hah:ahd t≤2:=by unfold ahd;split <;> omega
 have hat:=ahead t w;generalize ahd t=a at *;clear ht;go_enter func225,ntmps225;go_wp2_with fail;refine hat.mono ?_;rintro e w' ⟨rfl,rfl⟩;go_wp2_with fail;by_cases ha:0+a≤l.length
 ·refine(take_yes r A l cap 0 a w h ha).mono ?_;rintro e w1 ⟨rfl,hr1,hk1⟩;rw[Nat.zero_add]at hr1;have hc:=name r A l cap a w1 hr1;have hd:(l.drop a).length=l.length - a:=List.length_drop;have HD:=hid hd;clear hd;go_wp2_with fail;refine hc.mono ?_;rintro e w2 ⟨hk2,⟨n,j,v,ho,rfl,hr2,hown⟩|⟨ho,rfl⟩⟩
  ·have HO:=hid ho;clear ho;go_wp2_with fail;go_ret;refine⟨hk1.trans hk2,.inl ⟨_,_,rfl,hr2, ?_, ?_⟩⟩
   ·rw[HS.out,wholeB_some HO.out,HD.out,Bool.eq_iff_iff];simp;omega
   ·rw[(openO_some HO.out).2.2.2.1];exact own_base hown hk1.size
  ·have HO:=hid ho;clear ho;go_wp2_with fail;exact⟨rfl,hk1.trans hk2,.inr ⟨by rw[HS.out,wholeB_none HO.out];simp,rfl⟩⟩
 ·refine(take_no r A l cap 0 a w h ha (by omega)).mono ?_;rintro e w1 ⟨rfl,hk1⟩;go_wp2_with fail;exact⟨rfl,hk1,.inr ⟨by rw[HS.out];simp;omega,rfl⟩⟩
def tgt(t:Int)(l:Lab):List Lab:=if shp t l then openN (l.drop (ahd t))else[]
theorem readN(p:Addr)(t:Int)(ht:isN t)(A:Option Addr)(l:Lab)(cap:Nat)(w:World)(hp:w.cell? p=some (.int .u16 t))(hpb:p.block < w.heap.size)(hps:p.spot=none)(hc:Cs w A (l.map byteV))(hl:l.length≤100000)(hcap:l.length≤cap)(hcap2:cap≤maxLen):
 Calls prog 224 #[.slice A l.length cap,.func (.func 225) #[] #[.pointer (some p)]] w fun e w'=>
  Below w.heap.size w w'∧∃v,e=.returned (.tuple #[v,.int .i64 (code50 (shp t l))])∧w'.ownsRow w.heap.size 9 1 v (tgt t l).length ((tgt t l).map strV):=by
 have hmf:∀(fn:Fn) (first cap:Array Value) (w:World),(Instr.makeFunc fn first cap).run prog w=.ok (.func fn first cap) w:=fun _ _ _ _=>rfl
 go_enter_defers func224,ntmps224
 go_wp2_with fail;generalize hw3:(((w.alloc (Obj.cells #[Value.slice none 0 0] 28)).alloc (Obj.cells #[Value.int IntKind.i64 0] 96)).alloc (Obj.cells #[Value.slice A l.length cap,Value.int IntKind.i64 0] 260))=w3;have hb3:Below w.heap.size w w3:=by rw[←hw3];exact(bAl.alloc (by simp) _).alloc (by simp;omega) _
 have hsz3:w3.heap.size=w.heap.size+3:=by rw[←hw3];simp
 have c0:w3.cell? ⟨w.heap.size,0,none⟩=some (.slice none 0 0):=by rw[←hw3];simp[go_sem]
 have c1:w3.cell? ⟨w.heap.size+1,0,none⟩=some (.int .i64 0):=by rw[←hw3];simp[go_sem]
 have f0:w3.frozen? ⟨w.heap.size,0,none⟩=false:=by rw[←hw3];simp[go_sem]
 have f1:w3.frozen? ⟨w.heap.size+1,0,none⟩=false:=by rw[←hw3];simp[go_sem]
 have hR:Rdr w3 (w.heap.size+1+1) A l cap 0:=by
  refine⟨by rw[←hw3];simp[go_sem],by rw[←hw3];simp[go_sem],by rw[←hw3];simp[go_sem],by omega,hc.below hb3, ?_,hl,hcap,hcap2,Nat.zero_le _⟩;intro a ha hx;have:=hc.where ha hx;omega
 have hp3:=(hb3.cell hpb).trans hp;clear hw3;refine(Target1 p t ht (w.heap.size+1+1) A l cap w3 hp3 hR (by omega) (by omega) hps).mono ?_;rintro e w4 ⟨hk4,hcase⟩;have d0:=(hk4.cell (b:=w.heap.size) (o:=0) (by omega) (by omega)).trans c0;have d1:=(hk4.cell (b:=w.heap.size+1) (o:=0) (by omega) (by omega)).trans c1;have g0:=(hk4.frozen (b:=w.heap.size) (o:=0) (by omega) (by omega)).trans f0
 have g1:=(hk4.frozen (b:=w.heap.size+1) (o:=0) (by omega) (by omega)).trans f1;have hsz4:=hk4.size;have hb4:Below w.heap.size w w4:=hb3.trans (hk4.below (by omega) (fun k hk=>by omega));clear c0 c1 f0 f1 hR hp3 hk4
 have door:∀W:World,Below w.heap.size w W→(∃x,W.cell? ⟨w.heap.size,0,none⟩=some x)→W.cell? ⟨w.heap.size+1,0,none⟩=some (.int .i64 0)→W.frozen? ⟨w.heap.size,0,none⟩=false→W.frozen? ⟨w.heap.size+1,0,none⟩=false→w.heap.size+3≤W.heap.size→
  CallsD prog 244 #[.pointer (some ⟨w.heap.size,0,none⟩),.pointer (some ⟨w.heap.size+1,0,none⟩)] (.panicking mustP) W fun e u' w'=>
  e=.returned (.tuple #[])∧u'=mustR∧w'.cell? ⟨w.heap.size,0,none⟩=some (.slice none 0 0)∧w'.cell? ⟨w.heap.size+1,0,none⟩=some (.int .i64 50)∧Below w.heap.size w w':=fun W hb ⟨x,k0⟩ k1 j0 j1 hs=>
  (readN1_panic w.heap.size (w.heap.size+1) _ _ W k0 k1 j0 j1 (by omega) (by omega) (by omega)).mono fun e u' w' ⟨h1,h2,h3,h4,h5⟩=>⟨h1,h2,h3,h4,hb.trans h5⟩
 have HD:=hid door;clear door;rcases hcase with⟨j,v,rfl,hr,hs,hown⟩|⟨hs,rfl⟩
 ·obtain⟨A5,c5,rfl,_,_⟩:=Cs.of_own hown;have HS:=hid hs;have e1:=hr.c1;have hlj:=hr.le;clear hs hr;have n0:¬w.heap.size=w.heap.size+1:=by omega
  have n1:¬w.heap.size=w.heap.size+1+1:=by omega
  have n2:¬w.heap.size+1=w.heap.size:=by omega
  have n3:¬w.heap.size+1=w.heap.size+1+1:=by omega
  by_cases hj:j=l.length
  ·have hjb:((j:Int)==(l.length:Int))=true:=by simp[hj]
   have HT:Hid (shp t l=true):=hid (by rw[HS.out];simpa using hj);clear hj HS;go_wp2_with fail;refine(must_yes _).mono ?_;rintro e w' ⟨rfl,rfl⟩;go_wp2_with fail;have hk5:Kept (fun b=>b=w.heap.size) w4 (w4.setCell ⟨w.heap.size,0,none⟩ (Value.slice A5 (openN (l.drop (ahd t))).length c5)):=Kept.setCell (S:=fun b=>b=w.heap.size) (Kept.refl _ _) (p:=⟨w.heap.size,0,none⟩) (fun _=>rfl) _
   have k0:=setc_same (v:=(Value.slice A5 (openN (l.drop (ahd t))).length c5)) d0;have k1:=(hk5.cell (b:=w.heap.size+1) (o:=0) (by omega) (by omega)).trans d1;have hs5:=hk5.size;obtain⟨z0,z1,hk6⟩:=two k0 k1 (by omega) (Value.slice A5 (openN (l.drop (ahd t))).length c5) (.int .i64 0) rfl
   have hb6:=(hb4.trans (hk5.below (B:=w.heap.size) (by omega) (fun k hk=>by omega))).trans (hk6.below (B:=w.heap.size) (by omega) (fun k hk=>by omega));have hown6:=Kept.row (Kept.row hown hk5 (fun k hk=>by have:=(hown.lt k hk).1;omega)) hk6 (fun k hk=>by have:=(hown.lt k hk).1;omega);clear hk6
   generalize((w4.setCell {block:=w.heap.size,off:=0} (Value.slice A5 (openN (l.drop (ahd t))).length c5)).setCell {block:=w.heap.size,off:=0} (Value.slice A5 (openN (l.drop (ahd t))).length c5)).setCell {block:=w.heap.size+1,off:=0} (Value.int IntKind.i64 0)=w6 at *
   refine leaves_cons (f:=244) (args:= #[.pointer (some ⟨w.heap.size,0,none⟩),.pointer (some ⟨w.heap.size+1,0,none⟩)]) (by simp) (by simp[go_sem]) ?_;refine(readN1_idle _ _ _).mono ?_;rintro e u' w9 ⟨rfl,rfl,rfl⟩;simp[Leaves,settle,results,results224,go_sem,z0,z1];have HTg:tgt t l=openN (l.drop (ahd t)):=by unfold tgt;rw[HT.out];rfl
   exact⟨hb6,_,⟨rfl,by rw[HT.out];rfl⟩,by rw[HTg];exact own_base hown6 (by omega)⟩
  ·have hjb:((j:Int)==(l.length:Int))=false:=by simp;omega
   have HT:Hid (shp t l=false):=hid (by rw[HS.out];simpa using hj);clear hj HS;go_wp2_with fail;refine(must_no _).mono ?_;rintro e w' ⟨rfl,rfl⟩;have hk5:Kept (fun b=>b=w.heap.size) w4 (w4.setCell ⟨w.heap.size,0,none⟩ (Value.slice A5 (openN (l.drop (ahd t))).length c5)):=Kept.setCell (S:=fun b=>b=w.heap.size) (Kept.refl _ _) (p:=⟨w.heap.size,0,none⟩) (fun _=>rfl) _
   have hb5:=hb4.trans (hk5.below (B:=w.heap.size) (by omega) (fun k hk=>by omega));have k0:=setc_same (v:=(Value.slice A5 (openN (l.drop (ahd t))).length c5)) d0;have k1:=(hk5.cell (b:=w.heap.size+1) (o:=0) (by omega) (by omega)).trans d1;have j0:=(setc_frozen (p:=⟨w.heap.size,0,none⟩) (v:=(Value.slice A5 (openN (l.drop (ahd t))).length c5))).trans g0
   have j1:=(setc_frozen (p:=⟨w.heap.size,0,none⟩) (v:=(Value.slice A5 (openN (l.drop (ahd t))).length c5))).trans g1;have hs5:=hk5.size;go_wp2_with fail;refine leaves_cons (f:=244) (args:= #[.pointer (some ⟨w.heap.size,0,none⟩),.pointer (some ⟨w.heap.size+1,0,none⟩)]) (by simp) (by simp[go_sem]) ?_;refine(HD.out _ hb5 ⟨_,k0⟩ k1 j0 j1 (by omega)).mono ?_
   rintro e u' w5 ⟨rfl,rfl,z0,z1,hb6⟩;simp[Leaves,settle,mustR,results,results224,go_sem,z0,z1];have HTg:tgt t l=[]:=by unfold tgt;rw[HT.out];rfl
   exact⟨hb6,_,⟨rfl,by rw[HT.out];rfl⟩,by rw[HTg];exact World.ownsRow_nil _ _ _ _⟩
 ·have HS:=hid hs;clear hs;go_wp2_with fail;refine leaves_cons (f:=244) (args:= #[.pointer (some ⟨w.heap.size,0,none⟩),.pointer (some ⟨w.heap.size+1,0,none⟩)]) (by simp) (by simp[go_sem]) ?_;refine(HD.out w4 hb4 ⟨_,d0⟩ d1 g0 g1 (by omega)).mono ?_;rintro e u' w5 ⟨rfl,rfl,z0,z1,hb5⟩;simp[Leaves,settle,mustR,results,results224,go_sem,z0,z1]
  have HTg:tgt t l=[]:=by unfold tgt;rw[HS.out];rfl
  exact⟨hb5,_,⟨rfl,by rw[HS.out];rfl⟩,by rw[HTg];exact World.ownsRow_nil _ _ _ _⟩
end Nm
end Go.Proofs.YtmbdoacafhljkaaGreat
