/- Texts merged by a program: UMsg, Made, UPlz, UPlg, UPlk, Kn17, RAt. -/
import Derived.Test.YtmbdoacafhljkaaGreatUh1
import Derived.Test.YtmbdoacafhljkaaGreatUh2
import Derived.Test.YtmbdoacafhljkaaGreatUh9
import Derived.Test.YtmbdoacafhljkaaGreatUh15
import Derived.Test.YtmbdoacafhljkaaGreatUh16
import Derived.Test.YtmbdoacafhljkaaGreatUh17
set_option linter.unusedSimpArgs false
set_option linter.unusedVariables false
set_option maxRecDepth 1000000
set_option maxHeartbeats 20000000
open Go.Proofs.Tryz
namespace Go.Proofs.YtmbdoacafhljkaaGreat
open Go.RowKit
namespace Nm
def upC(p:Nat×Nat):List Value:=[.int .u8 (p.1:Int),.int .u32 (p.2:Int)]
theorem flat2(ps:List (Nat×Nat))(i:Nat)(hi:i < ps.length)(k:Nat)(hk:k < 2):(ps.flatMap upC)[i *2+k]? =(upC ps[i])[k]?:=by
 induction ps generalizing i with
 |nil=>simp at hi
 |cons r rs ih=>
  rw[List.flatMap_cons];have hl:(upC r).length=2:=rfl;cases i with
  |zero=>rw[List.getElem?_append_left (by omega)];simp
  |succ i=>
   rw[List.getElem?_append_right (by omega),hl,show(i+1) *2+k - 2=i *2+k from by omega];simpa using ih i (by simpa using hi)
theorem upAt{w:World}{A:Option Addr}{ps:List (Nat×Nat)}(h:Cs w A (ps.flatMap upC)){j:Nat}(hj:j < ps.length):∃b off,A=some ⟨b,off,none⟩∧b < w.heap.size∧w.cell? ⟨b,off+j *2,none⟩=some (.int .u8 ((ps[j]).1:Int))∧w.cell? ⟨b,off+j *2+1,none⟩=some (.int .u32 ((ps[j]).2:Int)):=by
 obtain⟨b,off,rfl,hb,h0⟩:=h (j *2+0) (.int .u8 ((ps[j]).1:Int)) (by rw[flat2 ps j hj 0 (by omega)];rfl);obtain⟨_,_,e,_,h1⟩:=h (j *2+1) (.int .u32 ((ps[j]).2:Int)) (by rw[flat2 ps j hj 1 (by omega)];rfl);cases e;rw[←Nat.add_assoc]at h0 h1;exact⟨b,off,rfl,hb,h0,h1⟩
theorem own_rowU(w:World)(B:Nat)(a b c d e:Value)(hB:B≤w.heap.size):(w.alloc (.cells #[a,b,c,d,e] 39)).ownsRow B 39 5 (.slice (some ⟨w.heap.size,0,none⟩) 1 1) 1 [a,b,c,d,e]:=
 ⟨rfl,.inr ⟨w.heap.size,1, #[a,b,c,d,e],rfl,hB,heap_alloc_new w _,Nat.le_refl _,by unfold maxLen;omega,rfl,rfl⟩⟩
theorem msg_cells{w:World}{g:Nat}{T:TypeId}{id op:Int}{q p u:Value}(h:w.heap[g]? =some (.cells (msgV id op q p u) T (0,0))):w.cell? ⟨g,0,none⟩=some (.int .u16 id)∧w.cell? ⟨g,1,none⟩=some (.bool false)∧w.cell? ⟨g,2,none⟩=some (.int .i64 op)∧w.cell? ⟨g,3,none⟩=some (.bool false)∧w.cell? ⟨g,4,none⟩=some (.bool false)∧w.cell? ⟨g,5,none⟩=some (.bool false)∧w.cell? ⟨g,6,none⟩=some (.bool false)∧w.cell? ⟨g,7,none⟩=some (.int .i64 0)∧w.cell? ⟨g,8,none⟩=some q∧w.cell? ⟨g,9,none⟩=some p∧w.cell? ⟨g,10,none⟩=some u∧w.cell? ⟨g,11,none⟩=some (.slice none 0 0)∧w.cell? ⟨g,12,none⟩=some (.bool false)∧w.cell? ⟨g,13,none⟩=some (.int .u16 0)∧w.cell? ⟨g,14,none⟩=some (.bool false):=by
 refine⟨?_, ?_, ?_, ?_, ?_, ?_, ?_, ?_, ?_, ?_, ?_, ?_, ?_, ?_, ?_⟩ <;> (rw[cell_of_row w g _ _ _ _ h];rfl)
def MsgB(W:World)(g:Nat)(q p u:Value):Prop:=W.heap[g]? =some (.cells (msgV 9 5 q p u) 74 (0,0))
theorem MsgB.c9{W:World}{g:Nat}{q p u:Value}(h:MsgB W g q p u):W.cell? ⟨g,9,none⟩=some p∧∀i,W.frozen? ⟨g,i,none⟩=false:=by
 have h:W.heap[g]? =some (.cells (msgV 9 5 q p u) 74 (0,0)):=h;refine⟨?_,fun i=>by simp[World.frozen?,h]⟩;rw[cell_of_row W g _ _ _ _ h];rfl
theorem MsgB.c10{W:World}{g:Nat}{q p u:Value}(h:MsgB W g q p u):W.cell? ⟨g,10,none⟩=some u∧∀i,W.frozen? ⟨g,i,none⟩=false:=by
 have h:W.heap[g]? =some (.cells (msgV 9 5 q p u) 74 (0,0)):=h;refine⟨?_,fun i=>by simp[World.frozen?,h]⟩;rw[cell_of_row W g _ _ _ _ h];rfl
theorem MsgB.ext{W W':World}{g:Nat}{q p u:Value}(h:MsgB W g q p u)(hE:Ext W W'):MsgB W' g q p u:=(hE.block g (lt_block h)).trans h
def UpF(W:World)(N:Nat)(r:UR)(b:UcB):Prop:=b.own W N∧b.says=r
theorem UpF.keep{W W':World}{N:Nat}{r:UR}{b:UcB}{S:Nat→Prop}(h:UpF W N r b)(hk:Kept S W W')(hS:∀k,S k→k < N):UpF W' N r b:=
 ⟨⟨Kept.row h.1.1 hk (fun k hk2 e=>by have:=(h.1.1.lt k hk2).1;have:=hS k e;omega),Kept.row h.1.2 hk (fun k hk2 e=>by have:=(h.1.2.lt k hk2).1;have:=hS k e;omega)⟩,h.2⟩
theorem UpF.ext{W W':World}{N:Nat}{r:UR}{b:UcB}(h:UpF W N r b)(hE:Ext W W'):UpF W' N r b:=⟨⟨own_below h.1.1 hE,own_below h.1.2 hE⟩,h.2⟩
def TM(g:Nat)(v0:Value)(i:Nat)(W W':World):Prop:=if i=8 then Kept (fun k=>v0.ownBlock=some k) W W' else if i=10 then Kept (fun k=>k=g) W W' else Ext W W'
theorem TM_keep{g:Nat}{v0:Value}{i:Nat}{W0 W W':World}(h:TM g v0 i W W')(hC:Kept (fun k=>v0.ownBlock=some k∨k=g) W0 W):Kept (fun k=>v0.ownBlock=some k∨k=g) W0 W':=by
 unfold TM at h;split at h
 ·exact hC.trans (h.mono fun _ _ e=>.inl e)
 ·split at h
  ·exact hC.trans (h.mono fun _ _ e=>.inr e)
  ·exact hC.trans ((Kept.of_ext h).mono fun _ _ h=>h.elim)
def RM(B N g f:Nat)(v0:Value)(n:Nat)(xs:List Value)(r:UR)(vl vi vp vu:Value)(M:World→Value→Prop)(j:Nat)(v:Value)(W:World):Prop:=
 match j with
 |0=>v=.pointer (some ⟨g,f,none⟩)
 |1=>v=v0
 |2=>v=vl
 |3=>v=vi
 |4=>v=vp
 |5=>v=vu
 |6=>∃b,v=.agg b.cells.toArray∧UpF W N r b
 |7=>∃b,W.ownsRow N 39 5 v 1 b.cells∧UpF W N r b
 |8=>∃b,W.ownsRow B 39 5 v (n+1) (xs++b.cells)∧UpF W N r b∧M W v0
 |9=>v=.pointer (some ⟨g,f,none⟩)
 |10=>∃b A c,W.ownsRow B 39 5 (.slice A (n+1) c) (n+1) (xs++b.cells)∧UpF W N r b∧M W (.slice A (n+1) c)
 |_=>True
theorem RM_keep{ops:Array Oper}{B N g f:Nat}{v0:Value}{n:Nat}{xs:List Value}{r:UR}{vl vi vp vu:Value}{M:World→Value→Prop}(hMe:∀W W' v,Ext W W'→M W v→M W' v)(hgN:g < N)(hvN:∀k,v0.ownBlock=some k→k < N)(hw8:waitsT ops ops.size 10 8=true)
 {i j:Nat} {v:Value} {W W':World} (hij:i≠j) (hk:(i==10&&j==8)=false) (hw:waitsT ops ops.size j i=false) (h:RM B N g f v0 n xs r vl vi vp vu M j v W) (hT:TM g v0 i W W'):RM B N g f v0 n xs r vl vi vp vu M j v W':=by
 unfold TM at hT;rcases j with _|_|_|_|_|_|_|_|_|_|_|j
 ·exact h
 ·exact h
 ·exact h
 ·exact h
 ·exact h
 ·exact h
 ·obtain⟨b,h1,h2⟩:=h;refine⟨b,h1, ?_⟩;split at hT
  ·exact h2.keep hT hvN
  ·split at hT
   ·exact h2.keep hT (fun k e=>by rw[e];exact hgN)
   ·exact h2.ext hT
 ·obtain⟨b,h1,h2⟩:=h;split at hT
  ·exact⟨b,Kept.row h1 hT (fun k hk2 e=>by have:=(h1.lt k hk2).1;have:=hvN k e;omega),h2.keep hT hvN⟩
  ·split at hT
   ·exact⟨b,Kept.row h1 hT (fun k hk2 e=>by have:=(h1.lt k hk2).1;omega),h2.keep hT (fun k e=>by rw[e];exact hgN)⟩
   ·exact⟨b,own_below h1 hT,h2.ext hT⟩
 ·obtain⟨b,h1,h2,h3⟩:=h;rw[if_neg hij]at hT;split at hT
  ·rename_i e;rw[e]at hk;cases hk
  ·exact⟨b,own_below h1 hT,h2.ext hT,hMe _ _ _ hT h3⟩
 ·exact h
 ·obtain⟨b,A,c,h1,h2,h3⟩:=h;split at hT
  ·rename_i e;subst e;rw[hw8]at hw;cases hw
  ·exact⟨b,A,c,own_below h1 hT,h2.ext hT,hMe _ _ _ hT h3⟩
 ·trivial
theorem ucKeep{wr W:World}{B g:Nat}{v0:Value}{pb:List UcB}{cs:Array Value}(h:UcV wr B v0 pb)(hg:wr.heap[g]? =some (.cells cs 74 (0,0)))(hk:Kept (fun k=>v0.ownBlock=some k∨k=g) wr W):∀b∈pb,b.own W B:=by
 intro b hb;have ho:=h.own b hb;have key:∀{B:Nat} {e:TypeId} {size:Nat} {v:Value} {n:Nat} {xs:List Value},wr.ownsRow B e size v n xs→e≠39→e≠74→W.ownsRow B e size v n xs:=fun{B e size v n xs} hr e1 e2=>Kept.row hr hk fun k hk2 ek=>by
  obtain⟨cs2,q1,_⟩:=row_block hr hk2;rcases ek with ek|ek
  ·obtain⟨cs3,q3,_⟩:=row_block h.row ek;exact ne_cells q1 q3 e1 rfl
  ·subst ek;exact ne_cells q1 hg e2 rfl
 exact⟨key ho.1 (by decide) (by decide),key ho.2 (by decide) (by decide)⟩
theorem ucFar{w w':World}{B g:Nat}{v:Value}{us:List UcB}{cs:Array Value}(h:UcV w B v us)(hg:w.heap[g]? =some (.cells cs 74 (0,0)))(hk:Kept (fun k=>k=g) w w'):UcV w' B v us:=
 ⟨row_far h.row hg (by decide) hk,fun r hr=>⟨row_far (h.own r hr).1 hg (by decide) hk,row_far (h.own r hr).2 hg (by decide) hk⟩⟩
theorem ucBase{w:World}{B B':Nat}{v:Value}{us:List UcB}(h:UcV w B v us)(hB:B'≤B):UcV w B' v us:=⟨own_base h.row hB,fun r hr=>⟨own_base (h.own r hr).1 hB,own_base (h.own r hr).2 hB⟩⟩
theorem one_uc(b:UcB):∀u∈b.cells,u.oneCell'=true:=by
 intro u hu;unfold UcB.cells at hu;simp only[List.mem_cons,List.not_mem_nil,or_false]at hu;rcases hu with rfl|rfl|rfl|rfl|rfl <;> rfl
def LoopM(g:Nat)(w2:World)(ps:List (Nat×Nat))(pre:Bool)(M:World→Value→Prop)(i:Value)(wr:World):Prop:=
 ∃(j:Nat) (pb:List UcB) (Ap:Option Addr) (cp:Nat),j≤ps.length∧i=.int .i64 (j:Int)∧M wr (.slice Ap pb.length cp)∧UcV wr w2.heap.size (.slice Ap pb.length cp) pb∧pb.map UcB.says=(ps.take j).map (fun p=>upR p.1 p.2 pre)∧Kept (fun k=>k=g) w2 wr
theorem UUpdate(w:World)(A:Option Addr)(ps:List (Nat×Nat))(ca:Nat)(C:Option Addr)(us:List (Nat×Nat))(cc:Nat)(hA:Cs w A (ps.flatMap upC))(hC:Cs w C (us.flatMap upC))(hp:∀p∈ps,p.1 < 256∧p.2 < 4294967296)(hu:∀p∈us,p.1 < 256∧p.2 < 4294967296)(hpl:ps.length≤100)(hul:us.length≤100):
 Calls prog 40 #[.slice A ps.length ca,.slice C us.length cc] w fun e w'=>Below w.heap.size w w'∧∃bq An cn cq Ap cp Au cu,∃pb ub:List UcB,e=.returned (.agg (msgV 9 5 (.slice (some ⟨bq,0,none⟩) 1 cq) (.slice Ap pb.length cp) (.slice Au ub.length cu)))∧QueU w' bq 0 An cn∧UcV w' w.heap.size (.slice Ap pb.length cp) pb∧UcV w' w.heap.size (.slice Au ub.length cu) ub∧pb.map UcB.says=ps.map (fun p=>upR p.1 p.2 true)∧ub.map UcB.says=us.map (fun p=>upR p.1 p.2 false):=by
 have b1:Below w.heap.size w (w.alloc (.cells (msgV 0 0 (.slice none 0 0) (.slice none 0 0) (.slice none 0 0)) 74)):=bAl;have c1:=heap_alloc_new w (.cells (msgV 0 0 (.slice none 0 0) (.slice none 0 0) (.slice none 0 0)) 74);have HA:=hid hA;have HC:=hid hC;have HP:=hid hp;have HU:=hid hu;clear hA hC hp hu;go_enter func40,ntmps40
 go_upto_region 1 with fail
 unfold msgV at b1 c1;generalize w.alloc (.cells #[.int .u16 0,.bool false,.int .i64 0,.bool false,.bool false,.bool false,.bool false,.int .i64 0,.slice none 0 0,.slice none 0 0,.slice none 0 0,.slice none 0 0,.bool false,.int .u16 0,.bool false] 74)=w1 at *;go_wp2_with fail;refine(Apex w1).mono ?_;rintro e wA ⟨v,rfl,hown,hbA⟩;obtain⟨An,cn,rfl,_⟩:=own_form hown
 have hb1A:=b1.trans (hbA.mono b1.size);have c1A:=(hbA.block _ (lt_block c1)).trans c1;clear c1 hbA
 go_upto_region 2 with fail
 have hbq:=heap_alloc_new wA (.cells #[.slice An 1 cn,.int .u16 6,.int .u16 1] 135);have b3:Below wA.heap.size wA (wA.alloc (.cells #[.slice An 1 cn,.int .u16 6,.int .u16 1] 135)):=bAl;have s3:(wA.alloc (.cells #[.slice An 1 cn,.int .u16 6,.int .u16 1] 135)).heap.size=wA.heap.size+1:=by simp
 generalize hwB:wA.alloc (.cells #[.slice An 1 cn,.int .u16 6,.int .u16 1] 135)=wB at *;have hbm:=heap_alloc_new wB (.cells (msgV 9 5 (.slice (some ⟨wA.heap.size,0,none⟩) 1 1) (.slice none 0 0) (.slice none 0 0)) 74)
 have b4:Below wB.heap.size wB (wB.alloc (.cells (msgV 9 5 (.slice (some ⟨wA.heap.size,0,none⟩) 1 1) (.slice none 0 0) (.slice none 0 0)) 74)):=bAl
 have hE2:Below w.heap.size w (wB.alloc (.cells (msgV 9 5 (.slice (some ⟨wA.heap.size,0,none⟩) 1 1) (.slice none 0 0) (.slice none 0 0)) 74)):=(hb1A.trans (b3.mono hb1A.size)).trans (b4.mono (Nat.le_trans hb1A.size b3.size));have hq2:=(b4.block _ (lt_block hbq)).trans hbq;have hn2:=own_below (own_below hown b3) b4
 have c2:=(b4.block _ (by rw[s3];have:=lt_block c1A;omega)).trans ((b3.block _ (lt_block c1A)).trans c1A);have hs2:=b4.size;unfold msgV at hbm b4 hE2 hq2 hn2 c2 hs2
 generalize wB.alloc (.cells #[.int .u16 9,.bool false,.int .i64 5,.bool false,.bool false,.bool false,.bool false,.int .i64 0,.slice (some ⟨wA.heap.size,0,none⟩) 1 1,.slice none 0 0,.slice none 0 0,.slice none 0 0,.bool false,.int .u16 0,.bool false] 74)=w2 at *;have hM2:MsgB w2 wB.heap.size (.slice (some ⟨wA.heap.size,0,none⟩) 1 1) (.slice none 0 0) (.slice none 0 0):=hbm
 have hres:=lt_block c1A;have HRES:=hid c2;have HQN:=hid (And.intro hq2 hn2);have HW2:=hid hE2;have hs0:=hb1A.size;have hs1:=b1.size;obtain⟨bq,hbq2⟩:∃bq,wA.heap.size=bq:=⟨_,rfl⟩
 obtain⟨g,hg2⟩:∃g,wB.heap.size=g:=⟨_,rfl⟩
 rw[hbq2]at hM2 HQN s3 hres hs0;rw[hg2]at hM2 s3 hs2
 try rw[hbq2]
 try rw[hg2]
 try rw[←s3]
 have hgw:w.heap.size+1 < g:=by omega
 have hbg:bq < g:=by omega
 clear hbq b3 hwB hbm b4 hE2 hq2 hn2 c2 hown hb1A b1 c1A hbq2 hg2 s3;go_wp2_with fail
 go_loopw [6] (LoopM g w2 ps true (fun W v=>MsgB W g (.slice (some ⟨bq,0,none⟩) 1 1) v (.slice none 0 0))) (fun i _=>ps.length - (intOf i).toNat)
 case atStart=>exact⟨0,[],none,0,Nat.zero_le _,rfl,hM2,⟨World.ownsRow_nil _ _ _ _,fun b hb=>(by cases hb)⟩,rfl,Kept.refl _ _⟩
 case round=>
  obtain⟨j,pb,Ap,cp,hj,rfl,hMr,hUC,hsy,hbel⟩:=hrel;have HUC:=hid hUC;have HSY:=hid hsy;have hpbl:pb.length=j:=by
   have:=congrArg List.length hsy;simp at this;omega
  have hgl:g < wr.heap.size:=lt_block hMr;have hwg2:w.heap.size≤wr.heap.size:=by omega
  by_cases hlt:j < ps.length
  ·have hxb:=HP.out _ (List.getElem_mem hlt);have hCr:Cs wr A (ps.flatMap upC):=by
    intro i v hv;obtain⟨b,off,e,hb,hc⟩:=HA.out i v hv;have hlw:=HW2.out.size;exact⟨b,off,e,by omega,((World.cell?_of_block (a:=⟨b,off+i,none⟩) (hbel.block b (by omega) (by omega))).trans ((HW2.out.cell (p:=⟨b,off+i,none⟩) hb))).trans hc⟩
   obtain⟨ba,oa,rfl,hbar,hx0,hx1⟩:=upAt hCr hlt;have hltI:(j:Int) < (ps.length:Int):=by omega
   have hvl:∀k,(Value.slice Ap pb.length cp).ownBlock=some k→k < wr.heap.size:=fun k hk=>(hUC.row.lt k hk).2;have hgv:¬(Value.slice Ap pb.length cp).ownBlock=some g:=fun e=>by
    obtain⟨cs,q1,_⟩:=row_block hUC.row e;exact ne_cells q1 hMr (by decide) rfl
   obtain⟨x,hx⟩:∃x,ps[j]=x:=⟨_,rfl⟩
   rw[hx]at hxb hx0 hx1;have HXB:=hid hxb;have HXB2:=hid hx;clear hxb hx hUC hsy hCr;go_wp2_with fail
   refine wp_region_r2 mixed0 (by kernel_rfl) (fun i j=>i==10&&j==8) (by kernel_rfl) (TM g (.slice Ap pb.length cp)) (fun W=>Kept (fun k=>(Value.slice Ap pb.length cp).ownBlock=some k∨k=g) wr W) (RM w2.heap.size wr.heap.size g 9 (.slice Ap pb.length cp) pb.length (pb.flatMap UcB.cells) (upR x.1 x.2 true) (.slice (some ⟨ba,oa,none⟩) ps.length ca) (.int .i64 (j:Int)) (.pointer (some ⟨ba,oa+j *2,none⟩)) (.agg #[.int .u8 (x.1:Int),.int .u32 (x.2:Int)]) (fun W v=>MsgB W g (.slice (some ⟨bq,0,none⟩) 1 1) v (.slice none 0 0))) (fun W=>Below wr.heap.size wr W) (fun i=>i==8||i==10) (Below.refl _ wr).drew ?_ ((Kept.refl _ wr).trans ⟨rfl,rfl,rfl,Nat.le_refl _,fun _ _ _=>rfl⟩) (fun i W W' h1 h2=>TM_keep h2 h1) (fun i j v W W' h1 h2 h3 _ h5 h6=>RM_keep (M:=(fun W v=>MsgB W g (.slice (some ⟨bq,0,none⟩) 1 1) v (.slice none 0 0))) (fun W W' v hE h=>MsgB.ext h hE) hgl hvl (by kernel_rfl) h1 h2 h3 h5 h6) ?_ ?_
   ·intro i W W' hk hC h1 h2;have hi:i≠8∧i≠10:=by simpa using hk
    unfold TM at h2;rw[if_neg hi.1,if_neg hi.2]at h2;exact h1.trans (h2.mono h1.size)
   ·intro i o hio vals W hC haf hI;rcases i with _|_|_|_|_|_|_|_|_|_|_|i
    all_goals first
     |(exfalso;simp at hio;done)
     |skip
    all_goals
     simp at hio;subst hio;simp[bindD,rdB,Region.binds,RM]at haf
    ·simp[opU,go_sem,haf,TM,RM,Ext.refl]
    ·have hE:Below wr.heap.size wr W:=hI (fun k hk h=>by
      have h20:k=8∨k=10:=by simpa using h
      rcases h20 with rfl|rfl <;> exact .inr (by kernel_rfl))
     have em:=(bcl (o:=9) hE hgl).trans hMr.c9.1;simp[opU,go_sem,haf,em,TM,RM,Ext.refl]
    ·simp[opU,go_sem,haf,TM,RM,Ext.refl]
    ·simp[opU,go_sem,haf,TM,RM,Ext.refl]
    ·simp[opU,go_sem,haf,TM,RM,Ext.refl,hltI,hlt]
    ·have hE:Below wr.heap.size wr W:=hI (fun k hk h=>by
      have h20:k=8∨k=10:=by simpa using h
      rcases h20 with rfl|rfl <;> exact .inr (by kernel_rfl))
     have e0:=(bcl (o:=oa+j *2) hE hbar).trans hx0;have e1:=(bcl (o:=oa+j *2+1) hE hbar).trans hx1;simp[opU,go_sem,haf,e0,e1,TM,RM,Ext.refl]
    ·have hsz:=hC.size;simp[opU,go_sem,haf,TM,RM];refine(UpS x.1 x.2 HXB.out.1 HXB.out.2 true W).mono fun e W' h=> ?_;obtain⟨hb,b,he,ho,hs⟩:=h;exact⟨_,he,hb,b,rfl,⟨own_base ho.1 hsz,own_base ho.2 hsz⟩,hs⟩
    ·obtain⟨b,hv,ho⟩:=haf;unfold UcB.cells at hv;have hsz:=hC.size;simp[opU,go_sem,hv,TM,RM];exact⟨bAl,b,own_rowU _ _ _ _ _ _ _ hsz,ho.ext bAl⟩
    ·have hE:Below wr.heap.size wr W:=hI (fun k hk h=>by
      have h20:k=8∨k=10:=by simpa using h
      rcases h20 with rfl|rfl
      ·exact .inl rfl
      ·exact .inr (by kernel_rfl))
     obtain⟨h1,b,h7,h7'⟩:=haf;obtain⟨A7,c7,e7,_⟩:=own_form h7;rw[e7]at h7;have hrow:=own_below HUC.out.row hE
     refine yield_rowsR rfl (.tmp 19) (.tmp 25) underlying31 rfl (v:=.slice Ap pb.length cp) (by simp[relAct,dstAt,Act.put,Act.eval,h1]) hrow (by have:=hE.size;have:=hbel.size;omega) (us:=b.cells) (A:=A7) (m:=1) (c:=c7) (by simp[relAct,dstAt,Act.put,Act.eval,e7]) rfl (cs_own2 h7) (one_uc b) (by omega) ?_;intro v' W' g1 g2
     have g3:Kept (fun k=>(Value.slice Ap pb.length cp).ownBlock=some k) W W':=g2.mono fun _ _ e=>e.symm;refine⟨by simp only[TM];exact g3,b,g1,h7'.keep g3 hvl, ?_⟩;exact(g3.block g (by have:=hE.size;omega) (fun e=>hgv e)).trans ((hE.block g hgl).trans hMr)
    ·simp[opU,go_sem,haf,TM,RM,Ext.refl]
    ·obtain⟨h9,b,h8,h8',hM8⟩:=haf;obtain⟨A8,c8,e8,_⟩:=own_form h8;rw[e8]at h8;have hM8:MsgB W g (.slice (some ⟨bq,0,none⟩) 1 1) (.slice Ap pb.length cp) (.slice none 0 0):=hM8;obtain⟨w1',wf⟩:=hM8.c9;simp[opU,go_sem,h9,e8,w1',wf,TM,RM]
     have hks:=(Kept.refl (fun k=>k=g) W).setCell (p:=⟨g,9,none⟩) (fun _=>rfl) (.slice A8 (pb.length+1) c8);refine⟨hks,b,A8,c8,Kept.row h8 hks (fun k hk e=> ?_),h8'.keep hks (fun k e=>by rw[e];exact hgl),heap_set hM8⟩;obtain⟨cs2,q1,_⟩:=row_block h8 hk;subst e;exact ne_cells q1 hM8 (by decide) rfl
   ·intro vals W hC hR;obtain⟨b,A8,c8,hrow8,hb8,hM8⟩:∃b A c,W.ownsRow w2.heap.size 39 5 (.slice A (pb.length+1) c) (pb.length+1) (pb.flatMap UcB.cells++b.cells)∧UpF W wr.heap.size (upR x.1 x.2 true) b∧MsgB W g (.slice (some ⟨bq,0,none⟩) 1 1) (.slice A (pb.length+1) c) (.slice none 0 0):=hR 10 (by decide) (fun i _=>by simp)
    have hC:Kept (fun k=>(Value.slice Ap pb.length cp).ownBlock=some k∨k=g) wr W:=hC;have hold:=ucKeep HUC.out hMr hC;have hbW:Kept (fun k=>k=g) w2 W:=hbel.then hC (fun k hk e=>by
     rcases e with e|e
     ·have:=(HUC.out.row.lt k e).1;omega
     ·exact e)
    have hUC8:UcV W w2.heap.size (.slice A8 (pb++[b]).length c8) (pb++[b]):=by
     refine⟨?_,fun y hy=> ?_⟩
     ·rw[List.length_append,List.flatMap_append];simpa using hrow8
     ·rcases List.mem_append.1 hy with hy|hy
      ·exact hold y hy
      ·have:y=b:=by simpa using hy
       rw[this];exact⟨own_base hb8.1.1 hbel.size,own_base hb8.1.2 hbel.size⟩
    have hsay8:(pb++[b]).map UcB.says=(ps.take (j+1)).map (fun p=>upR p.1 p.2 true):=by
     rw[List.map_append,HSY.out,List.take_succ_eq_append_getElem hlt,List.map_append];congr 1;show[b.says]=[upR (ps[j]).1 (ps[j]).2 true]
     rw[hb8.2,HXB2.out]
    have HR8:=hid (And.intro hUC8 (And.intro hsay8 hbW));clear hR hC hold hUC8 hsay8 hbW hrow8 hb8;simp[relAct,dstAt,Act.put];generalize vals 0=k0,vals 1=k1;generalize vals 2=k2,vals 3=k3;generalize vals 4=k4,vals 5=k5;generalize vals 6=k6,vals 7=k7;generalize vals 8=k8,vals 9=k9
    have hM8':MsgB W g (.slice (some ⟨bq,0,none⟩) 1 1) (.slice A8 (pb++[b]).length c8) (.slice none 0 0):=by simpa using hM8
    go_wp2_with fail;exact⟨⟨j+1,pb++[b],A8,c8,hlt,by go_num,hM8',HR8.out.1,HR8.out.2.1,HR8.out.2.2⟩,by simp[intOf];omega⟩
  ·have hjl:j=ps.length:=by omega
   have hltI:¬(j:Int) < (ps.length:Int):=by omega
   rw[hjl,List.take_length]at hsy;have HUC1:=hid hUC;have HM3:=hid hMr;have HE1:=hid (And.intro hsy hbel);have HW3:=hid (HW2.out.trans (hbel.below HW2.out.size (fun k hk e=>by omega)));have hgl3:=hgl;clear hUC hsy hj hjl HUC HSY hwg2 hgl hbel;obtain⟨pb1,hpb1⟩:∃pb1,pb1=pb:=⟨_,rfl⟩
   rw[←hpb1]at hMr HUC1 HE1;clear hpb1 hpbl;generalize Ap=Ap1 at *;generalize cp=cp1 at *;generalize wr=w3 at *;have hl3:g < w3.heap.size:=hgl3;go_wp2_with fail
   go_loopw [7] (LoopM g w3 us false (fun W v=>MsgB W g (.slice (some ⟨bq,0,none⟩) 1 1) (.slice Ap1 pb1.length cp1) v)) (fun i _=>us.length - (intOf i).toNat)
   case atStart=>exact⟨0,[],none,0,Nat.zero_le _,rfl,hMr,⟨World.ownsRow_nil _ _ _ _,fun b hb=>(by cases hb)⟩,rfl,Kept.refl _ _⟩
   case round=>
    obtain⟨j,pb,Ap,cp,hj,rfl,hMr,hUC,hsy,hbel⟩:=hrel;have HUC:=hid hUC;have HSY:=hid hsy;have hpbl:pb.length=j:=by
     have:=congrArg List.length hsy;simp at this;omega
    have hgl:g < wr.heap.size:=lt_block hMr;have hwg2:w.heap.size≤wr.heap.size:=by omega
    by_cases hlt:j < us.length
    ·have hxb:=HU.out _ (List.getElem_mem hlt);have hCr:Cs wr C (us.flatMap upC):=by
      intro i v hv;obtain⟨b,off,e,hb,hc⟩:=HC.out i v hv;have hlw:=HW3.out.size;exact⟨b,off,e,by omega,((World.cell?_of_block (a:=⟨b,off+i,none⟩) (hbel.block b (by omega) (by omega))).trans ((HW3.out.cell (p:=⟨b,off+i,none⟩) hb))).trans hc⟩
     obtain⟨ba,oa,rfl,hbar,hx0,hx1⟩:=upAt hCr hlt;have hltI:(j:Int) < (us.length:Int):=by omega
     have hvl:∀k,(Value.slice Ap pb.length cp).ownBlock=some k→k < wr.heap.size:=fun k hk=>(hUC.row.lt k hk).2;have hgv:¬(Value.slice Ap pb.length cp).ownBlock=some g:=fun e=>by
      obtain⟨cs,q1,_⟩:=row_block hUC.row e;exact ne_cells q1 hMr (by decide) rfl
     obtain⟨x,hx⟩:∃x,us[j]=x:=⟨_,rfl⟩
     rw[hx]at hxb hx0 hx1;have HXB:=hid hxb;have HXB2:=hid hx;clear hxb hx hUC hsy hCr;go_wp2_with fail
     refine wp_region_r2 mixed0 (by kernel_rfl) (fun i j=>i==10&&j==8) (by kernel_rfl) (TM g (.slice Ap pb.length cp)) (fun W=>Kept (fun k=>(Value.slice Ap pb.length cp).ownBlock=some k∨k=g) wr W) (RM w3.heap.size wr.heap.size g 10 (.slice Ap pb.length cp) pb.length (pb.flatMap UcB.cells) (upR x.1 x.2 false) (.slice (some ⟨ba,oa,none⟩) us.length cc) (.int .i64 (j:Int)) (.pointer (some ⟨ba,oa+j *2,none⟩)) (.agg #[.int .u8 (x.1:Int),.int .u32 (x.2:Int)]) (fun W v=>MsgB W g (.slice (some ⟨bq,0,none⟩) 1 1) (.slice Ap1 pb1.length cp1) v)) (fun W=>Below wr.heap.size wr W) (fun i=>i==8||i==10) (Below.refl _ wr).drew ?_ ((Kept.refl _ wr).trans ⟨rfl,rfl,rfl,Nat.le_refl _,fun _ _ _=>rfl⟩) (fun i W W' h1 h2=>TM_keep h2 h1) (fun i j v W W' h1 h2 h3 _ h5 h6=>RM_keep (M:=(fun W v=>MsgB W g (.slice (some ⟨bq,0,none⟩) 1 1) (.slice Ap1 pb1.length cp1) v)) (fun W W' v hE h=>MsgB.ext h hE) hgl hvl (by kernel_rfl) h1 h2 h3 h5 h6) ?_ ?_
     ·intro i W W' hk hC h1 h2;have hi:i≠8∧i≠10:=by simpa using hk
      unfold TM at h2;rw[if_neg hi.1,if_neg hi.2]at h2;exact h1.trans (h2.mono h1.size)
     ·intro i o hio vals W hC haf hI;rcases i with _|_|_|_|_|_|_|_|_|_|_|i
      all_goals first
       |(exfalso;simp at hio;done)
       |skip
      all_goals
       simp at hio;subst hio;simp[bindD,rdB,Region.binds,RM]at haf
      ·simp[opU,go_sem,haf,TM,RM,Ext.refl]
      ·have hE:Below wr.heap.size wr W:=hI (fun k hk h=>by
        have h20:k=8∨k=10:=by simpa using h
        rcases h20 with rfl|rfl <;> exact .inr (by kernel_rfl))
       have em:=(bcl (o:=10) hE hgl).trans hMr.c10.1;simp[opU,go_sem,haf,em,TM,RM,Ext.refl]
      ·simp[opU,go_sem,haf,TM,RM,Ext.refl]
      ·simp[opU,go_sem,haf,TM,RM,Ext.refl]
      ·simp[opU,go_sem,haf,TM,RM,Ext.refl,hltI,hlt]
      ·have hE:Below wr.heap.size wr W:=hI (fun k hk h=>by
        have h20:k=8∨k=10:=by simpa using h
        rcases h20 with rfl|rfl <;> exact .inr (by kernel_rfl))
       have e0:=(bcl (o:=oa+j *2) hE hbar).trans hx0;have e1:=(bcl (o:=oa+j *2+1) hE hbar).trans hx1;simp[opU,go_sem,haf,e0,e1,TM,RM,Ext.refl]
      ·have hsz:=hC.size;simp[opU,go_sem,haf,TM,RM];refine(UpS x.1 x.2 HXB.out.1 HXB.out.2 false W).mono fun e W' h=> ?_;obtain⟨hb,b,he,ho,hs⟩:=h;exact⟨_,he,hb,b,rfl,⟨own_base ho.1 hsz,own_base ho.2 hsz⟩,hs⟩
      ·obtain⟨b,hv,ho⟩:=haf;unfold UcB.cells at hv;have hsz:=hC.size;simp[opU,go_sem,hv,TM,RM];exact⟨bAl,b,own_rowU _ _ _ _ _ _ _ hsz,ho.ext bAl⟩
      ·have hE:Below wr.heap.size wr W:=hI (fun k hk h=>by
        have h20:k=8∨k=10:=by simpa using h
        rcases h20 with rfl|rfl
        ·exact .inl rfl
        ·exact .inr (by kernel_rfl))
       obtain⟨h1,b,h7,h7'⟩:=haf;obtain⟨A7,c7,e7,_⟩:=own_form h7;rw[e7]at h7;have hrow:=own_below HUC.out.row hE
       refine yield_rowsR rfl (.tmp 35) (.tmp 41) underlying31 rfl (v:=.slice Ap pb.length cp) (by simp[relAct,dstAt,Act.put,Act.eval,h1]) hrow (by have:=hE.size;have:=hbel.size;omega) (us:=b.cells) (A:=A7) (m:=1) (c:=c7) (by simp[relAct,dstAt,Act.put,Act.eval,e7]) rfl (cs_own2 h7) (one_uc b) (by omega) ?_;intro v' W' g1 g2
       have g3:Kept (fun k=>(Value.slice Ap pb.length cp).ownBlock=some k) W W':=g2.mono fun _ _ e=>e.symm;refine⟨by simp only[TM];exact g3,b,g1,h7'.keep g3 hvl, ?_⟩;exact(g3.block g (by have:=hE.size;omega) (fun e=>hgv e)).trans ((hE.block g hgl).trans hMr)
      ·simp[opU,go_sem,haf,TM,RM,Ext.refl]
      ·obtain⟨h9,b,h8,h8',hM8⟩:=haf;obtain⟨A8,c8,e8,_⟩:=own_form h8;rw[e8]at h8;have hM8:MsgB W g (.slice (some ⟨bq,0,none⟩) 1 1) (.slice Ap1 pb1.length cp1) (.slice Ap pb.length cp):=hM8;obtain⟨w1',wf⟩:=hM8.c10;simp[opU,go_sem,h9,e8,w1',wf,TM,RM]
       have hks:=(Kept.refl (fun k=>k=g) W).setCell (p:=⟨g,10,none⟩) (fun _=>rfl) (.slice A8 (pb.length+1) c8);refine⟨hks,b,A8,c8,Kept.row h8 hks (fun k hk e=> ?_),h8'.keep hks (fun k e=>by rw[e];exact hgl),heap_set hM8⟩;obtain⟨cs2,q1,_⟩:=row_block h8 hk;subst e;exact ne_cells q1 hM8 (by decide) rfl
     ·intro vals W hC hR;obtain⟨b,A8,c8,hrow8,hb8,hM8⟩:∃b A c,W.ownsRow w3.heap.size 39 5 (.slice A (pb.length+1) c) (pb.length+1) (pb.flatMap UcB.cells++b.cells)∧UpF W wr.heap.size (upR x.1 x.2 false) b∧MsgB W g (.slice (some ⟨bq,0,none⟩) 1 1) (.slice Ap1 pb1.length cp1) (.slice A (pb.length+1) c):=hR 10 (by decide) (fun i _=>by simp)
      have hC:Kept (fun k=>(Value.slice Ap pb.length cp).ownBlock=some k∨k=g) wr W:=hC;have hold:=ucKeep HUC.out hMr hC;have hbW:Kept (fun k=>k=g) w3 W:=hbel.then hC (fun k hk e=>by
       rcases e with e|e
       ·have:=(HUC.out.row.lt k e).1;omega
       ·exact e)
      have hUC8:UcV W w3.heap.size (.slice A8 (pb++[b]).length c8) (pb++[b]):=by
       refine⟨?_,fun y hy=> ?_⟩
       ·rw[List.length_append,List.flatMap_append];simpa using hrow8
       ·rcases List.mem_append.1 hy with hy|hy
        ·exact hold y hy
        ·have:y=b:=by simpa using hy
         rw[this];exact⟨own_base hb8.1.1 hbel.size,own_base hb8.1.2 hbel.size⟩
      have hsay8:(pb++[b]).map UcB.says=(us.take (j+1)).map (fun p=>upR p.1 p.2 false):=by
       rw[List.map_append,HSY.out,List.take_succ_eq_append_getElem hlt,List.map_append];congr 1;show[b.says]=[upR (us[j]).1 (us[j]).2 false]
       rw[hb8.2,HXB2.out]
      have HR8:=hid (And.intro hUC8 (And.intro hsay8 hbW));clear hR hC hold hUC8 hsay8 hbW hrow8 hb8;simp[relAct,dstAt,Act.put];generalize vals 0=k0,vals 1=k1;generalize vals 2=k2,vals 3=k3;generalize vals 4=k4,vals 5=k5;generalize vals 6=k6,vals 7=k7;generalize vals 8=k8,vals 9=k9
      have hM8':MsgB W g (.slice (some ⟨bq,0,none⟩) 1 1) (.slice Ap1 pb1.length cp1) (.slice A8 (pb++[b]).length c8):=by simpa using hM8
      go_wp2_with fail;exact⟨⟨j+1,pb++[b],A8,c8,hlt,by go_num,hM8',HR8.out.1,HR8.out.2.1,HR8.out.2.2⟩,by simp[intOf];omega⟩
    ·have hjl:j=us.length:=by omega
     have hltI:¬(j:Int) < (us.length:Int):=by omega
     have HUC2:=hid hUC;rw[hjl,List.take_length]at hsy;have HE:=hid (And.intro hsy hbel);obtain⟨hm9,mf9⟩:=hMr.c9;have hmm:wr.heap[g]? =some (.cells (msgV 9 5 (.slice (some ⟨bq,0,none⟩) 1 1) (.slice Ap1 pb1.length cp1) (.slice Ap pb.length cp)) 74 (0,0)):=hMr;obtain⟨n0,n1,n2,n3,n4,n5,n6,n7,n8,_,n10,n11,n12,n13,n14⟩:=msg_cells hmm
     have hrb:wr.heap[w.heap.size]? =some (.cells #[.int .u16 0,.bool false,.int .i64 0,.bool false,.bool false,.bool false,.bool false,.int .i64 0,.slice none 0 0,.slice none 0 0,.slice none 0 0,.slice none 0 0,.bool false,.int .u16 0,.bool false] 74 (0,0)):=(hbel.block _ (by omega) (by omega)).trans ((HE1.out.2.block _ (by have:=HW2.out.size;have:=lt_block HRES.out;omega) (by omega)).trans HRES.out)
     have rf:∀i,wr.frozen? ⟨w.heap.size,i,none⟩=false:=fun i=>by simp[World.frozen?,hrb]
     obtain⟨r0,r1,r2,r3,r4,r5,r6,r7,r8,r9,r10,r11,r12,r13,r14⟩:=msg_cells (id:=0) (op:=0) (q:=.slice none 0 0) (p:=.slice none 0 0) (u:=.slice none 0 0) hrb;have HRB:=hid hrb;have hne:w.heap.size≠g:=by omega
     clear hmm hUC hsy hrb;go_wp2_with fail
     have hkW:Kept (fun k=>k=w.heap.size) wr (((((((((((((((wr.setCell ⟨w.heap.size,0,none⟩ (.int .u16 9)).setCell ⟨w.heap.size,1,none⟩ (.bool false)).setCell ⟨w.heap.size,2,none⟩ (.int .i64 5)).setCell ⟨w.heap.size,3,none⟩ (.bool false)).setCell ⟨w.heap.size,4,none⟩ (.bool false)).setCell ⟨w.heap.size,5,none⟩ (.bool false)).setCell ⟨w.heap.size,6,none⟩ (.bool false)).setCell ⟨w.heap.size,7,none⟩ (.int .i64 0)).setCell ⟨w.heap.size,8,none⟩ (.slice (some ⟨bq,0,none⟩) 1 1)).setCell ⟨w.heap.size,9,none⟩ (.slice Ap1 pb1.length cp1)).setCell ⟨w.heap.size,10,none⟩ (.slice Ap us.length cp)).setCell ⟨w.heap.size,11,none⟩ (.slice none 0 0)).setCell ⟨w.heap.size,12,none⟩ (.bool false)).setCell ⟨w.heap.size,13,none⟩ (.int .u16 0)).setCell ⟨w.heap.size,14,none⟩ (.bool false)):=((((((((((((((((Kept.refl (fun k=>k=w.heap.size) wr).setCell (p:=⟨w.heap.size,0,none⟩) (fun _=>rfl) (.int .u16 9)).setCell (p:=⟨w.heap.size,1,none⟩) (fun _=>rfl) (.bool false)).setCell (p:=⟨w.heap.size,2,none⟩) (fun _=>rfl) (.int .i64 5)).setCell (p:=⟨w.heap.size,3,none⟩) (fun _=>rfl) (.bool false)).setCell (p:=⟨w.heap.size,4,none⟩) (fun _=>rfl) (.bool false)).setCell (p:=⟨w.heap.size,5,none⟩) (fun _=>rfl) (.bool false)).setCell (p:=⟨w.heap.size,6,none⟩) (fun _=>rfl) (.bool false)).setCell (p:=⟨w.heap.size,7,none⟩) (fun _=>rfl) (.int .i64 0)).setCell (p:=⟨w.heap.size,8,none⟩) (fun _=>rfl) (.slice (some ⟨bq,0,none⟩) 1 1)).setCell (p:=⟨w.heap.size,9,none⟩) (fun _=>rfl) (.slice Ap1 pb1.length cp1)).setCell (p:=⟨w.heap.size,10,none⟩) (fun _=>rfl) (.slice Ap us.length cp)).setCell (p:=⟨w.heap.size,11,none⟩) (fun _=>rfl) (.slice none 0 0)).setCell (p:=⟨w.heap.size,12,none⟩) (fun _=>rfl) (.bool false)).setCell (p:=⟨w.heap.size,13,none⟩) (fun _=>rfl) (.int .u16 0)).setCell (p:=⟨w.heap.size,14,none⟩) (fun _=>rfl) (.bool false))
     have hR:=(heap_set (i:=14) (v:=.bool false) (heap_set (i:=13) (v:=.int .u16 0) (heap_set (i:=12) (v:=.bool false) (heap_set (i:=11) (v:=.slice none 0 0) (heap_set (i:=10) (v:=.slice Ap us.length cp) (heap_set (i:=9) (v:=.slice Ap1 pb1.length cp1) (heap_set (i:=8) (v:=.slice (some ⟨bq,0,none⟩) 1 1) (heap_set (i:=7) (v:=.int .i64 0) (heap_set (i:=6) (v:=.bool false) (heap_set (i:=5) (v:=.bool false) (heap_set (i:=4) (v:=.bool false) (heap_set (i:=3) (v:=.bool false) (heap_set (i:=2) (v:=.int .i64 5) (heap_set (i:=1) (v:=.bool false) (heap_set (i:=0) (v:=.int .u16 9) HRB.out)))))))))))))))
     generalize(((((((((((((((wr.setCell ⟨w.heap.size,0,none⟩ (.int .u16 9)).setCell ⟨w.heap.size,1,none⟩ (.bool false)).setCell ⟨w.heap.size,2,none⟩ (.int .i64 5)).setCell ⟨w.heap.size,3,none⟩ (.bool false)).setCell ⟨w.heap.size,4,none⟩ (.bool false)).setCell ⟨w.heap.size,5,none⟩ (.bool false)).setCell ⟨w.heap.size,6,none⟩ (.bool false)).setCell ⟨w.heap.size,7,none⟩ (.int .i64 0)).setCell ⟨w.heap.size,8,none⟩ (.slice (some ⟨bq,0,none⟩) 1 1)).setCell ⟨w.heap.size,9,none⟩ (.slice Ap1 pb1.length cp1)).setCell ⟨w.heap.size,10,none⟩ (.slice Ap us.length cp)).setCell ⟨w.heap.size,11,none⟩ (.slice none 0 0)).setCell ⟨w.heap.size,12,none⟩ (.bool false)).setCell ⟨w.heap.size,13,none⟩ (.int .u16 0)).setCell ⟨w.heap.size,14,none⟩ (.bool false))=W at *
     have hR:W.heap[w.heap.size]? =some (.cells #[.int .u16 9,.bool false,.int .i64 5,.bool false,.bool false,.bool false,.bool false,.int .i64 0,.slice (some ⟨bq,0,none⟩) 1 1,.slice Ap1 pb1.length cp1,.slice Ap us.length cp,.slice none 0 0,.bool false,.int .u16 0,.bool false] 74 (0,0)):=by simpa using hR
     obtain⟨y0,y1,y2,y3,y4,y5,y6,y7,y8,y9,y10,y11,y12,y13,y14⟩:=msg_cells (id:=9) (op:=5) (q:=(.slice (some ⟨bq,0,none⟩) 1 1)) (p:=.slice Ap1 pb1.length cp1) (u:=.slice Ap us.length cp) hR;have hpl2:pb.length=us.length:=by omega
     have hk3:=HE.out.2;have hq3:=(HE1.out.2.block bq (lt_block HQN.out.1) (by omega)).trans HQN.out.1;have hqr:=(hk3.block bq (lt_block hq3) (by omega)).trans hq3;have hqW:=(hkW.block bq (lt_block hqr) (by omega)).trans hqr;have hn3:=row_far HQN.out.2 hM2 (by decide) HE1.out.2;have hnr:=row_far hn3 HM3.out (by decide) hk3;have hnW:=row_far hnr HRB.out (by decide) hkW;obtain⟨t0,t1,t2,_⟩:=cells3 hqW
     have hw2l:=HW2.out.size;have hw3l:=HW3.out.size;have hbW:Below w.heap.size w W:=(HW3.out.trans (hk3.below hw3l (fun k hk e=>by omega))).trans (hkW.below (Nat.le_trans hw3l hk3.size) (fun k hk e=>by omega))
     refine bodyPost_ret (v:=.agg #[.int .u16 9,.bool false,.int .i64 5,.bool false,.bool false,.bool false,.bool false,.int .i64 0,.slice (some ⟨bq,0,none⟩) 1 1,.slice Ap1 pb1.length cp1,.slice Ap us.length cp,.slice none 0 0,.bool false,.int .u16 0,.bool false]) ?_ rfl ⟨hbW,bq,An,cn,1,Ap1,cp1,Ap,cp,pb1,pb,by rw[hpl2];rfl,⟨lt_block hqW,t0,t1,t2,cs_own2 hnW⟩,ucBase (ucFar (ucFar HUC1.out HM3.out hk3) HRB.out hkW) hw2l,ucBase (ucFar HUC2.out HRB.out hkW) hw3l,HE1.out.1,HE.out.1⟩
     simp[results,results40,go_sem,y0,y1,y2,y3,y4,y5,y6,y7,y8,y9,y10,y11,y12,y13,y14]
theorem Zo.empty{w:World}{B z bn bb:Nat}(h:Emp w B z bn bb [exL] (fun _=>0) 0)(hne:bn≠bb):Zo w B z (fun k=>k=z∨k=bn∨k=bb) [exL] cont0 0 0:=by
 have hz:ZG w B z bn bb [exL] [] [] 0:=⟨⟨_,h,Ents.empty⟩,fun p hp=>(by cases hp),fun q hq=>(by cases hq),by simp[hne],List.nodup_nil,List.Pairwise.nil⟩
 have hw:Wf [exL] [] []:=⟨fun p hp=>(by cases hp),List.nodup_nil,List.nodup_nil,fun q hq=>(by cases hq),fun q hq=>(by cases hq),fun p hp=>(by cases hp),fun q hq=>(by cases hq),fun q hq=>(by cases hq)⟩
 refine⟨bn,bb,[],[],hz,hw,rfl,rfl, ?_⟩;funext k;apply propext;constructor
 ·rintro(e|e|e)
  ·exact .inl e
  ·exact .inr (.inl e)
  ·exact .inr (.inr (.inl e))
 ·rintro(e|e|e|⟨p,hp,_⟩|⟨q,hq,_⟩)
  ·exact .inl e
  ·exact .inr (.inl e)
  ·exact .inr (.inr e)
  ·cases hp
  ·cases hq
theorem lst0:LstP cont0 []:=⟨List.Pairwise.nil,fun x=>⟨fun h=>(by cases h),fun h=>(by obtain⟨ds,h,_⟩:=h;cases h)⟩⟩
theorem recsZonal{S:Nat→Prop}{w w':World}{B:Nat}{v:Value}{rs:List RcB}(h:RecsV w B v rs)(hk:Kept S w w')(hZ:Zonal S w):RecsV w' B v rs:=
 ⟨row_zonal h.row hk hZ zT_rec,fun r hr=>⟨row_zonal (h.own r hr).1 hk hZ zT_str,row_zonal (h.own r hr).2 hk hZ zT_u8⟩⟩
theorem recsDoc{R:Nat→Prop}{w5 w w':World}{B m:Nat}{v:Value}{rs:List RcB}{cs:Array Value}(h5:RecsV w5 B v rs)(h:RecsV w B v rs)(hk:Kept R w w')(hR:∀k,R k→k=m∨w5.heap.size≤k)(hm:w.heap[m]? =some (.cells cs 33 (0,0))):RecsV w' B v rs:=by
 have key:∀{B:Nat} {e:TypeId} {size:Nat} {v:Value} {n:Nat} {xs:List Value},w5.ownsRow B e size v n xs→w.ownsRow B e size v n xs→e≠33→w'.ownsRow B e size v n xs:=fun{B e size v n xs} h5 hr he=>Kept.row hr hk fun k hk2 ek=>by
  rcases hR k ek with e1|e1
  ·obtain⟨cs2,q1,_⟩:=row_block hr hk2;exact ne_cells q1 hm he e1
  ·have:=(h5.lt k hk2).2;omega
 exact⟨key h5.row h.row (by decide),fun r hr=>⟨key (h5.own r hr).1 (h.own r hr).1 (by decide),key (h5.own r hr).2 (h.own r hr).2 (by decide)⟩⟩
theorem RZo.box{w:World}{B m:Nat}{S:Nat→Prop}{L:List PR}(h:RZo w B m S L):∃cs,w.heap[m]? =some (.cells cs 33 (0,0)):=by
 obtain⟨Aa,ca,A,c,rs,h1,_⟩:=h.ex;exact⟨_,h1⟩
def Mk17R(w w5:World)(rs:List RcB)(Br:Nat)(v:Value)(z m Bz:Nat)(i:Value)(wr:World):Prop:=
 ∃(j:Nat) (S R:Nat→Prop) (N T:Nat) (L:List PR),j≤rs.length∧i=.int .i64 (j:Int)∧Zo wr Bz z S [exL] (((rs.take j).map RcB.says).foldl putS cont0) N T∧RZo wr w.heap.size m R L∧LstP (((rs.take j).map RcB.says).foldl putS cont0) L∧N≤2000 *j∧T≤j∧L.length≤j∧(∀k,S k→¬R k)∧(∀k,R k→k=m∨w5.heap.size≤k)∧RecsV wr Br v rs∧w5.heap.size≤wr.heap.size∧Below w.heap.size w wr
structure MadeP(w w':World)(l:List Nat)(e:Ending):Prop where
 ex:∃Bz z m S R N T L,e=.returned (.tuple #[.pointer (some ⟨z,0,none⟩),.pointer (some ⟨m,0,none⟩)])∧w.heap.size≤Bz∧Zo w' Bz z S [exL] (madeF l) N T∧RZo w' w.heap.size m R L∧LstP (madeF l) L∧N≤100000∧T≤14∧L.length≤14∧(∀k,S k→¬R k)
theorem Made17(w:World)(A:Option Addr)(l:List Nat)(cap:Nat)(hA:Cs w A (l.map u32K))(hl:∀k∈l,k < 4294967296)(h12:l.length≤12):
 Calls prog 39 #[.slice A l.length cap] w fun e w'=>Below w.heap.size w w'∧MadeP w w' l e:=by
 have HA:=hid hA;have HL:=hid hl;clear hA hl;go_enter func39,ntmps39;go_wp2_with fail;refine(Apex w).mono ?_;rintro e w1 ⟨v1,rfl,hown1,hb1⟩;obtain⟨A1,c1,rfl,_,hcs1⟩:=Cs.of_own hown1;clear hown1;go_wp2_with fail;refine(ZNew A1 [exL] c1 w1 hcs1 (by unfold Few;decide)).mono ?_;rintro e w2 ⟨z,bn,bb,rfl,hm,hb2⟩;rw[exL_low]at hm;have hE:=Emp.of_made hm
 have hbn:bn≠bb:=by have:=hm.h2;omega
 have hb12:=hb1.trans (hb2.mono hb1.size);have hs1:=hb1.size;have hZ0:=Zo.empty hE hbn;clear hm hcs1 hb2 hb1 hE;go_wp2_with fail;refine(Apex w2).mono ?_;rintro e w3 ⟨v3,rfl,hown3,hb3⟩;obtain⟨A3,c3,rfl,_⟩:=own_form hown3;have hZ3:=hZ0.ext hb3;have hb13:=hb12.trans (hb3.mono hb12.size);have hs2:=hb12.size;clear hZ0 hb3
 go_upto_region 4 with fail
 have b4:Below w3.heap.size w3 (w3.alloc (.cells #[.slice A3 1 c3,.slice none 0 0] 33)):=bAl;have c4:=heap_alloc_new w3 (.cells #[.slice A3 1 c3,.slice none 0 0] 33);generalize w3.alloc (.cells #[.slice A3 1 c3,.slice none 0 0] 33)=w4 at *;have hs3:=hb13.size;have hb14:=hb13.trans (b4.mono hs3);have hZ4:=hZ3.ext b4;have hn4:=own_below hown3 b4
 obtain⟨m,hm⟩:∃m,w3.heap.size=m:=⟨_,rfl⟩
 rw[hm]at c4 hs3
 try rw[hm]
 have hR4:RZo w4 w.heap.size m (rblk m (.slice none 0 0)) []:=⟨⟨A3,c3,none,0,[],c4,own_base hn4 hs2,⟨World.ownsRow_nil _ _ _ _,fun r hr=>(by cases hr)⟩,rfl,rfl⟩,fun x hx=>(by cases hx),hs3⟩
 have hs4:=hb14.size;have HB:=hid (Begin w4 A l cap (HA.out.below hb14) HL.out h12);have hml:=lt_block c4;have HZ:=hid (And.intro hZ4 (And.intro hR4 hb14));clear hZ3 b4 c4 hZ4 hn4 hown3 hb13 hb12 hm hR4;go_wp2_with fail;refine HB.out.mono ?_;rintro e w5 ⟨hb5,v,rs,rfl,hrs,hsay⟩;obtain⟨Ar,cr,rfl,hcr⟩:=own_form hrs.row;have hb15:=HZ.out.2.2.trans (hb5.mono hs4);have hs5:=hb5.size
 have HRS5:=hid (And.intro hrs hsay);have hrl:rs.length≤14:=by
  obtain⟨r,h1,h2,_⟩:=beginL_form l;have h3:=congrArg List.length hsay;rw[h1,List.length_append]at h3;have:begin0.length=2:=rfl;simp at h3;omega
 have hzd:∀k,(k=z∨k=bn∨k=bb)→¬rblk m (.slice none 0 0) k:=fun k hk hr=>by
  have h1:=(HZ.out.1.lt hk)
  obtain⟨cs,T,h2,h3⟩:=HZ.out.2.1.farS k hr h1.1;exact h3 |> fun h3=>by
   rcases hr with e|e
   ·have:=HZ.out.1.zonal k hk cs T (0,0) h2;unfold zT at this;rcases this with e|e|e
    ·exact h3.1 e
    ·exact h3.2.1 e
    ·exact h3.2.2.1 e
   ·cases e
 have hst:Mk17R w w5 rs w4.heap.size (.slice Ar rs.length cr) z m w1.heap.size (.int .i64 (0:Nat)) w5:=by
  refine⟨0,_,_,0,0,[],Nat.zero_le _,rfl,HZ.out.1.ext hb5,HZ.out.2.1.below hb5,lst0,Nat.zero_le _,Nat.zero_le _,Nat.zero_le _,hzd,fun k hk=> ?_,hrs,Nat.le_refl _,hb15⟩;rcases hk with e|e
  ·exact .inl e
  ·cases e
 have HST:=hid hst;clear hst hrs hsay hb5 HB HZ hb14 hzd;go_wp2_with fail
 go_loopw [7] (Mk17R w w5 rs w4.heap.size (.slice Ar rs.length cr) z m w1.heap.size) (fun i _=>rs.length - (intOf i).toNat)
 case atStart=>exact HST.out
 case round=>
  obtain⟨j,S,R,N,T,L,hj,rfl,hZ,hR,hL,hN,hT,hLl,hSR,hRm,hrs,hw5,hbr⟩:=hrel;by_cases hlt:j < rs.length
  ·obtain⟨bb2,off,rfl,hbb2,p0,p1,p2,p3,p4⟩:=hrs.at2 hlt;have hgood:GoodS rs[j].says:=beginL_good l _ (by rw[←HRS5.out.2];exact List.mem_map.2 ⟨_,List.getElem_mem hlt,rfl⟩);have ho:=hrs.own _ (List.getElem_mem hlt);have htk:(rs.take (j+1)).map RcB.says=(rs.take j).map RcB.says++[rs[j].says]:=by rw[List.take_succ_eq_append_getElem hlt,List.map_append];rfl
   have hfold:((rs.take (j+1)).map RcB.says).foldl putS cont0=putS (((rs.take j).map RcB.says).foldl putS cont0) rs[j].says:=by rw[htk,List.foldl_append];rfl
   have HAT:Hid (∀W,RecsV W w4.heap.size (.slice (some ⟨bb2,off,none⟩) rs.length cr) rs→W.cell? ⟨bb2,off+j *5,none⟩=some rs[j].nm.v∧W.cell? ⟨bb2,off+j *5+1,none⟩=some (.int .u16 rs[j].t)∧W.cell? ⟨bb2,off+j *5+2,none⟩=some (.int .u16 1)∧W.cell? ⟨bb2,off+j *5+3,none⟩=some (.int .u32 rs[j].ttl)∧W.cell? ⟨bb2,off+j *5+4,none⟩=some rs[j].d.v∧rs[j].own W w4.heap.size):=hid fun W hW=>by
    obtain⟨b',o',e,_,h0,h1,h2,h3,h4⟩:=hW.at2 hlt;cases e;exact⟨h0,h1,h2,h3,h4,hW.own _ (List.getElem_mem hlt)⟩
   generalize rs[j]=r at *;obtain⟨⟨Rn,n,cn⟩,t,ttl,⟨Rd,d,cd⟩⟩:=r;obtain⟨tm,htm,hgt⟩:=tyU_nat hgood.ty;have htm:t=(tm:Int):=htm;subst htm;simp only[NmB.v,Blob.v]at p0 p1 p2 p3 p4 HAT;have hon:wr.ownsRow w4.heap.size 9 1 (.slice Rn n.length cn) n.length (n.map strV):=ho.1;have hod:wr.ownsRow w4.heap.size 5 1 (.slice Rd d.length cd) d.length (d.map byteV):=ho.2
   have hdl:d.length≤100:=hgood.len;have hrec:Rec n [exL] (tm:Int) d cn cd:=rec_of hgood.small hgood.name hgood.inn (tyU_easy hgood.ty).1 (tyU_easy hgood.ty).2.1 hgood.chk (by omega) (own_caps hon).1 (own_caps hon).2 (own_caps hod).1 (own_caps hod).2
   have HPZ:=hid (hZ.put Rn n cn Rd d cd (tm:Int) ttl (cs_own2 hon) (own_base hod (Nat.zero_le _)) (canonD (tm:Int) d) hrec.to exL_small (Nat.le_refl 1) exL_low (by omega) (by omega));have HJ:=hid (And.intro hZ (And.intro hR (And.intro hL (And.intro hSR (And.intro hRm (And.intro hrs (And.intro hbr (And.intro hgood (And.intro hgt hfold)))))))));have hjI:(j:Int) < (rs.length:Int):=by omega
   clear hZ hR hL hSR hRm hrs hbr hgood hgt hfold htk ho hon hod hrec;go_wp2_with fail;refine HPZ.out.mono ?_;rintro e wa ⟨S',N',T',rfl,hZ',hN',hT',hk,hS'⟩;have hRa:=HJ.out.2.1.kept hk HJ.out.1.zonal;have hrsa:=recsZonal HJ.out.2.2.2.2.2.1 hk HJ.out.1.zonal;obtain⟨q0,q1,q2,q3,q4,hoa⟩:=HAT.out wa hrsa;have hsw:=HJ.out.2.2.2.2.2.2.1.size
   have hba:Below w.heap.size w wa:=HJ.out.2.2.2.2.2.2.1.trans (hk.below hsw (fun k hk e=>by have:=(HJ.out.1.lt e).2;omega));have hg:=HJ.out.2.2.2.2.2.2.2.1;have hput:RcV.put wa w4.heap.size ⟨Rn,n,cn,tm,1,ttl,Rd,d,cd⟩:=⟨hoa.1,hoa.2,hg.small,hg.name,hg.inn,HJ.out.2.2.2.2.2.2.2.2.1,rfl,hg.chk,by show d.length≤_;omega⟩
   have HPR:=hid (RPut wa w.heap.size m R L hRa (by omega) _ HJ.out.2.2.1 ⟨Rn,n,cn,tm,1,ttl,Rd,d,cd⟩ w4.heap.size hput);have hka:=hk.size;have HK:=hid (And.intro hZ' (And.intro hS' (And.intro hRa (And.intro hrsa hba))));have hbbA:bb2 < wa.heap.size:=by omega
   clear hZ' hS' hRa hrsa hba hk hoa hput hg p0 p1 p2 p3 p4 HPZ;go_wp2_with fail;refine HPR.out.mono ?_;rintro e wb ⟨hkR,L',R',rfl,hRb,hLb,hLl',hR'⟩;obtain⟨csm,hcm⟩:=HK.out.2.2.1.box;have hZb:=HK.out.1.fars HK.out.2.2.1.farS hkR;have hrsb:=recsDoc HRS5.out.1 HK.out.2.2.2.1 hkR HJ.out.2.2.2.2.1 hcm;have hkb:=hkR.size
   have hbb3:Below w.heap.size w wb:=HK.out.2.2.2.2.trans (hkR.below HK.out.2.2.2.2.size (fun k hk e=>by have:=(HK.out.2.2.1.far e).2.1;omega));have hfin:Mk17R w w5 rs w4.heap.size (.slice (some ⟨bb2,off,none⟩) rs.length cr) z m w1.heap.size (.int .i64 ((j:Int)+1)) wb:=by
    refine⟨j+1,S',R',N',T',L',hlt,by go_num,by rw[HJ.out.2.2.2.2.2.2.2.2.2];exact hZb,hRb,by rw[HJ.out.2.2.2.2.2.2.2.2.2];exact hLb,by omega,by omega,by omega,fun k h1 h2=> ?_,fun k h1=> ?_,hrsb,by omega,hbb3⟩
    ·have hlt1:=(HK.out.1.lt h1).1;rcases hR' k h2 with e|e
     ·rcases HK.out.2.1 k h1 with e2|e2
      ·exact HJ.out.2.2.2.1 k e2 e
      ·have:=(HJ.out.2.1.far e).1;omega
     ·omega
    ·rcases hR' k h1 with e|e
     ·exact HJ.out.2.2.2.2.1 k e
     ·exact .inr (by omega)
   have HFIN:=hid hfin;clear hfin hbb3 hrsb hZb hRb hLb hkR hcm q0 q1 q2 q3 q4;go_wp2_with fail
   first
    |exact⟨HFIN.out,by simp[intOf];omega⟩
    |(refine⟨?_,by simp[intOf];omega⟩;(repeat apply Exists.intro);exact⟨HFIN.out,rfl⟩)
  ·have hjl:j=rs.length:=by omega
   have hjI:¬(j:Int) < (rs.length:Int):=by omega
   have hmf:((rs.take j).map RcB.says).foldl putS cont0=madeF l:=by
    rw[hjl,List.take_length,HRS5.out.2];rfl
   rw[hmf]at hZ hL;have HJ:=hid (And.intro hZ (And.intro hR (And.intro hL (And.intro hSR hbr))));have hTT:T≤14∧L.length≤14∧N≤100000:=by omega
   clear hZ hR hL hSR hbr hrs hRm hmf;go_wp2_with fail
   go_ret2
   exact⟨HJ.out.2.2.2.2,⟨_,z,m,S,R,N,T,L,rfl,hs1,HJ.out.1,HJ.out.2.1,HJ.out.2.2.1,hTT.2.2,hTT.1,hTT.2.1,HJ.out.2.2.2.1⟩⟩
theorem scanIn(k:Nat)(most:Int)(hm:60≤most):scan1 [exL] most (upR 0 k false)=if(((recT k:Nat):Int) !=43|| !same (recN k) [exL])&&(((recT k:Nat):Int) !=2|| !wild (recN k))then 0 else 5:=by
 have hn:=(recN_ok k).2.2;obtain⟨_,_,h1,h2,h3⟩:=tyU_easy (recT_tyU k);have hc:=(recD_ok k).1;have hl:=ttlK_le k;have e:upR 0 k false=⟨recN k,recT k,1,ttlK k,recD k⟩:=rfl;have hle:((ttlK k:Nat):Int)≤most:=by omega
 rw[e,scan1_in hn];simp only[bne_iff_ne,ne_eq,h1,h2,not_false_eq_true,hc,hle,decide_true,Bool.true_and,h3];have g1:(((recT k:Nat):Int) !=255)=true:=by simpa using h1
 have g2:(((recT k:Nat):Int) !=41)=true:=by simpa using h2
 rw[g1,g2];cases((((recT k:Nat):Int) !=43|| !same (recN k) [exL])&&(((recT k:Nat):Int) !=2|| !wild (recN k))) <;> simp
theorem firstC_one(f:UR→Int)(r:UR):firstC f [r]=f r:=by
 unfold firstC;split
 ·rename_i h;rw[h];rfl
 ·rfl
def SrtF(F:Cont):Prop:=∀n t ttl ds,F n t=some (ttl,ds)→ds.Pairwise fun a b=>Lib.compareBytes a.2 b.2 < 0
theorem Zo.srtF{w:World}{B z:Nat}{S:Nat→Prop}{ap:List Lab}{F:Cont}{N T:Nat}(h:Zo w B z S ap F N T):SrtF F:=fun n t ttl ds hf=>(h.good hf).2.2.2.1
theorem insA_srt{ds:List (Lab×Lab)}{d c:Lab}(hs:ds.Pairwise fun a b=>Lib.compareBytes a.2 b.2 < 0)(hno:∀e∈ds,e.2≠c):(insA ds d c).Pairwise fun a b=>Lib.compareBytes a.2 b.2 < 0:=by
 induction ds with
 |nil=>simp[insA]
 |cons x ds ih=>
  obtain⟨h1,h2⟩:=List.pairwise_cons.1 hs;unfold insA;split
  ·rename_i hx;refine List.pairwise_cons.2 ⟨fun e he=> ?_,ih h2 fun e he=>hno e (by simp[he])⟩;rcases(insA_mem2 e).1 he with rfl|he
   ·exact hx
   ·exact h1 e he
  ·rename_i hx;have hx2:Lib.compareBytes c x.2 < 0:=by
    have f:=cb_flip c x.2;have g:Lib.compareBytes x.2 c≠0:=fun e=>hno x (by simp) ((cb_zero _ _).1 e);omega
   refine List.pairwise_cons.2 ⟨fun e he=> ?_,hs⟩;rcases List.mem_cons.1 he with rfl|he
   ·exact hx2
   ·exact cb_trans _ _ _ hx2 (h1 e he)
theorem SrtF.upd{F:Cont}(h:SrtF F){n:List Lab}{t:Int}{x:Option (Int×List (Lab×Lab))}(hx:∀ttl ds,x=some (ttl,ds)→ds.Pairwise fun a b=>Lib.compareBytes a.2 b.2 < 0):SrtF (updC F n t x):=by
 intro a b ttl ds hy;by_cases e:a=n∧b=t
 ·rw[e.1,e.2,updC_at]at hy;exact hx ttl ds hy
 ·rw[updC_ne _ _ e]at hy;exact h a b ttl ds hy
theorem SrtF.put{F:Cont}(h:SrtF F){n:List Lab}{t ttl:Int}{d c:Lab}:SrtF (putC F n t ttl d c).1:=by
 unfold putC;cases hF:F n t with
 |none=>
  refine h.upd fun ttl' ds e=> ?_;injection e with e;injection e with e1 e2;subst e1 e2;simp
 |some x=>
  obtain⟨t0,ds⟩:=x;have hds:=h n t t0 ds hF;simp only;split
  ·refine h.upd fun ttl' ds' e=> ?_;injection e with e;injection e with e1 e2;subst e1 e2;exact hds
  ·rename_i hany;refine h.upd fun ttl' ds' e=> ?_;injection e with e;injection e with e1 e2;subst e1 e2;refine insA_srt hds fun e he e2=>hany ?_;rw[List.any_eq_true];exact⟨e,he,by simp[e2]⟩
structure UK(F:Cont):Prop where
 uf:UF F
 srt:SrtF F
 ns:F [exL] 2≠none
theorem UK.put{F:Cont}(h:UK F){r:UR}(hr:URok r)(hc:r.cl=1)(s0:Nat):UK (putD F r.n r.t r.ttl r.d s0):=by
 refine⟨h.uf.put hr hc s0, ?_, ?_⟩
 ·unfold putD;split
  ·split
   ·exact h.srt
   ·exact(h.srt.upd fun _ _ e=>by cases e).put
  ·split
   ·exact h.srt
   ·split
    ·split
     ·exact(h.srt.upd fun _ _ e=>by cases e).put
     ·exact h.srt
    ·exact h.srt.put
 ·unfold putD;split
  ·split
   ·exact h.ns
   ·refine putC_some ?_;rw[updC_ne _ _ (fun e=>absurd e.2 (by decide))];exact h.ns
  ·split
   ·exact h.ns
   ·split
    ·split
     ·refine putC_some ?_;rw[updC_ne _ _ (fun e=>absurd e.2 (by decide))];exact h.ns
     ·exact h.ns
    ·exact putC_some h.ns
theorem held_ns{n:List Lab}(h:lower n=[exL]):heldB n 2=true:=by
 unfold heldB;rw[(same_iff n [exL]).2 (by rw[h];rfl)];rfl
theorem UK.drop{F:Cont}(h:UK F){n:List Lab}{t cl:Int}{d:Lab}:UK (dropD F n t cl d):=by
 refine⟨h.uf.drop, ?_, ?_⟩
 ·unfold dropD;split
  ·split
   ·intro a b ttl ds hx;unfold cutC at hx;split at hx
    ·cases hx
    ·exact h.srt a b ttl ds hx
   ·split
    ·exact h.srt
    ·exact h.srt.upd fun _ _ e=>by cases e
  ·split
   ·exact h.srt
   ·cases hF:F (lower n) t with
    |none=>exact h.srt
    |some x=>
     obtain⟨t0,ds⟩:=x;simp only;split
     ·unfold dropC;rw[hF];simp only;split
      ·refine h.srt.upd fun ttl' ds' e=> ?_;split at e
       ·cases e
       ·injection e with e;injection e with e1 e2;subst e1 e2;exact(h.srt _ _ _ _ hF).sublist List.filter_sublist
      ·exact h.srt
     ·exact h.srt
 ·unfold dropD;split
  ·split
   ·unfold cutC;rw[if_neg]
    ·exact h.ns
    ·rintro⟨e1,e2⟩;simp only[held_ns e1.symm]at e2;exact absurd e2 (by decide)
   ·split
    ·exact h.ns
    ·rename_i hh;rw[updC_ne _ _ (fun e=>hh (by rw[←e.2];exact held_ns e.1.symm))];exact h.ns
  ·split
   ·exact h.ns
   ·cases hF:F (lower n) t with
    |none=>exact h.ns
    |some x=>
     obtain⟨t0,ds⟩:=x;simp only;split
     ·rename_i hc;unfold dropC;rw[hF];simp only;split
      ·by_cases e:[exL]=lower n∧(2:Int)=t
       ·obtain⟨e1,e2⟩:=e;simp only;rw[←e1,←e2,updC_at];rw[←e2,held_ns e1.symm]at hc;simp at hc;have hs:=h.srt _ _ _ _ hF;intro hnone;split at hnone
        ·rename_i hnil;have hall:=List.filter_eq_nil_iff.1 hnil
         match ds,hc,hs,hall with
         |a::b::r,_,hs,hall=>
          have g1:=(List.pairwise_cons.1 hs).1 b (by simp);have a1:=hall a (by simp);have a2:=hall b (by simp);simp at a1 a2;rw[a1,a2,(cb_zero _ _).2 rfl]at g1;omega
        ·cases hnone
       ·simp only;rw[updC_ne _ _ e];exact h.ns
      ·exact h.ns
     ·exact h.ns
theorem UK.step{F:Cont}(h:UK F){r:UR}(hr:URok r):UK (stepD F r):=by
 unfold stepD;split
 ·rename_i hc;exact h.put hr hc _
 ·exact h.drop
theorem UK.steps:∀{us:List UR} {F:Cont},UK F→(∀r∈us,URok r)→UK (us.foldl stepD F)
 |[],F,h,_=>h
 |r::us,F,h,hr=>by
  rw[List.foldl_cons];exact UK.steps (h.step (hr r (by simp))) fun x hx=>hr x (by simp[hx])
theorem UK.serF_lt{F:Cont}(h:UK F):∃ttl s m,s < 4294967296∧m < 4294967296∧F [exL] 6=some (ttl,[(soaD s m,soaD s m)])∧serF F=s∧0≤ttl∧ttl < 4294967296:=by
 obtain⟨ttl,s,m,g1,g2,g3⟩:=h.uf.soa;have:=h.uf.ok _ _ _ _ g3;exact⟨ttl,s,m,g1,g2,g3,serF_of g1 g2 g3,this.1,this.2.1⟩
theorem nextN_ne(a:Nat):nextN a≠a:=by unfold nextN;split <;> omega
theorem UK.next{G:Cont}(h:UK G){old:Nat}(ho:old < 4294967296):UK (nextF G old)∧serF (nextF G old)≠old:=by
 obtain⟨ttl,s,m,g1,g2,g3,g4,g5,g6⟩:=h.serF_lt;rw[nextF_of g1 g2 g3];have hu:=h.uf.next ttl s m old g5 g6 ho g2;unfold nextC at hu ⊢;by_cases e:s=old
 ·rw[if_pos e]at hu ⊢;refine⟨⟨hu,h.srt.upd fun _ _ e=> ?_, ?_⟩, ?_⟩
  ·injection e with e;injection e with e1 e2;subst e2;simp
  ·unfold soaC;rw[updC_ne _ _ (fun e=>absurd e.2 (by decide))];exact h.ns
  ·have:=serF_of (F:=soaC G ttl (nextN old) m) (nextN_lt ho) g2 (updC_at _ _ _ _);rw[this];exact nextN_ne old
 ·rw[if_neg e]at hu ⊢;exact⟨h,by rw[g4];exact e⟩
theorem UK.apply{F:Cont}(h:UK F){us:List UR}(hr:∀r∈us,URok r):UK (applyC F us):=by
 have h1:=h.steps hr;unfold applyC;split
 ·obtain⟨ttl,s,m,g1,g2,g3,g4,_⟩:=h.serF_lt;exact(h1.next (old:=serF F) (by omega)).1
 ·exact h1
def soaX(ttl:Int)(d c:Lab)(x:PR):PR:=if x.n=[exL]∧x.t=6 then⟨[exL],6,ttl,d,c⟩else x
theorem soaX_key(ttl:Int)(d c:Lab)(x:PR):(soaX ttl d c x).n=x.n∧(soaX ttl d c x).t=x.t:=by
 unfold soaX;split
 ·rename_i h;exact⟨h.1.symm,h.2.symm⟩
 ·exact⟨rfl,rfl⟩
theorem lst_soa{F:Cont}{L:List PR}(h:LstP F L)(hlow:∀x∈L,lower x.n=x.n){t0 ttl:Int}{d0 c0 d c:Lab}(hF:F [exL] 6=some (t0,[(d0,c0)])):LstP (updC F [exL] 6 (some (ttl,[(d,c)]))) (L.map (soaX ttl d c)):=by
 have hone:∀x∈L,x.n=[exL]∧x.t=6→x=⟨[exL],6,t0,d0,c0⟩:=fun x hx e=>by
  obtain⟨ds,h1,h2⟩:=(h.mem x).1 hx;rw[e.1,e.2,hF]at h1;injection h1 with h1;injection h1 with h3 h4;subst h4;simp only[List.mem_singleton,Prod.mk.injEq]at h2;cases x;simp only at e h2 h3;obtain⟨e1,e2⟩:=e;obtain⟨e3,e4⟩:=h2;subst e1 e2 e3 e4 h3;rfl
 refine⟨?_,fun x=> ?_⟩
 ·rw[List.pairwise_map];refine h.srt.imp_of_mem fun{a b} ha hb hab=> ?_;obtain⟨a1,a2⟩:=soaX_key ttl d c a;obtain⟨b1,b2⟩:=soaX_key ttl d c b;rcases hab with hab|⟨e0,hab|⟨e1,hab⟩⟩
  ·left;rw[a1,b1];exact hab
  ·right;rw[a1,b1,a2,b2];exact⟨e0,.inl hab⟩
  ·have hn:a.n=b.n:=by
    have:=(cmpN_zero a.n b.n).1 e0;rw[hlow a ha,hlow b hb]at this;exact this
   by_cases ka:a.n=[exL]∧a.t=6
   ·have kb:b.n=[exL]∧b.t=6:=⟨by rw[←hn];exact ka.1,by rw[←e1];exact ka.2⟩
    rw[hone a ha ka,hone b hb kb]at hab;have:=(cb_zero c0 c0).2 rfl;have hab:Lib.compareBytes c0 c0 < 0:=hab;omega
   ·have kb:¬(b.n=[exL]∧b.t=6):=fun e=>ka ⟨by rw[hn];exact e.1,by rw[e1];exact e.2⟩;unfold soaX;rw[if_neg ka,if_neg kb];exact .inr ⟨e0,.inr ⟨e1,hab⟩⟩
 ·rw[List.mem_map];constructor
  ·rintro⟨y,hy,rfl⟩;by_cases e:y.n=[exL]∧y.t=6
   ·unfold soaX;rw[if_pos e];exact⟨[(d,c)],updC_at _ _ _ _,by simp⟩
   ·unfold soaX;rw[if_neg e];obtain⟨ds,h1,h2⟩:=(h.mem y).1 hy;exact⟨ds,by rw[updC_ne _ _ e];exact h1,h2⟩
  ·rintro⟨ds,h1,h2⟩;by_cases e:x.n=[exL]∧x.t=6
   ·rw[e.1,e.2,updC_at]at h1;injection h1 with h1;injection h1 with h3 h4;subst h4;simp only[List.mem_singleton,Prod.mk.injEq]at h2;refine⟨⟨[exL],6,t0,d0,c0⟩,(h.mem _).2 ⟨_,hF,by simp⟩, ?_⟩;unfold soaX;rw[if_pos ⟨rfl,rfl⟩];cases x;simp only at e h2 h3;obtain⟨e1,e2⟩:=e;obtain⟨e3,e4⟩:=h2;subst e1 e2 e3 e4 h3;rfl
   ·rw[updC_ne _ _ e]at h1;refine⟨x,(h.mem x).2 ⟨ds,h1,h2⟩, ?_⟩;unfold soaX;rw[if_neg e]
theorem takeWhile_all{α:Type}{p:α→Bool}:∀{l:List α} {x:α},x∈l.takeWhile p→p x=true
 |[],x,h=>by cases h
 |a::l,x,h=>by
  rw[List.takeWhile_cons]at h;split at h
  ·rcases List.mem_cons.1 h with rfl|h
   ·assumption
   ·exact takeWhile_all h
  ·cases h
theorem dropWhile_head{α:Type}{p:α→Bool}:∀{l:List α} {x:α} {r:List α},l.dropWhile p=x::r→p x=false
 |[],x,r,h=>by cases h
 |a::l,x,r,h=>by
  rw[List.dropWhile_cons]at h;split at h
  ·exact dropWhile_head h
  ·rename_i hp;injection h with h1 h2;subst h1;simpa using hp
theorem lst_add{F:Cont}{L:List PR}(h:LstP F L)(hlow:∀x∈L,lower x.n=x.n){n:List Lab}{t ttl:Int}{d c:Lab}(hn:lower n=n)(hno:F n t=none):
 ∃A R,L=A++R∧LstP (updC F n t (some (ttl,[(d,c)]))) (A++(⟨n,t,ttl,d,c⟩:PR)::R):=by
 classical
 have hne:∀x∈L,¬(x.n=n∧x.t=t):=fun x hx e=>by
  obtain⟨ds,h1,_⟩:=(h.mem x).1 hx;rw[e.1,e.2,hno]at h1;cases h1
 refine⟨L.takeWhile fun y=>decide (ltP y ⟨n,t,ttl,d,c⟩),L.dropWhile fun y=>decide (ltP y ⟨n,t,ttl,d,c⟩),(List.takeWhile_append_dropWhile).symm, ?_⟩;have hsp:(L.takeWhile fun y=>decide (ltP y ⟨n,t,ttl,d,c⟩))++(L.dropWhile fun y=>decide (ltP y ⟨n,t,ttl,d,c⟩))=L:=List.takeWhile_append_dropWhile
 have hA:∀y∈L.takeWhile (fun y=>decide (ltP y ⟨n,t,ttl,d,c⟩)),ltP y ⟨n,t,ttl,d,c⟩:=fun y hy=>by
  have:=takeWhile_all hy;simpa using this
 have hR:∀y∈L.dropWhile (fun y=>decide (ltP y ⟨n,t,ttl,d,c⟩)),ltP ⟨n,t,ttl,d,c⟩ y:=by
  cases hd:L.dropWhile (fun y=>decide (ltP y ⟨n,t,ttl,d,c⟩))with
  |nil=>intro y hy;cases hy
  |cons x r=>
   have h0:=dropWhile_head hd;simp only[decide_eq_false_iff_not]at h0;rw[hd]at hsp;have hxL:x∈L:=by rw[←hsp];simp
   have hx:ltP ⟨n,t,ttl,d,c⟩ x:=by
    rcases ltP_cases x ⟨n,t,ttl,d,c⟩ (hlow x hxL) hn with e|⟨e1,e2,_⟩|e
    ·exact absurd e h0
    ·exact absurd ⟨e1,e2⟩ (hne x hxL)
    ·exact e
   have hs:=h.srt;rw[←hsp]at hs;have hs2:=(List.pairwise_cons.1 (List.pairwise_append.1 hs).2.1).1;intro y hy;rcases List.mem_cons.1 hy with rfl|hy
   ·exact hx
   ·exact hx.trans (hs2 y hy)
 have hp:=(lst_put (by rw[hsp];exact h) hA hR).1;have e1:(putC F n t ttl d c).1=updC F n t (some (ttl,[(d,c)])):=by
  unfold putC;rw[hno]
 rw[e1]at hp;generalize L.takeWhile (fun y=>decide (ltP y ⟨n,t,ttl,d,c⟩))=A at *;generalize L.dropWhile (fun y=>decide (ltP y ⟨n,t,ttl,d,c⟩))=R at *;have e2:ttlL (A++(⟨n,t,ttl,d,c⟩:PR)::R) n t ttl=A++(⟨n,t,ttl,d,c⟩:PR)::R:=by
  rw[ttlL_map]
  conv=>rhs;rw[←List.map_id (A++(⟨n,t,ttl,d,c⟩:PR)::R)]
  refine List.map_congr_left fun x hx=> ?_;rcases List.mem_append.1 hx with hx|hx
  ·exact ttlX_out (hne x (by rw[←hsp];simp[hx]))
  ·rcases List.mem_cons.1 hx with rfl|hx
   ·exact ttlX_in ⟨rfl,rfl⟩
   ·exact ttlX_out (hne x (by rw[←hsp];simp[hx]))
 rw[e2]at hp;exact hp
theorem goes1{F:Cont}{L:List PR}(h:UK F)(hL:LstP F L)(hlow:∀x∈L,lower x.n=x.n)(hrok:∀x∈L.map PR.says,ROk x){k:Nat}(h6:recT k≠6)(h2:recT k≠2)(hno:∀t,F (lower (recN k)) t=none):
 codeU F 60 [] [upR 0 k false]=0∧∃ttl s m,s < 4294967296∧m < 4294967296∧F [exL] 6=some (ttl,[(soaD s m,soaD s m)])∧
  applyC F [upR 0 k false]=soaC (updC F (lower (recN k)) (recT k) (some ((ttlK k:Nat),[(recD k,canonD (recT k) (recD k))]))) ttl (nextN s) m:=by
 obtain⟨n1,n2,n3⟩:=recN_ok k;obtain⟨ttl,s,m,g1,g2,g3,g4,_⟩:=h.serF_lt;have hne:lower (recN k)≠[exL]:=fun e=>by
  have:=hno 6;rw[e,g3]at this;cases this
 have hsame:same (recN k) [exL]=false:=by
  cases hs:same (recN k) [exL]with
  |false=>rfl
  |true=>exact absurd ((same_iff _ _).1 hs) hne
 have t6:¬((recT k:Nat):Int)=6:=by omega
 have t2:¬((recT k:Nat):Int)=2:=by omega
 constructor
 ·unfold codeU;rw[firstC_one,scanIn k 60 (by decide),hsame];have e:firstC (pre1 F [exL]) []=0:=rfl;rw[if_pos e,if_pos];simp[t2]
 ·refine⟨ttl,s,m,g1,g2,g3, ?_⟩;have hst:[upR 0 k false].foldl stepD F=updC F (lower (recN k)) (recT k) (some ((ttlK k:Nat),[(recD k,canonD (recT k) (recD k))])):=by
   show stepD F (upR 0 k false)=_;have e:upR 0 k false=⟨recN k,recT k,1,ttlK k,recD k⟩:=rfl;rw[e,stepD_in];unfold putD;split
   ·rename_i h5;rw[if_neg]
    ·have e2:updC F (lower (recN k)) 5 none=F:=by
      have:=hno 5;rw[←this,updC_self]
     rw[e2,h5];unfold putC;rw[hno 5]
    ·rw[otherB_iff];rintro⟨t,_,ht⟩;exact ht (hno t)
   ·rw[if_neg (show ¬(F (lower (recN k)) 5).isSome=true by rw[hno 5];decide)]
    try rw[if_neg t6]
    unfold putC;rw[hno _]
  have hlo:=lower_idem (recN k);obtain⟨A,R,hAR,hK⟩:=lst_add hL hlow (n:=lower (recN k)) (t:=(recT k:Int)) (ttl:=(ttlK k:Nat)) (d:=recD k) (c:=canonD (recT k) (recD k)) hlo (hno _);have hch:changedB F ([upR 0 k false].foldl stepD F)=true:=by
   rw[hst];refine(changedB_of hL hK).2 fun hd=> ?_;have htl:=ttlK_le k;have hdl:=(recD_ok k).2;have hty:=(tyU_easy (recT_tyU k)).2.1;have hwt:(0:Int)≤((recT k:Nat):Int)∧((recT k:Nat):Int) < 65536:=by
    simp[Lit.wf,IntKind.min,IntKind.max,IntKind.signed,IntKind.bits]at hty;omega
   have hz:=inZ_low n1 n2 n3;have hnew:ROk (lower (recN k),((recT k:Nat):Int),((ttlK k:Nat):Int),recD k):=⟨hz.small,hz.ok,hwt.1,hwt.2,by show(0:Int)≤((ttlK k:Nat):Int);omega,by show((ttlK k:Nat):Int) < _;omega,by show(recD k).length≤_;omega⟩
   have hrK:∀x∈(A++(⟨lower (recN k),(recT k:Int),(ttlK k:Nat),recD k,canonD (recT k) (recD k)⟩:PR)::R).map PR.says,ROk x:=fun x hx=>by
    obtain⟨p,hp,rfl⟩:=List.mem_map.1 hx;rcases List.mem_append.1 hp with hp|hp
    ·exact hrok _ (List.mem_map.2 ⟨p,by rw[hAR];simp[hp],rfl⟩)
    ·rcases List.mem_cons.1 hp with rfl|hp
     ·exact hnew
     ·exact hrok _ (List.mem_map.2 ⟨p,by rw[hAR];simp[hp],rfl⟩)
   have hx:=(diffL_nil hrok hrK hd (lower (recN k),((recT k:Nat):Int),((ttlK k:Nat):Int),recD k)).2 (List.mem_map.2 ⟨(⟨lower (recN k),(recT k:Int),(ttlK k:Nat),recD k,canonD (recT k) (recD k)⟩:PR),List.mem_append_right _ List.mem_cons_self,rfl⟩);obtain⟨p,hp,e⟩:=List.mem_map.1 hx;unfold PR.says at e;simp only[Prod.mk.injEq]at e;obtain⟨ds,q1,_⟩:=(hL.mem p).1 hp;rw[e.1,hno]at q1;cases q1
  unfold applyC;rw[if_pos hch,hst,g4];have g5:updC F (lower (recN k)) (recT k) (some ((ttlK k:Nat),[(recD k,canonD (recT k) (recD k))])) [exL] 6=some (ttl,[(soaD s m,soaD s m)]):=by
   rw[updC_ne _ _ (fun e=>hne e.1.symm)];exact g3
  rw[nextF_of g1 g2 g5];unfold nextC;rw[if_pos rfl]
theorem goes2{F:Cont}{L M:List PR}(h:UK F)(hL:LstP F L)(hlow:∀x∈L,lower x.n=x.n)(hrok:∀x∈L.map PR.says,ROk x){k:Nat}(h6:recT k≠6)(h2:recT k≠2)(hno:∀t,F (lower (recN k)) t=none){ttl:Int}{s m:Nat}(hs:s < 4294967296)(hm:m < 4294967296)(hF:F [exL] 6=some (ttl,[(soaD s m,soaD s m)]))
 {s':Nat} (hs':s' < 4294967296) (hM:LstP (soaC (updC F (lower (recN k)) (recT k) (some ((ttlK k:Nat),[(recD k,canonD (recT k) (recD k))]))) ttl s' m) M) (hrM:∀x∈M.map PR.says,ROk x) (how:Bool):
 codeU (soaC (updC F (lower (recN k)) (recT k) (some ((ttlK k:Nat),[(recD k,canonD (recT k) (recD k))]))) ttl s' m) 60 [] [upR (if how then 4 else 6) k false]=0∧
  applyC (soaC (updC F (lower (recN k)) (recT k) (some ((ttlK k:Nat),[(recD k,canonD (recT k) (recD k))]))) ttl s' m) [upR (if how then 4 else 6) k false]=soaC F ttl (nextN s') m:=by
 obtain⟨n1,n2,n3⟩:=recN_ok k;obtain⟨_,_,t255,t41,hkt⟩:=tyU_easy (recT_tyU k);have hne:lower (recN k)≠[exL]:=fun e=>by
  have:=hno 6;rw[e,hF]at this;cases this
 have t6:¬((recT k:Nat):Int)=6:=by omega
 have g255:(((recT k:Nat):Int) !=255)=true:=by simpa using t255
 have g41:(((recT k:Nat):Int) !=41)=true:=by simpa using t41
 constructor
 ·unfold codeU;rw[firstC_one];have e:firstC (pre1 (soaC (updC F (lower (recN k)) (recT k) (some ((ttlK k:Nat),[(recD k,canonD (recT k) (recD k))]))) ttl s' m) [exL]) []=0:=rfl;rw[if_pos e];cases how with
  |true=>
   have e:upR (if true then 4 else 6) k false=⟨recN k,recT k,255,0,[]⟩:=rfl;rw[e,scan1_any n3,g41,hkt];rfl
  |false=>
   have e:upR (if false then 4 else 6) k false=⟨recN k,recT k,254,0,recD k⟩:=rfl;rw[e];unfold scan1;simp only;rw[if_neg (by rw[n3];decide),if_neg (by decide),if_neg (by decide),if_pos trivial,g255,g41,hkt];rfl
 ·have hheld:heldB (recN k) (recT k)=false:=by
   unfold heldB;cases hsm:same (recN k) [exL]with
   |false=>rfl
   |true=>exact absurd ((same_iff _ _).1 hsm) hne
  have hGn:soaC (updC F (lower (recN k)) (recT k) (some ((ttlK k:Nat),[(recD k,canonD (recT k) (recD k))]))) ttl s' m (lower (recN k)) (recT k)=some (((ttlK k:Nat):Int),[(recD k,canonD (recT k) (recD k))]):=by
   unfold soaC;rw[updC_ne _ _ (fun e=>hne e.1),updC_at]
  have hback:updC (soaC (updC F (lower (recN k)) (recT k) (some ((ttlK k:Nat),[(recD k,canonD (recT k) (recD k))]))) ttl s' m) (lower (recN k)) (recT k) none=soaC F ttl s' m:=by
   funext a b;unfold soaC;by_cases e:a=lower (recN k)∧b=(recT k:Int)
   ·rw[e.1,e.2,updC_at,updC_ne _ _ (fun e=>hne e.1),hno]
   ·rw[updC_ne _ _ e];by_cases e2:a=[exL]∧b=6
    ·rw[e2.1,e2.2,updC_at,updC_at]
    ·rw[updC_ne _ _ e2,updC_ne _ _ e,updC_ne _ _ e2]
  have hst:[upR (if how then 4 else 6) k false].foldl stepD (soaC (updC F (lower (recN k)) (recT k) (some ((ttlK k:Nat),[(recD k,canonD (recT k) (recD k))]))) ttl s' m)=soaC F ttl s' m:=by
   show stepD _ _=_;cases how with
   |true=>
    have e:upR (if true then 4 else 6) k false=⟨recN k,recT k,255,0,[]⟩:=rfl;rw[e,stepD_out (by decide)];unfold dropD;rw[if_pos rfl,if_neg t255,hheld,if_neg (by decide),hback]
   |false=>
    have e:upR (if false then 4 else 6) k false=⟨recN k,recT k,254,0,recD k⟩:=rfl;rw[e,stepD_out (by decide)];unfold dropD;rw[if_neg (by decide),if_neg t6,hGn];simp only;rw[if_pos (by rw[hheld];rfl)];unfold dropC;rw[hGn];simp;exact hback
  have hser:serF (soaC (updC F (lower (recN k)) (recT k) (some ((ttlK k:Nat),[(recD k,canonD (recT k) (recD k))]))) ttl s' m)=s':=serF_of hs' hm (updC_at _ _ _ _);have hL2:LstP (soaC F ttl s' m) (L.map (soaX ttl (soaD s' m) (soaD s' m))):=lst_soa hL hlow hF
  have hch:changedB (soaC (updC F (lower (recN k)) (recT k) (some ((ttlK k:Nat),[(recD k,canonD (recT k) (recD k))]))) ttl s' m) ([upR (if how then 4 else 6) k false].foldl stepD (soaC (updC F (lower (recN k)) (recT k) (some ((ttlK k:Nat),[(recD k,canonD (recT k) (recD k))]))) ttl s' m))=true:=by
   rw[hst];refine(changedB_of hM hL2).2 fun hd=> ?_;obtain⟨ttl0,_⟩:=h.uf.ok _ _ _ _ hF;have hrL2:∀x∈(L.map (soaX ttl (soaD s' m) (soaD s' m))).map PR.says,ROk x:=fun x hx=>by
    obtain⟨p,hp,rfl⟩:=List.mem_map.1 hx;obtain⟨y,hy,rfl⟩:=List.mem_map.1 hp;have hy2:=hrok _ (List.mem_map.2 ⟨y,hy,rfl⟩);by_cases e:y.n=[exL]∧y.t=6
    ·unfold soaX;rw[if_pos e];have hq:=(h.uf.ok _ _ _ _ hF)
     refine⟨exL_small,exL_name,by show(0:Int)≤6;decide,by show(6:Int) < _;decide,hq.1,hq.2.1, ?_⟩;show(soaD s' m).length≤_;rw[soaD_len];omega
    ·unfold soaX;rw[if_neg e];exact hy2
   have hmem:(⟨lower (recN k),(recT k:Int),(ttlK k:Nat),recD k,canonD (recT k) (recD k)⟩:PR)∈M:=(hM.mem _).2 ⟨_,hGn,by simp⟩;have hx:=(diffL_nil hrM hrL2 hd _).1 (List.mem_map.2 ⟨_,hmem,rfl⟩);obtain⟨p,hp,e⟩:=List.mem_map.1 hx;unfold PR.says at e;simp only[Prod.mk.injEq]at e;obtain⟨ds,q1,_⟩:=(hL2.mem p).1 hp;rw[e.1]at q1;unfold soaC at q1;rw[updC_ne _ _ (fun e=>hne e.1),hno]at q1
   cases q1
  unfold applyC;rw[if_pos hch,hst,hser];have g5:soaC F ttl s' m [exL] 6=some (ttl,[(soaD s' m,soaD s' m)]):=updC_at _ _ _ _;rw[nextF_of hs' hm g5];unfold nextC;rw[if_pos rfl];unfold soaC;rw[updC_upd]
def nsP:PR:=⟨[exL],2,60,dataN 2 1,canonD 2 (dataN 2 1)⟩
def soaP:PR:=⟨[exL],6,50,soaD 16777216 30,soaD 16777216 30⟩
theorem made0:madeF []=updC soa0 [exL] 2 (some (60,[(dataN 2 1,canonD 2 (dataN 2 1))])):=by
 show putS (putS cont0 ([exL],6,50,dataN 6 1)) ([exL],2,60,dataN 2 1)=_;rw[putS_soa];unfold putS putC;have e:lower ([exL]:List Lab)=[exL]:=by decide
 simp only;rw[e];have e2:soa0 [exL] 2=none:=updC_ne _ _ (by decide);rw[e2]
theorem lst_made0:LstP (madeF []) [nsP,soaP]:=by
 rw[made0];refine⟨?_,fun x=> ?_⟩
 ·refine List.pairwise_cons.2 ⟨fun y hy=> ?_,List.pairwise_singleton _ _⟩;have:y=soaP:=by simpa using hy
  rw[this];exact .inr ⟨(cmpN_zero _ _).2 rfl,.inl (by show(2:Int) < 6;decide)⟩
 ·constructor
  ·intro hx;simp only[List.mem_cons,List.not_mem_nil,or_false]at hx;rcases hx with rfl|rfl
   ·exact⟨_,updC_at _ _ _ _,by simp[nsP]⟩
   ·refine⟨[(soaD 16777216 30,soaD 16777216 30)], ?_,by simp[soaP]⟩;show updC soa0 [exL] 2 _ [exL] 6=_;rw[updC_ne _ _ (by decide)];exact updC_at _ _ _ _
  ·rintro⟨ds,h1,h2⟩;by_cases e:x.n=[exL]∧x.t=2
   ·rw[e.1,e.2,updC_at]at h1;injection h1 with h1;injection h1 with h3 h4;subst h4;simp only[List.mem_singleton,Prod.mk.injEq]at h2;cases x;simp only at e h2 h3;obtain⟨e1,e2⟩:=e;obtain⟨e3,e4⟩:=h2;subst e1 e2 e3 e4 h3;simp[nsP]
   ·rw[updC_ne _ _ e]at h1;unfold soa0 at h1;by_cases e6:x.n=[exL]∧x.t=6
    ·rw[e6.1,e6.2,updC_at]at h1;injection h1 with h1;injection h1 with h3 h4;subst h4;simp only[List.mem_singleton,Prod.mk.injEq]at h2;cases x;simp only at e6 h2 h3;obtain⟨e1,e2⟩:=e6;obtain⟨e3,e4⟩:=h2;subst e1 e2 e3 e4 h3;simp[soaP]
    ·rw[updC_ne _ _ e6]at h1;cases h1
theorem told_in{x:Says}{b:List Says}(h:x∈b):decide (toldI x∉b.map toldI)=false:=by
 simp only[decide_eq_false_iff_not,Decidable.not_not];exact List.mem_map.2 ⟨x,h,rfl⟩
theorem told_out{x:Says}{b:List Says}(hx:ROk x)(hb:∀y∈b,ROk y)(h:x∉b):decide (toldI x∉b.map toldI)=true:=by
 simp only[decide_eq_true_eq];intro hm;obtain⟨y,hy,e⟩:=List.mem_map.1 hm;rw[toldI_inj (hb y hy) hx e]at hy;exact h hy
theorem rec1:recN 1=owner 1∧recT 1=1∧lower (recN 1)≠[exL]:=by decide
theorem known_plain(h:UK (madeF [])){L M:List PR}(hL:LstP (madeF []) L)(hM:LstP (applyC (madeF []) [upR 0 1 false]) M)(r1:∀x∈L.map PR.says,ROk x)(r2:∀x∈M.map PR.says,ROk x):
 codeU (madeF []) 60 [] [upR 0 1 false]=0∧M.length=3∧∃a b c,diffL (L.map PR.says) (M.map PR.says)=[(false,a),(true,b),(true,c)]:=by
 have hLe:=hL.uniq lst_made0;subst hLe;have hlow:∀x∈[nsP,soaP],lower x.n=x.n:=by
  intro x hx;simp only[List.mem_cons,List.not_mem_nil,or_false]at hx;rcases hx with rfl|rfl <;> (show lower [exL]=[exL];decide)
 have hno:∀t,madeF [] (lower (recN 1)) t=none:=fun t=>by
  rw[made0,updC_ne _ _ (fun e=>rec1.2.2 e.1)];unfold soa0;rw[updC_ne _ _ (fun e=>rec1.2.2 e.1)];rfl
 have hT:recT 1=1:=rec1.2.1;obtain⟨hc,ttl,s,m,hs,hm,hF,hA⟩:=goes1 h hL hlow r1 (k:=1) (by rw[hT];decide) (by rw[hT];decide) hno;refine⟨hc, ?_⟩;rw[hA]at hM;have hlo:=lower_idem (recN 1);obtain⟨A,R,hAR,hK⟩:=lst_add hL hlow (n:=lower (recN 1)) (t:=(recT 1:Int)) (ttl:=(ttlK 1:Nat)) (d:=recD 1) (c:=canonD (recT 1) (recD 1)) hlo (hno _)
 obtain⟨y,hy⟩:∃y:PR,y=⟨lower (recN 1),(recT 1:Int),(ttlK 1:Nat),recD 1,canonD (recT 1) (recD 1)⟩:=⟨_,rfl⟩
 rw[←hy]at hK;have hlowK:∀x∈A++y::R,lower x.n=x.n:=fun x hx=>by
  rcases List.mem_append.1 hx with hx|hx
  ·exact hlow x (by rw[hAR];simp[hx])
  ·rcases List.mem_cons.1 hx with rfl|hx
   ·rw[hy];exact hlo
   ·exact hlow x (by rw[hAR];simp[hx])
 have hF1:updC (madeF []) (lower (recN 1)) (recT 1) (some ((ttlK 1:Nat),[(recD 1,canonD (recT 1) (recD 1))])) [exL] 6=some (ttl,[(soaD s m,soaD s m)]):=by
  rw[updC_ne _ _ (fun e=>rec1.2.2 e.1.symm)];exact hF
 have hMe:=hM.uniq (lst_soa hK hlowK (ttl:=ttl) (d:=soaD (nextN s) m) (c:=soaD (nextN s) m) hF1);subst hMe;have hF6:madeF [] [exL] 6=some (50,[(soaD 16777216 30,soaD 16777216 30)]):=by
  rw[made0,updC_ne _ _ (by decide)];exact updC_at _ _ _ _
 rw[hF6]at hF;injection hF with hF;injection hF with hf1 hf2;subst hf1;have hf3:soaD 16777216 30=soaD s m:=by
  injection hf2 with hf2;injection hf2
 obtain⟨x2,hx2⟩:∃x2:PR,x2=⟨[exL],6,50,soaD (nextN s) m,soaD (nextN s) m⟩:=⟨_,rfl⟩
 have q1:soaX 50 (soaD (nextN s) m) (soaD (nextN s) m) nsP=nsP:=if_neg (by show ¬([exL]=[exL]∧(2:Int)=6);decide);have q2:soaX 50 (soaD (nextN s) m) (soaD (nextN s) m) soaP=x2:=by rw[hx2];exact if_pos ⟨rfl,rfl⟩
 have q3:soaX 50 (soaD (nextN s) m) (soaD (nextN s) m) y=y:=if_neg (by rw[hy];exact fun e=>rec1.2.2 e.1);have hne:nextN s≠s:=nextN_ne s;have d1:x2.says≠soaP.says:=by
  intro e;rw[hx2]at e;unfold PR.says soaP at e;simp only[Prod.mk.injEq]at e;have h6:(soaM (soaD (nextN s) m)).s1=(soaM (soaD s m)).s1:=by rw[e.2.2.2,hf3]
  rw[soaD_m (nextN_lt hs) hm,soaD_m hs hm]at h6;exact hne h6
 have d2:nsP.says≠soaP.says:=by
  intro e;unfold PR.says nsP soaP at e;simp only[Prod.mk.injEq]at e;exact absurd e.2.1 (by decide)
 have d3:y.says≠soaP.says:=by
  intro e;rw[hy]at e;unfold PR.says soaP at e;simp only[Prod.mk.injEq]at e;exact rec1.2.2 e.1
 have d4:y.says≠nsP.says:=by
  intro e;rw[hy]at e;unfold PR.says nsP at e;simp only[Prod.mk.injEq]at e;exact rec1.2.2 e.1
 have d5:x2.says≠nsP.says:=by
  intro e;rw[hx2]at e;unfold PR.says nsP at e;simp only[Prod.mk.injEq]at e;exact absurd e.2.1 (by decide)
 have hforms:(A++y::R).map (soaX 50 (soaD (nextN s) m) (soaD (nextN s) m))=[y,nsP,x2]∨(A++y::R).map (soaX 50 (soaD (nextN s) m) (soaD (nextN s) m))=[nsP,y,x2]∨(A++y::R).map (soaX 50 (soaD (nextN s) m) (soaD (nextN s) m))=[nsP,x2,y]:=by
  match A,R,hAR with
  |[],R,e=>
   have e:R=[nsP,soaP]:=by simpa using e.symm
   subst e;left;simp[q1,q2,q3]
  |[a],R,e=>
   have e1:nsP=a∧[soaP]=R:=by simpa using e
   obtain⟨rfl,rfl⟩:=e1;right;left;simp[q1,q2,q3]
  |[a,b],R,e=>
   have e1:nsP=a∧soaP=b∧R=[]:=by simpa using e
   obtain⟨rfl,rfl,rfl⟩:=e1;right;right;simp[q1,q2,q3]
  |a::b::c::A,R,e=>
   have:=congrArg List.length e;simp at this
 generalize(A++y::R).map (soaX 50 (soaD (nextN s) m) (soaD (nextN s) m))=M at *;have hmem:nsP.says∈M.map PR.says∧soaP.says∉M.map PR.says:=by
  rcases hforms with rfl|rfl|rfl <;> exact⟨by simp,by simp[d1.symm,d2.symm,d3.symm]⟩
 have e1:lessL ([nsP,soaP].map PR.says) (M.map PR.says)=[soaP.says]:=by
  unfold lessL;have t1:=told_in hmem.1;have t2:=told_out (r1 _ (by simp)) r2 hmem.2;simp only[List.map_cons,List.map_nil,List.filter_cons,t1,t2,List.filter_nil];simp
 have k1:decide (toldI nsP.says∉([nsP,soaP].map PR.says).map toldI)=false:=told_in (by simp);have k2:decide (toldI x2.says∉([nsP,soaP].map PR.says).map toldI)=true:=told_out (r2 _ (by rcases hforms with rfl|rfl|rfl <;> simp)) r1 (by simp[d1,d5])
 have k3:decide (toldI y.says∉([nsP,soaP].map PR.says).map toldI)=true:=told_out (r2 _ (by rcases hforms with rfl|rfl|rfl <;> simp)) r1 (by simp[d3,d4]);have e2:lessL (M.map PR.says) ([nsP,soaP].map PR.says)=[y.says,x2.says]∨lessL (M.map PR.says) ([nsP,soaP].map PR.says)=[x2.says,y.says]:=by
  unfold lessL;generalize[nsP,soaP].map PR.says=b0 at *;rcases hforms with rfl|rfl|rfl
  ·left;rw[List.map_cons,List.map_cons,List.map_cons,List.map_nil,List.filter_cons,k3,List.filter_cons,k1,List.filter_cons,k2];rfl
  ·left;rw[List.map_cons,List.map_cons,List.map_cons,List.map_nil,List.filter_cons,k1,List.filter_cons,k3,List.filter_cons,k2];rfl
  ·right;rw[List.map_cons,List.map_cons,List.map_cons,List.map_nil,List.filter_cons,k1,List.filter_cons,k2,List.filter_cons,k3];rfl
 refine⟨by rcases hforms with rfl|rfl|rfl <;> rfl, ?_⟩;unfold diffL;rw[e1];rcases e2 with e2|e2
 ·rw[e2];exact⟨_,_,_,rfl⟩
 ·rw[e2];exact⟨_,_,_,rfl⟩
theorem ChV.at0{w:World}{B Bo:Nat}{A:Option Addr}{n c:Nat}{xs:List ChB}(h:ChV w B Bo (.slice A n c) xs){k:Nat}(hk:k < xs.length):∃b off,A=some ⟨b,off,none⟩∧b < w.heap.size∧w.cell? ⟨b,off+k *6,none⟩=some (.bool (xs[k]).1):=by
 have hfl:∀(xs:List ChB) (k:Nat) (hk:k < xs.length),(xs.flatMap chCells)[k *6]? =some (.bool (xs[k]).1):=by
  intro xs
  induction xs with
  |nil=>intro k hk;simp at hk
  |cons x xs ih=>
   intro k hk;rw[List.flatMap_cons];have hl:(chCells x).length=6:=rfl;cases k with
   |zero=>rw[List.getElem?_append_left (by omega)];rfl
   |succ k=>
    rw[List.getElem?_append_right (by omega),hl,show(k+1) *6 - 6=k *6 from by omega];exact ih k (by simpa using hk)
 obtain⟨b,off,rfl,hb,h0⟩:=(cs_own2 h.row) (k *6) (.bool (xs[k]).1) (hfl xs k hk)
 exact⟨b,off,rfl,hb,h0⟩
theorem uk_made{w:World}{B z:Nat}{S:Nat→Prop}{N T:Nat}{l:List Nat}(h:Zo w B z S [exL] (madeF l) N T):UK (madeF l):=⟨(madeF_ok l).1,h.srtF,(madeF_ok l).2⟩
theorem rok_zo{w:World}{B z:Nat}{S:Nat→Prop}{F:Cont}{N T:Nat}(h:Zo w B z S [exL] F N T)(hU:UF F){L:List PR}(hL:LstP F L):∀x∈L.map PR.says,ROk x:=fun x hx=>rok_of h hU.short hU.ttl hL hx
theorem known_code(h:UK (madeF [])){L:List PR}(hL:LstP (madeF []) L)(r1:∀x∈L.map PR.says,ROk x):codeU (madeF []) 60 [] [upR 0 1 false]=0:=by
 have hLe:=hL.uniq lst_made0;subst hLe;have hlow:∀x∈[nsP,soaP],lower x.n=x.n:=by
  intro x hx;simp only[List.mem_cons,List.not_mem_nil,or_false]at hx;rcases hx with rfl|rfl <;> (show lower [exL]=[exL];decide)
 have hno:∀t,madeF [] (lower (recN 1)) t=none:=fun t=>by
  rw[made0,updC_ne _ _ (fun e=>rec1.2.2 e.1)];unfold soa0;rw[updC_ne _ _ (fun e=>rec1.2.2 e.1)];rfl
 have hT:recT 1=1:=rec1.2.1;exact(goes1 h hL hlow r1 (k:=1) (by rw[hT];decide) (by rw[hT];decide) hno).1
theorem Known17(w:World):Calls prog 37 #[] w fun e w'=>e=.returned (.bool true)∧Below w.heap.size w w':=by
 go_enter func37,ntmps37;go_wp2_with fail;refine(Made17 w none [] 0 (Cs.nil w none) (fun k hk=>by cases hk) (by simp)).mono ?_;rintro e w1 ⟨hb1,⟨Bz,z,m,S,R,N,T,L,rfl,hBz,hZ,hR,hL,hN,hT,hLl,hSR⟩⟩;have hUK:=uk_made hZ;have hs1:=hb1.size;have HZ:=hid (And.intro hZ (And.intro hL hUK));clear hZ hR hL hSR hUK hLl
 go_upto_region 4 with fail
 have hcs:Cs (w1.alloc (.cells #[.int .u8 0,.int .u32 1] 86)) (some ⟨w1.heap.size,0,none⟩) ([(0,1)].flatMap upC):=cs_new w1 86 [.int .u8 0,.int .u32 1] (0,0);have b2:Below w1.heap.size w1 (w1.alloc (.cells #[.int .u8 0,.int .u32 1] 86)):=bAl
 have HUU:=hid (UUpdate _ none [] 0 _ [(0,1)] 1 (Cs.nil _ none) hcs (fun p hp=>by cases hp) (fun p hp=>(List.mem_singleton.1 hp)▸⟨by decide,by decide⟩) (by simp) (by simp));go_wp2_with fail;generalize w1.alloc (.cells #[.int .u8 0,.int .u32 1] 86)=w2 at *;refine HUU.out.mono ?_;rintro e w3 ⟨hb3,bq,An,cn,cq,Ap,cp,Au,cu,pb,ub,rfl,hq,hpu,huu,hps,hus⟩;have hps0:pb.map UcB.says=[]:=hps
 obtain rfl:pb=[]:=List.map_eq_nil_iff.1 hps0;have hul:ub.length=1:=by have:=congrArg List.length hus;simpa using this
 have hus:ub.map UcB.says=[upR 0 1 false]:=hus;have hmem:∀r∈ub,r.says=upR 0 1 false:=fun r hr=>by
  have:r.says∈ub.map UcB.says:=List.mem_map.2 ⟨r,hr,rfl⟩;rw[hus]at this;simpa using this
 have hs2:=b2.size;have hb13:Below w1.heap.size w1 w3:=b2.trans (hb3.mono hs2);have hZ3:=HZ.out.1.ext hb13;have HA:=hid (UApply w3 Bz z S (madeF []) N T hZ3 HZ.out.2.2.uf 60 9 5 bq 0 cq An cn Ap [] cp _ Au ub cu _ hq hpu huu (by simp) (by omega) (by omega) (by omega) (fun r hr=>by cases hr) (fun r hr=>by rw[hmem r hr];exact upR_ok 0 1 false) (fun _ r hr=>by rw[hmem r hr];exact upR_rok 0 1))
 have hr1:=rok_zo hZ3 HZ.out.2.2.uf HZ.out.2.1;have hcode:=known_code HZ.out.2.2 HZ.out.2.1 hr1;rw[hus,List.map_nil,hcode]at HA;have HB3:=hid (hb1.trans (hb13.mono hs1));have HZ3:=hid hZ3;clear hcs b2 HUU hb3 hq hpu huu hps hus hmem hb13 hZ3 hr1 hcode hul hps0;go_wp2_with fail;refine HA.out.mono ?_;rintro e w4 hcase
 rcases hcase with⟨h0,_⟩|⟨_,S',N',T',v,xs,L',M,rfl,hz4,hN4,hT4,hk4,hS4,hch,hL4,hM4,hxs⟩
 ·exact absurd rfl h0
 have hus':True:=trivial;have hUK4:=HZ.out.2.2.apply (us:=[upR 0 1 false]) (fun r hr=>by
  have:r=upR 0 1 false:=by simpa using hr
  rw[this];exact upR_rok 0 1)
 have hr1:=rok_zo HZ3.out HZ.out.2.2.uf hL4;have hr2:=rok_zo hz4 hUK4.uf hM4;obtain⟨_,hM3,ta,tb,tc,hd⟩:=known_plain HZ.out.2.2 hL4 hM4 hr1 hr2;rw[hd]at hxs;have hT3:T'=3:=by rw[←hz4.total_eq hM4,hM3]
 have hxl:xs.length=3:=by have:=congrArg List.length hxs;simpa using this
 have hx0:(xs[0]'(by omega)).1=false:=by
  have:=congrArg (fun l=>l[0]?) hxs;simp only[List.getElem?_map]at this;rw[List.getElem?_eq_getElem (by omega)]at this;simp at this;exact this.1
 have hx2:(xs[2]'(by omega)).1=true:=by
  have:=congrArg (fun l=>l[2]?) hxs;simp only[List.getElem?_map]at this;rw[List.getElem?_eq_getElem (by omega)]at this;simp at this;exact this.1
 obtain⟨Av,cv,rfl,_⟩:=own_form hch.row;obtain⟨bc,oc,rfl,hbc,y0⟩:=hch.at0 (k:=0) (by omega);obtain⟨_,_,e2,_,y2⟩:=hch.at0 (k:=2) (by omega);cases e2;rw[hx0,Nat.zero_mul,Nat.add_zero]at y0;rw[hx2]at y2;have HL4:=hid hz4;subst hT3;have hb4:Below w.heap.size w w4:=HB3.out.trans (hk4.below HB3.out.size (fun k hk e=>by subst e;have:=(HZ.out.1.lt HZ.out.1.at_z).2;omega))
 have HB4:=hid hb4;rw[hxl];clear hz4 hN4 hk4 hS4 hch hL4 hM4 hxs hr1 hr2 hd hx0 hx2 hb4 HA hUK4;go_wp2_with fail;refine(UApply_none w4 z 60 0 0 0 none 0 0 none 0 0).mono ?_;rintro e w5 ⟨hb5,rfl⟩;replace y0:=(bcl hb5 hbc).trans y0;replace y2:=(bcl hb5 hbc).trans y2;have hz5:=HL4.out.ext hb5;have HLen:=hid hz5.len;have HB5:=hid (HB4.out.trans (hb5.mono HB4.out.size));clear hb5 hz5
 go_wp2_with fail;refine HLen.out.mono ?_;rintro e w6 ⟨rfl,rfl⟩;go_wp2_with fail;go_ret;exact⟨rfl,HB5.out⟩
theorem recAt2{w:World}{B:Nat}{A:Option Addr}{c ln:Nat}{rs:List RcB}{L:List PR}(h:RecsV w B (.slice A ln c) rs)(hsay:rs.map RcB.says=L.map PR.says)(hg:∀x∈L,PG x){j:Nat}(hj:j < L.length):
 ∃a:RcV,∃b off,A=some ⟨b,off,none⟩∧b < w.heap.size∧a.ok w∧a.cl=1∧a.pr=L[j]∧w.cell? ⟨b,off+j *5,none⟩=some (.slice a.A a.n.length a.cn)∧w.cell? ⟨b,off+j *5+1,none⟩=some (.int .u16 (a.t:Int))∧w.cell? ⟨b,off+j *5+2,none⟩=some (.int .u16 a.cl)∧w.cell? ⟨b,off+j *5+3,none⟩=some (.int .u32 a.ttl)∧w.cell? ⟨b,off+j *5+4,none⟩=some (.slice a.D a.d.length a.cd):=by
 have hl:rs.length=L.length:=by have:=congrArg List.length hsay;simpa using this
 have hj':j < rs.length:=by omega
 obtain⟨b,off,rfl,hb,h0,h1,h2,h3,h4⟩:=h.at2 hj';have ho:=h.own _ (List.getElem_mem hj');have hs:(rs[j]).says=(L[j]).says:=by
  have:=congrArg (fun l=>l[j]?) hsay;simp only[List.getElem?_map,List.getElem?_eq_getElem hj',List.getElem?_eq_getElem hj]at this;injection this
 have hp:=hg _ (List.getElem_mem hj);obtain⟨m,hm,hgm⟩:=hp.ty;generalize L[j]=x at *;generalize rs[j]=r at *;obtain⟨⟨An,n,cn⟩,t,ttl,⟨Ad,d,cd⟩⟩:=r;obtain⟨xn,xt,xttl,xd,xc⟩:=x;unfold RcB.says PR.says at hs;simp only[Prod.mk.injEq]at hs;obtain⟨e1,e2,e3,e4⟩:=hs;simp only at hm;subst e1 e2 e3 e4 hm;have hn1:=cs_own ho.1;have hd1:=cs_own ho.2;have hcap:=own_caps ho.2
 refine⟨⟨An,n,cn,m,1,ttl,Ad,d,cd⟩,b,off,rfl,hb,⟨hn1.2,hp.small.few,hgm,hd1.2,hp.chk,hp.len,hcap.1,hcap.2⟩,rfl, ?_,h0,h1,h2,h3,h4⟩;unfold RcV.pr;have:=hp.can;simp only at this;rw[this]
theorem info_u16z:(prog.info? 36).map (fun i=>(i.zero,i.size,i.bytes))=some (some (.int .u16 0),1,2):=by kernel_rfl
end Nm
end Go.Proofs.YtmbdoacafhljkaaGreat
