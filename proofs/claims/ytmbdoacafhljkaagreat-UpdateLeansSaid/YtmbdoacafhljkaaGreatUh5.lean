/- Texts merged by a program: Zst, Ins, PutT, Names, Ins2, Gst, GPutT. -/
import Derived.Maps.RangeWalk
import Derived.Laws.CopyRow
import Derived.Lib.Overlaps
import Derived.Lib.AppendZerosOnto
import Derived.Test.YtmbdoacafhljkaaGreatUh1
import Derived.Test.YtmbdoacafhljkaaGreatUh2
import Derived.Test.YtmbdoacafhljkaaGreatUh4
set_option linter.unusedSimpArgs false
set_option linter.unusedVariables false
set_option maxRecDepth 1000000
set_option maxHeartbeats 20000000
open Go.Proofs.Tryz
namespace Go.Proofs.YtmbdoacafhljkaaGreat
open Go.RowKit
namespace Nm
def zT(T:TypeId):Prop:=T=103∨T=119∨T=121
structure Turn(B:Nat)(w w':World):Prop where
 below:Below B w w'
 rest:∀(g:Nat) (cs:Array Value) (T:TypeId) (fr:Nat×Nat),w.heap[g]? =some (.cells cs T fr)→¬zT T→w'.heap[g]? =some (.cells cs T fr)
section
variable {B:Nat} {w w' w'':World}
theorem Turn.refl(B:Nat)(w:World):Turn B w w:=⟨Below.refl _ _,fun _ _ _ _ h _=>h⟩
theorem Turn.of_ext(h:Below w.heap.size w w')(hB:B≤w.heap.size):Turn B w w':=⟨h.mono hB,fun g cs T fr hg _=>(h.block g (lt_block hg)).trans hg⟩
theorem Turn.trans(h:Turn B w w')(k:Turn B w' w''):Turn B w w'':=⟨h.below.trans k.below,fun g cs T fr hg hT=>k.rest g cs T fr (h.rest g cs T fr hg hT) hT⟩
theorem Turn.mono{B':Nat}(h:Turn B w w')(hB:B'≤B):Turn B' w w':=⟨h.below.mono hB,h.rest⟩
theorem Turn.kept{S:Nat→Prop}(h:Kept S w w')(hB:B≤w.heap.size)(hS:∀k,S k→B≤k∧∀(cs:Array Value) (T:TypeId) (fr:Nat×Nat),w.heap[k]? =some (.cells cs T fr)→zT T):Turn B w w':=
 ⟨h.below hB (fun k hk hs=>by have:=(hS k hs).1;omega),fun g cs T fr hg hT=>(h.block g (lt_block hg) (fun hs=>hT ((hS g hs).2 cs T fr hg))).trans hg⟩
theorem Turn.map{b:Nat}{es:Array MapEntry}{c:Nat}(h:w.grownBy w' (some b))(hm:w.heap[b]? =some (.map es c))(hB:B≤b):Turn B w w':=
 Turn.kept (Kept.of_grown h) (Nat.le_trans hB (Nat.le_of_lt (lt_block hm))) (fun k hk=>by
  cases hk;exact⟨hB,fun cs T fr he=>by rw[hm]at he;cases he⟩)
theorem Turn.set{g o:Nat}{cs:Array Value}{T:TypeId}{fr:Nat×Nat}(hg:w.heap[g]? =some (.cells cs T fr))(hT:zT T)(hB:B≤g)(u:Value):Turn B w (w.setCell ⟨g,o,none⟩ u):=
 Turn.kept ((Kept.refl (fun k=>k=g) w).setCell (fun _=>rfl) u) (Nat.le_trans hB (Nat.le_of_lt (lt_block hg))) (fun k hk=>by
  cases hk;exact⟨hB,fun cs T fr he=>by rw[hg]at he;cases he;exact hT⟩)
theorem Turn.row{B':Nat}{e:TypeId}{size:Nat}{v:Value}{n:Nat}{xs:List Value}(h:Turn B w w')(hr:w.ownsRow B' e size v n xs)(he:¬zT e):w'.ownsRow B' e size v n xs:=by
 refine⟨hr.1, ?_⟩;rcases hr.2 with hn|⟨g,cap,cur,hv,hg,hh,rest⟩
 ·exact .inl hn
 ·exact .inr ⟨g,cap,cur,hv,hg,h.rest _ _ _ _ hh he,rest⟩
theorem Turn.size(h:Turn B w w'):w.heap.size≤w'.heap.size:=h.below.size
end
theorem zT_str:¬zT 9:=by unfold zT;decide
theorem zT_u8:¬zT 5:=by unfold zT;decide
theorem zT_node:¬zT 112:=by unfold zT;decide
theorem zT_rec:¬zT 39:=by unfold zT;decide
theorem cs_own{w:World}{B:Nat}{e:TypeId}{A:Option Addr}{m c n:Nat}{xs:List Value}(h:w.ownsRow B e 1 (.slice A m c) n xs):m=n∧Cs w A xs:=by
 obtain⟨A',c',he,_,hcs⟩:=Cs.of_own h;cases he;exact⟨rfl,hcs⟩
def BlobOwn(w:World)(B:Nat)(b:Blob):Prop:=w.ownsRow B 5 1 b.v b.l.length (b.l.map byteV)
def DatOwn(w:World)(B:Nat)(ds:List (Blob×Blob)):Prop:=∀d∈ds,BlobOwn w B d.1∧BlobOwn w B d.2
theorem BlobOwn.ok{w:World}{B:Nat}{b:Blob}(h:BlobOwn w B b):b.ok w:=(cs_own h).2
theorem DatOwn.ok{w:World}{B:Nat}{ds:List (Blob×Blob)}(h:DatOwn w B ds):DatOk w ds:=fun d hd=>⟨(h d hd).1.ok,(h d hd).2.ok⟩
theorem DatOwn.turn{w w':World}{B B':Nat}{ds:List (Blob×Blob)}(h:DatOwn w B ds)(ht:Turn B' w w'):DatOwn w' B ds:=fun d hd=>⟨ht.row (h d hd).1 zT_u8,ht.row (h d hd).2 zT_u8⟩
structure Zn(w:World)(B z bn bb:Nat)(ap:List Lab)(c:Int)(D:DataW Unit)(f:Lab→Int)(N:Nat):Prop where
 blk:∃A ca,w.heap[z]? =some (.cells #[.slice A ap.length ca,.map (some bn),.map (some bb),.int .i64 c] 103 (0,0))∧w.ownsRow B 9 1 (.slice A ap.length ca) ap.length (ap.map strV)
 nodes:w.ownsMap prog 9 ptrR bn N D
 below:∃E,w.ownsMap prog 9 (plainElem prog 3) bb N E∧Seen E f
 ne:bn≠bb
 h1:B≤z
 h2:B≤bn
 h3:B≤bb
structure St(w:World)(B x bs s:Nat)(n:List Lab)(t ttl:Int)(v:Value)(ds:List (Blob×Blob)):Prop where
 node:∃A c,w.heap[x]? =some (.cells #[.slice A n.length c,.map (some bs)] 112 (0,0))∧w.ownsRow B 9 1 (.slice A n.length c) n.length ((lower n).map strV)
 sets:w.ownsMap prog 36 ptrR bs 9 (.map [(.int .u16 t,.lit (.int .i64 (s:Int)))])
 set:w.heap[s]? =some (.cells #[.int .u32 ttl,v] 119 (0,0))
 row:w.ownsRow B 121 2 v ds.length (datC ds)
 dat:DatOwn w B ds
 h1:B≤bs
 h2:B≤s
structure One(w:World)(B z bn bb x bs s:Nat)(ap n:List Lab)(t ttl:Int)(v:Value)(ds:List (Blob×Blob))(f:Lab→Int)(N:Nat):Prop where
 zn:Zn w B z bn bb ap ds.length (.map [(.string (zkey n),.lit (.int .i64 (x:Int)))]) f N
 st:St w B x bs s n t ttl v ds
 n1:bs≠bn
 n2:bs≠bb
def Emp(w:World)(B z bn bb:Nat)(ap:List Lab)(f:Lab→Int)(N:Nat):Prop:=Zn w B z bn bb ap 0 (.map []) f N
theorem Zn.ext{w w':World}{B z bn bb:Nat}{ap:List Lab}{c:Int}{D:DataW Unit}{f:Lab→Int}{N:Nat}(h:Zn w B z bn bb ap c D f N)(hb:Below w.heap.size w w'):Zn w' B z bn bb ap c D f N:=by
 have hg:w.grownBy w' none:=⟨hb.os,hb.tape,hb.output,hb.size,fun k hk _=>hb.block k hk⟩
 obtain⟨A,ca,h1,h2⟩:=h.blk;obtain⟨E,h3,h4⟩:=h.below;exact⟨⟨A,ca,(hb.block _ (lt_block h1)).trans h1,own_below h2 hb⟩,h.nodes.kept hg (by simp),⟨E,h3.kept hg (by simp),h4⟩,h.ne,h.h1,h.h2,h.h3⟩
theorem St.ext{w w':World}{B x bs s:Nat}{n:List Lab}{t ttl:Int}{v:Value}{ds:List (Blob×Blob)}(h:St w B x bs s n t ttl v ds)(hB:B≤w.heap.size)(hb:Below w.heap.size w w'):St w' B x bs s n t ttl v ds:=by
 have hg:w.grownBy w' none:=⟨hb.os,hb.tape,hb.output,hb.size,fun k hk _=>hb.block k hk⟩
 obtain⟨A,c,h1,h2⟩:=h.node;exact⟨⟨A,c,(hb.block _ (lt_block h1)).trans h1,own_below h2 hb⟩,h.sets.kept hg (by simp),(hb.block _ (lt_block h.set)).trans h.set,own_below h.row hb,h.dat.turn (Turn.of_ext hb hB),h.h1,h.h2⟩
theorem One.ext{w w':World}{B z bn bb x bs s:Nat}{ap n:List Lab}{t ttl:Int}{v:Value}{ds:List (Blob×Blob)}{f:Lab→Int}{N:Nat}(h:One w B z bn bb x bs s ap n t ttl v ds f N)(hb:Below w.heap.size w w'):One w' B z bn bb x bs s ap n t ttl v ds f N:=
 ⟨h.zn.ext hb,h.st.ext (Nat.le_trans h.st.h2 (Nat.le_of_lt (lt_block h.st.set))) hb,h.n1,h.n2⟩
theorem ownsMap_block{w w':World}{P:Program}{k:TypeId}{R:Value→Option (DataW Unit×List MemPlace)}{b n:Nat}{D:DataW Unit}(h:w.ownsMap P k R b n D)(e:w'.heap[b]? =w.heap[b]?):w'.ownsMap P k R b n D:=by
 obtain⟨es,cl,hb,r⟩:=h;exact⟨es,cl,e.trans hb,r⟩
theorem ne_cells{w:World}{g h:Nat}{cs cs':Array Value}{T T':TypeId}{fr fr':Nat×Nat}(hg:w.heap[g]? =some (.cells cs T fr))(hh:w.heap[h]? =some (.cells cs' T' fr'))(hT:T≠T'):g≠h:=by
 intro e;subst e;rw[hg]at hh;cases hh;exact hT rfl
theorem ne_map{w:World}{P:Program}{k:TypeId}{R:Value→Option (DataW Unit×List MemPlace)}{b n:Nat}{D:DataW Unit}{g:Nat}{cs:Array Value}{T:TypeId}{fr:Nat×Nat}(h:w.ownsMap P k R b n D)(hg:w.heap[g]? =some (.cells cs T fr)):b≠g:=by
 intro e;subst e;obtain⟨es,cl,hb,_⟩:=h;rw[hg]at hb;cases hb
theorem row_block{w:World}{B:Nat}{e:TypeId}{size:Nat}{v:Value}{n:Nat}{xs:List Value}(h:w.ownsRow B e size v n xs){b:Nat}(hb:v.ownBlock=some b):∃cs,w.heap[b]? =some (.cells cs e (0,0))∧B≤b:=by
 rcases h.2 with⟨rfl,_⟩|⟨g,cap,cur,rfl,hg,hh,_⟩
 ·cases hb
 ·cases hb;exact⟨_,hh,hg⟩
def Zonal(S:Nat→Prop)(w:World):Prop:=∀k,S k→∀(cs:Array Value) (T:TypeId) (fr:Nat×Nat),w.heap[k]? =some (.cells cs T fr)→zT T
theorem Zonal.cells{w:World}{g:Nat}{cs:Array Value}{T:TypeId}{fr:Nat×Nat}(hg:w.heap[g]? =some (.cells cs T fr))(hT:zT T):Zonal (fun k=>k=g) w:=by
 rintro k rfl cs' T' fr' he;rw[hg]at he;cases he;exact hT
theorem Zonal.map{w:World}{P:Program}{k:TypeId}{R:Value→Option (DataW Unit×List MemPlace)}{b n:Nat}{D:DataW Unit}(h:w.ownsMap P k R b n D):Zonal (fun k=>k=b) w:=by
 rintro k rfl cs' T' fr' he;exact absurd rfl (ne_map h he)
theorem Zonal.row{w:World}{B:Nat}{size:Nat}{v:Value}{n:Nat}{xs:List Value}(h:w.ownsRow B 121 size v n xs):Zonal (fun k=>some k=v.ownBlock) w:=by
 intro k hk cs T fr he;obtain⟨cs',h1,_⟩:=row_block h hk.symm;rw[h1]at he;cases he;exact .inr (.inr rfl)
theorem row_zonal{S:Nat→Prop}{w w':World}{B:Nat}{e:TypeId}{size:Nat}{v:Value}{n:Nat}{xs:List Value}(hr:w.ownsRow B e size v n xs)(hk:Kept S w w')(hZ:Zonal S w)(he:¬zT e):w'.ownsRow B e size v n xs:=
 Kept.row hr hk fun k hkb hs=>by
  obtain⟨cs,h1,_⟩:=row_block hr hkb;exact he (hZ k hs _ _ _ h1)
theorem cells_zonal{S:Nat→Prop}{w w':World}{g:Nat}{cs:Array Value}{T:TypeId}{fr:Nat×Nat}(hg:w.heap[g]? =some (.cells cs T fr))(hk:Kept S w w')(hZ:Zonal S w)(hT:¬zT T):w'.heap[g]? =some (.cells cs T fr):=
 (hk.block g (lt_block hg) (fun hs=>hT (hZ g hs _ _ _ hg))).trans hg
theorem Turn.zonal{S:Nat→Prop}{B:Nat}{w w':World}(hk:Kept S w w')(hZ:Zonal S w)(hB:B≤w.heap.size)(hS:∀k,S k→B≤k):Turn B w w':=Turn.kept hk hB fun k hs=>⟨hS k hs,hZ k hs⟩
theorem DatOwn.zonal{S:Nat→Prop}{w w':World}{B:Nat}{ds:List (Blob×Blob)}(h:DatOwn w B ds)(hk:Kept S w w')(hZ:Zonal S w):DatOwn w' B ds:=fun d hd=>⟨row_zonal (h d hd).1 hk hZ zT_u8,row_zonal (h d hd).2 hk hZ zT_u8⟩
theorem Zn.kept{S:Nat→Prop}{w w':World}{B z bn bb:Nat}{ap:List Lab}{c:Int}{D:DataW Unit}{f:Lab→Int}{N:Nat}(h:Zn w B z bn bb ap c D f N)(hk:Kept S w w')(hZ:Zonal S w)(h1:¬S z)(h2:¬S bn)(h3:¬S bb):Zn w' B z bn bb ap c D f N:=by
 obtain⟨A,ca,g1,g2⟩:=h.blk;obtain⟨E,g3,g4⟩:=h.below;exact⟨⟨A,ca,(hk.block _ (lt_block g1) h1).trans g1,row_zonal g2 hk hZ zT_str⟩,ownsMap_block h.nodes (hk.block _ h.nodes.lt h2),⟨E,ownsMap_block g3 (hk.block _ g3.lt h3),g4⟩,h.ne,h.h1,h.h2,h.h3⟩
theorem St.kept{S:Nat→Prop}{w w':World}{B x bs s:Nat}{n:List Lab}{t ttl:Int}{v:Value}{ds:List (Blob×Blob)}(h:St w B x bs s n t ttl v ds)(hk:Kept S w w')(hZ:Zonal S w)(h1:¬S bs)(h2:¬S s)(h3:∀b,v.ownBlock=some b→¬S b):St w' B x bs s n t ttl v ds:=by
 obtain⟨A,c,g1,g2⟩:=h.node;exact⟨⟨A,c,cells_zonal g1 hk hZ zT_node,row_zonal g2 hk hZ zT_str⟩,ownsMap_block h.sets (hk.block _ h.sets.lt h1),(hk.block _ (lt_block h.set) h2).trans h.set,Kept.row h.row hk h3,h.dat.zonal hk hZ,h.h1,h.h2⟩
theorem One.size{w:World}{B z bn bb x bs s:Nat}{ap n:List Lab}{t ttl:Int}{v:Value}{ds:List (Blob×Blob)}{f:Lab→Int}{N:Nat}(h:One w B z bn bb x bs s ap n t ttl v ds f N):B≤w.heap.size:=Nat.le_trans h.st.h2 (Nat.le_of_lt (lt_block h.st.set))
theorem One.put{w w':World}{B z bn bb x bs s:Nat}{ap n:List Lab}{t ttl ttl2:Int}{v:Value}{ds:List (Blob×Blob)}{f:Lab→Int}{N:Nat}(h:One w B z bn bb x bs s ap n t ttl v ds f N)(hk:Kept (fun k=>k=s) w w')(hs:w'.heap[s]? =some (.cells #[.int .u32 ttl2,v] 119 (0,0))):
 One w' B z bn bb x bs s ap n t ttl2 v ds f N∧Turn B w w':=by
 have hZ:Zonal (fun k=>k=s) w:=Zonal.cells h.st.set (.inr (.inl rfl));obtain⟨A,ca,g1,g2⟩:=h.zn.blk;obtain⟨A',c',g5,g6⟩:=h.st.node;obtain⟨E,g3,g4⟩:=h.zn.below
 refine⟨⟨h.zn.kept hk hZ (ne_cells g1 h.st.set (by decide)) (ne_map h.zn.nodes h.st.set) (ne_map g3 h.st.set),⟨⟨A',c',cells_zonal g5 hk hZ zT_node,row_zonal g6 hk hZ zT_str⟩,ownsMap_block h.st.sets (hk.block _ h.st.sets.lt (ne_map h.st.sets h.st.set)),hs, ?_,h.st.dat.zonal hk hZ,h.st.h1,h.st.h2⟩,h.n1,h.n2⟩,Turn.zonal hk hZ h.size (fun k e=>by rw[e];exact h.st.h2)⟩
 refine Kept.row h.st.row hk fun k hkb e=> ?_;obtain⟨cs,h1,_⟩:=row_block h.st.row hkb;exact ne_cells h1 h.st.set (by decide) e
theorem Zn.setN{w:World}{B z bn bb:Nat}{ap:List Lab}{c c':Int}{D:DataW Unit}{f:Lab→Int}{N:Nat}(h:Zn w B z bn bb ap c D f N):Zn (w.setCell ⟨z,3,none⟩ (.int .i64 c')) B z bn bb ap c' D f N∧Kept (fun k=>k=z) w (w.setCell ⟨z,3,none⟩ (.int .i64 c'))∧Zonal (fun k=>k=z) w∧Turn B w (w.setCell ⟨z,3,none⟩ (.int .i64 c')):=by
 have hk:Kept (fun k=>k=z) w (w.setCell ⟨z,3,none⟩ (.int .i64 c')):=(Kept.refl (fun k=>k=z) w).setCell (fun _=>rfl) _;obtain⟨A,ca,g1,g2⟩:=h.blk;obtain⟨E,g3,g4⟩:=h.below;have hZ:Zonal (fun k=>k=z) w:=Zonal.cells g1 (.inl rfl)
 exact⟨⟨⟨A,ca,heap_set g1,row_zonal g2 hk hZ zT_str⟩,ownsMap_block h.nodes (hk.block _ h.nodes.lt (ne_map h.nodes g1)),⟨E,ownsMap_block g3 (hk.block _ g3.lt (ne_map g3 g1)),g4⟩,h.ne,h.h1,h.h2,h.h3⟩,hk,hZ,
  Turn.zonal hk hZ (Nat.le_trans h.h1 (Nat.le_of_lt (lt_block g1))) (fun k e=>by rw[e];exact h.h1)⟩
theorem datC_snoc(ds:List (Blob×Blob))(d:Blob×Blob):datC (ds++[d])=datC ds++[d.1.v,d.2.v]:=by simp[datC]
theorem One.more{w W:World}{B z bn bb x bs s:Nat}{ap n:List Lab}{t ttl:Int}{v v2:Value}{ds:List (Blob×Blob)}{f:Lab→Int}{N:Nat}{b1 b2:Blob}(h:One w B z bn bb x bs s ap n t ttl v ds f N)(hk:Kept (fun k=>k=s∨some k=v.ownBlock) w W)
 (hs:W.heap[s]? =some (.cells #[.int .u32 ttl,v2] 119 (0,0))) (hr:W.ownsRow B 121 2 v2 (ds.length+1) (datC ds++[b1.v,b2.v])) (h1:BlobOwn W B b1) (h2:BlobOwn W B b2):
 One (W.setCell ⟨z,3,none⟩ (.int .i64 ((ds.length+1:Nat):Int))) B z bn bb x bs s ap n t ttl v2 (ds++[(b1,b2)]) f N∧Turn B w (W.setCell ⟨z,3,none⟩ (.int .i64 ((ds.length+1:Nat):Int))):=by
 have hZ:Zonal (fun k=>k=s∨some k=v.ownBlock) w:=by
  intro k hk2;rcases hk2 with e|e
  ·exact Zonal.cells h.st.set (.inr (.inl rfl)) k e
  ·exact Zonal.row h.st.row k e
 obtain⟨A,ca,g1,g2⟩:=h.zn.blk;obtain⟨A',c',g5,g6⟩:=h.st.node;obtain⟨E,g3,g4⟩:=h.zn.below;have hrow:∀k,some k=v.ownBlock→∃cs,w.heap[k]? =some (.cells cs 121 (0,0))∧B≤k:=fun k e=>row_block h.st.row e.symm;have hnz:¬(z=s∨some z=v.ownBlock):=by
  rintro(e|e)
  ·exact ne_cells g1 h.st.set (by decide) e
  ·obtain⟨cs,e1,_⟩:=hrow z e;exact ne_cells g1 e1 (by decide) rfl
 have hnm:∀{k:TypeId} {R:Value→Option (DataW Unit×List MemPlace)} {b n:Nat} {D:DataW Unit},w.ownsMap prog k R b n D→¬(b=s∨some b=v.ownBlock):=by
  rintro k R b n D hm (e|e)
  ·exact ne_map hm h.st.set e
  ·obtain⟨cs,e1,_⟩:=hrow b e;exact ne_map hm e1 rfl
 have hzn:=h.zn.kept hk hZ hnz (hnm h.zn.nodes) (hnm g3);have hT:Turn B w W:=Turn.zonal hk hZ h.size (fun k e=>by
  rcases e with e|e
  ·rw[e];exact h.st.h2
  ·exact(hrow k e).choose_spec.2)
 obtain⟨q1,q2,q3,q4⟩:=hzn.setN (c':=((ds.length+1:Nat):Int));have hsz:=(heap_set (i:=3) (v:=.int .i64 ((ds.length+1:Nat):Int)) ((hk.block z (lt_block g1) hnz).trans g1))
 have hzW:=(hk.block z (lt_block g1) hnz).trans g1;have hms:=ownsMap_block h.st.sets (hk.block _ h.st.sets.lt (hnm h.st.sets));have hd1:BlobOwn (W.setCell ⟨z,3,none⟩ (.int .i64 ((ds.length+1:Nat):Int))) B b1:=row_zonal h1 q2 q3 zT_u8;have hd2:BlobOwn (W.setCell ⟨z,3,none⟩ (.int .i64 ((ds.length+1:Nat):Int))) B b2:=row_zonal h2 q2 q3 zT_u8;have hd:=(h.st.dat.zonal hk hZ).zonal q2 q3
 refine⟨⟨by rw[List.length_append];exact q1,⟨⟨A',c',cells_zonal (cells_zonal g5 hk hZ zT_node) q2 q3 zT_node,row_zonal (row_zonal g6 hk hZ zT_str) q2 q3 zT_str⟩,ownsMap_block hms (q2.block _ hms.lt (ne_map hms hzW)),(q2.block s (lt_block hs) (ne_cells hs hzW (by decide))).trans hs, ?_, ?_,h.st.h1,h.st.h2⟩,h.n1,h.n2⟩,hT.trans q4⟩
 ·rw[datC_snoc,List.length_append];refine Kept.row hr q2 fun k hkb e=> ?_;obtain⟨cs,e1,_⟩:=row_block hr hkb;exact ne_cells e1 hzW (by decide) e
 ·intro d hdm;rcases List.mem_append.1 hdm with hdm|hdm
  ·exact hd d hdm
  ·rcases List.mem_cons.1 hdm with rfl|hdm
   ·exact⟨hd1,hd2⟩
   ·cases hdm
theorem Zn.setNodes{w w':World}{B z bn bb:Nat}{ap:List Lab}{c:Int}{D D':DataW Unit}{f:Lab→Int}{N N':Nat}(h:Zn w B z bn bb ap c D f N)(hg:w.grownBy w' (some bn))(hm:w'.ownsMap prog 9 ptrR bn N' D')(hN:N≤N'):
 Zn w' B z bn bb ap c D' f N'∧Kept (fun k=>k=bn) w w'∧Zonal (fun k=>k=bn) w∧Turn B w w':=by
 have hk:Kept (fun k=>k=bn) w w':=(Kept.of_grown hg).mono (fun k _ h=>by cases h;rfl);have hZ:Zonal (fun k=>k=bn) w:=Zonal.map h.nodes;obtain⟨A,ca,g1,g2⟩:=h.blk;obtain⟨E,g3,g4⟩:=h.below
 exact⟨⟨⟨A,ca,(hk.block _ (lt_block g1) (Ne.symm (ne_map h.nodes g1))).trans g1,row_zonal g2 hk hZ zT_str⟩,hm,⟨E,(ownsMap_block g3 (hk.block _ g3.lt (Ne.symm h.ne))).mono hN,g4⟩,h.ne,h.h1,h.h2,h.h3⟩,hk,hZ,
  Turn.zonal hk hZ (Nat.le_trans h.h1 (Nat.le_of_lt (lt_block g1))) (fun k e=>by rw[e];exact h.h2)⟩
theorem Zn.setBelow{w w':World}{B z bn bb:Nat}{ap:List Lab}{c:Int}{D E':DataW Unit}{f f':Lab→Int}{N N':Nat}(h:Zn w B z bn bb ap c D f N)(hk:Kept (fun k=>k=bb) w w')(hm:w'.ownsMap prog 9 (plainElem prog 3) bb N' E')(hs:Seen E' f')(hN:N≤N'):
 Zn w' B z bn bb ap c D f' N'∧Zonal (fun k=>k=bb) w∧Turn B w w':=by
 obtain⟨A,ca,g1,g2⟩:=h.blk;obtain⟨E,g3,g4⟩:=h.below;have hZ:Zonal (fun k=>k=bb) w:=Zonal.map g3;exact⟨⟨⟨A,ca,(hk.block _ (lt_block g1) (Ne.symm (ne_map g3 g1))).trans g1,row_zonal g2 hk hZ zT_str⟩,(ownsMap_block h.nodes (hk.block _ h.nodes.lt h.ne)).mono hN,⟨E',hm,hs⟩,h.ne,h.h1,h.h2,h.h3⟩,hZ,
  Turn.zonal hk hZ (Nat.le_trans h.h1 (Nat.le_of_lt (lt_block g1))) (fun k e=>by rw[e];exact h.h3)⟩
theorem Emp.of_made{w:World}{B z bn bb:Nat}{ap:List Lab}(h:Made w B z bn bb ap):Emp w B z bn bb ap (fun _=>0) 0:=by
 obtain⟨A,ca,h1,h2⟩:=h.blk;have e1:w.ownsMap prog 9 ptrR bn 0 (.map []):=⟨#[],0,h.nodes,⟨by simp,MapKept.stamped_empty 0,by simp⟩,Nat.le_refl _,rfl⟩
 have e2:w.ownsMap (H:=Unit) prog 9 (plainElem prog 3) bb 0 (.map []):=⟨#[],0,h.below,⟨by simp,MapKept.stamped_empty 0,by simp⟩,Nat.le_refl _,rfl⟩
 have:=h.h1;have:=h.h2;have:=h.h3;exact⟨⟨A,ca,h1,h2⟩,e1,⟨_,e2,seen_empty⟩,by omega,by omega,h.h1,by omega⟩
end Nm
namespace Nm
theorem info_datum:(prog.info? 121).map (fun i=>(i.zero,i.size,i.bytes))=some (some (.agg #[.slice none 0 0,.slice none 0 0]),2,48):=by kernel_rfl
theorem InsertEnd(B:Nat)(v:Value)(n:Nat)(xs:List Value)(ub:Nat)(u1 u2:Value)(fr:Nat×Nat)(w:World)(hown:w.ownsRow B 121 2 v n xs)(hB:B≤w.heap.size)(hu:w.heap[ub]? =some (.cells #[u1,u2] 121 fr))
 (hub:v.ownBlock≠some ub) (h1:u1.oneCell'=true) (h2:u2.oneCell'=true) (hn:n≤1000000):
 Calls prog 106 #[v,.int .i64 n,.slice (some ⟨ub,0,none⟩) 1 1] w fun e w'=>∃v',e=.returned v'∧w'.ownsRow B 121 2 v' (n+1) (xs++[u1,u2])∧Moved v w v' w':=by
 obtain⟨i0,hi,hz0,hz1,hz2⟩:=info_parts info_datum;have hus:∀j u,([u1,u2]:List Value)[j]? =some u→w.cell? ((⟨ub,0,none⟩:Addr).add j)=some u:=by
  intro j u hj;rw[add_plain,cell_of_row _ _ _ _ _ _ hu,Nat.zero_add];simpa using hj
 have HUS:=hid hus;have H1:Hid (∀u∈([u1,u2]:List Value),u.oneCell'=true):=hid (by intro u hu;rcases List.mem_cons.1 hu with rfl|hu;exact h1;rcases List.mem_cons.1 hu with rfl|hu;exact h2;cases hu);clear hus h1 h2 hu
 have hKey:∀(A:Option Addr) (cap:Nat),v=.slice A n cap→n≤cap→cap≤maxLen→Calls prog 106 #[.slice A n cap,.int .i64 n,.slice (some ⟨ub,0,none⟩) 1 1] w fun e w'=>∃v',e=.returned v'∧w'.ownsRow B 121 2 v' (n+1) (xs++[u1,u2])∧Moved v w v' w':=by
  intro A cap hv hc1 hc2;unfold maxLen at hc2;go_enter func106,ntmps106
  go_wp2_with (first|(at_builtin;refine wpList_append_own_at _ rfl (.tmp 23) (.tmp 24) 117 rfl B 121 i0 _ 2 48 underlying117 hi hz0 hz1 hz2 rfl (by decide) v n xs hv.symm hown ⟨ub,0,none⟩ 1 1 [u1,u2] rfl rfl HUS.out H1.out (by unfold maxLen;omega) (by omega) hB ?_;intro v4 w4 hown4 hg4 _ hat4))
  all_goals
   have hmv:Moved v w v4 w4:=⟨Kept.of_grown hg4,fun b hb=>by
    rcases hat4 with h|h
    ·exact .inl (h▸hb)
    ·rw[h]at hb;cases hb;exact .inr (Nat.le_refl _)⟩
   rw[hv]at hmv;go_ret
   first
    |exact⟨_,rfl,hown4,hmv⟩
    |(have h5:cap=n:=by assumption
      rw[h5]at hmv;exact⟨_,rfl,hown4,hmv⟩)
 rcases hown.2 with⟨rfl,rfl⟩|⟨g,cap,cur,rfl,hg,hh,hc1,hc2,_⟩
 ·exact hKey none 0 rfl (Nat.le_refl _) (by unfold maxLen;omega)
 ·exact hKey _ cap rfl hc1 hc2
theorem cells5{w:World}{g:Nat}{T:TypeId}{c0 c1 c2 c3 c4:Value}(h:w.heap[g]? =some (.cells #[c0,c1,c2,c3,c4] T (0,0))):
 w.cell? ⟨g,0,none⟩=some c0∧w.cell? ⟨g,1,none⟩=some c1∧w.cell? ⟨g,2,none⟩=some c2∧w.cell? ⟨g,3,none⟩=some c3∧w.cell? ⟨g,4,none⟩=some c4∧∀i,w.frozen? ⟨g,i,none⟩=false:=by
 refine⟨?_, ?_, ?_, ?_, ?_,fun i=>by simp[World.frozen?,h]⟩ <;> (rw[cell_of_row w g _ _ _ _ h];rfl)
theorem cells4{w:World}{g:Nat}{T:TypeId}{c0 c1 c2 c3:Value}(h:w.heap[g]? =some (.cells #[c0,c1,c2,c3] T (0,0))):
 w.cell? ⟨g,0,none⟩=some c0∧w.cell? ⟨g,1,none⟩=some c1∧w.cell? ⟨g,2,none⟩=some c2∧w.cell? ⟨g,3,none⟩=some c3∧∀i,w.frozen? ⟨g,i,none⟩=false:=by
 refine⟨?_, ?_, ?_, ?_,fun i=>by simp[World.frozen?,h]⟩ <;> (rw[cell_of_row w g _ _ _ _ h];rfl)
theorem cells2{w:World}{g:Nat}{T:TypeId}{c0 c1:Value}(h:w.heap[g]? =some (.cells #[c0,c1] T (0,0))):
 w.cell? ⟨g,0,none⟩=some c0∧w.cell? ⟨g,1,none⟩=some c1∧∀i,w.frozen? ⟨g,i,none⟩=false:=by
 refine⟨?_, ?_,fun i=>by simp[World.frozen?,h]⟩ <;> (rw[cell_of_row w g _ _ _ _ h];rfl)
theorem own_form{w:World}{B:Nat}{e:TypeId}{size:Nat}{v:Value}{n:Nat}{xs:List Value}(h:w.ownsRow B e size v n xs):∃A c,v=.slice A n c∧n≤c∧c≤maxLen:=by
 rcases h.2 with⟨rfl,rfl⟩|⟨g,cap,cur,rfl,hg,hh,hc1,hc2,_⟩
 ·exact⟨none,0,rfl,Nat.le_refl _,by unfold maxLen;omega⟩
 ·exact⟨_,cap,rfl,hc1,hc2⟩
theorem cs_own2{w:World}{B:Nat}{e:TypeId}{size:Nat}{A:Option Addr}{m c n:Nat}{xs:List Value}(h:w.ownsRow B e size (.slice A m c) n xs):Cs w A xs:=by
 rcases h.2 with⟨hn,h0⟩|⟨g,cap,cur,hv,hg,hh,hc1,hc2,hrest⟩
 ·have hx:xs=[]:=by
   have:=h.1;rw[h0]at this;exact List.length_eq_zero_iff.1 (by simpa using this)
  subst hx;exact Cs.nil _ _
 ·cases hv;obtain⟨hsz,htake⟩:=hrest;intro i u hu;refine⟨g,0,rfl,lt_block hh, ?_⟩;rw[Nat.zero_add,cell_of_row _ _ _ _ _ _ hh];rw[←htake,List.getElem?_take]at hu;split at hu
  ·simpa using hu
  ·cases hu
theorem at_one(k:Lit)(hk:WideAt.IsKeyLit k)(d z:DataW Unit):(DataW.map [(k,d)]).atKey k z=d:=Maps.atKey_put_same (D:=.map []) Maps.isMap_empty hk d z
theorem key_int(q:IntKind)(i:Int):WideAt.IsKeyLit (.int q i):=by first|exact trivial|(simp[WideAt.IsKeyLit])
structure Rec(n ap:List Lab)(t:Int)(d:Lab)(cn cd:Nat):Prop where
 small:Small n
 name:nameE n=0
 inn:within n ap=true
 easy:easyT t
 wf:(Lit.int .u16 t).wf=true
 data:code50 (chk t d)=0
 len:d.length≤100000
 cap1:n.length≤cn
 cap2:cn≤maxLen
 cap3:d.length≤cd
 cap4:cd≤maxLen
theorem info_name:(prog.info? 28).map (fun i=>(i.zero,i.size,i.bytes))=some (some (.slice none 0 0),1,24):=by kernel_rfl
theorem keyS_inv(key:Value)(kl:Lit)(h:keyOf prog 9 key=some kl):∃x:ByteArray,key=.string x:=by
 cases key <;> simp[keyOf,underlying9,mapKey]at h;exact⟨_,rfl⟩
theorem ptrV_inv(v:Value)(y:DataW Unit×List MemPlace)(h:ptrR v=some y):∃c,v=ptrV c:=by
 rcases ptrR_inv h with⟨rfl,_⟩|⟨b,rfl,_⟩
 ·exact⟨none,rfl⟩
 ·exact⟨some b,rfl⟩
theorem run_copy2{P:Program}(w:World)(dT sT ty elem:TypeId)(g o dLen dCap:Nat)(a:Addr)(sLen sCap:Nat)(cur:Array Value)(t:TypeId)(k:Nat)(cs:List Value)
 (hu:P.underlying dT=some (.slice elem)) (hs:(P.info? elem).map (·.size)=some 2)
 (hg:w.heap[g]? =some (.cells cur t (0,0))) (hk:Nat.min sLen dLen=k) (hn:cs.length=k *2)
 (hsrc:∀j v,cs[j]? =some v→w.cell? (a.add j)=some v) (hfit:o+k *2≤cur.size) (h1:∀v∈cs,v.oneCell'=true):
 (Builtin.copy_ #[dT,sT] ty #[.slice (some ⟨g,o,none⟩) dLen dCap,.slice (some a) sLen sCap]).run P w=
   .ok (goInt k) (w.setRow g (cur.toList.take o++cs++cur.toList.drop (o+k *2)).toArray):=by
 have hl:=run_loadCells_list (P:=P) w a cs hsrc;have hst:=run_storeCells_at P g o t cs 0 cur w hg (by simp;omega) h1;simp only[Nat.add_zero]at hst;rw[hn]at hst hl;cases hq:P.info? elem with
 |none=>simp[hq]at hs
 |some i=>
  have hi:i.size=2:=by simpa[hq]using hs
  simp[Builtin.copy_,run_underlying hu,Builtin.lenOf,Builtin.firstCells,sizeOf,typeInfo,hq,hi,hk,hl,hst]
theorem row2_of{w:World}{B g n cap:Nat}{cur:Array Value}{xs:List Value}(hh:w.heap[g]? =some (.cells cur 121 (0,0)))(hB:B≤g)(hn:n≤cap)(hc:cap≤maxLen)(hsz:cur.size=cap *2)(hl:xs.length=n *2)(h:cur.toList.take (n *2)=xs):
 w.ownsRow B 121 2 (.slice (some ⟨g,0,none⟩) n cap) n xs:=⟨hl,.inr ⟨g,cap,cur,rfl,hB,hh,hn,hc,hsz,h⟩⟩
theorem cur_mid(cur:List Value)(n i:Nat)(u1 u2:Value)(hi:i < n)(hn:n *2+2≤cur.length):
 let c1:=cur.take (i *2+2)++(cur.take (n *2)).drop (i *2)++cur.drop (i *2+2+(n - i) *2)
 let c2:=c1.take (i *2)++[u1,u2]++c1.drop (i *2+1 *2)
 c2.length=cur.length∧c2.take ((n+1) *2)=(cur.take (n *2)).take (i *2)++[u1,u2]++(cur.take (n *2)).drop (i *2):=by
 intro c1 c2;have hl1:c1.length=cur.length:=by simp[c1];omega
 have ht:c1.take (i *2)=cur.take (i *2):=by
  simp only[c1,List.append_assoc];rw[List.take_append_of_le_length (by simp;omega),List.take_take];congr 1;omega
 have hd:c1.drop (i *2+1 *2)=(cur.take (n *2)).drop (i *2)++cur.drop (i *2+2+(n - i) *2):=by
  simp only[c1,List.append_assoc];rw[List.drop_append_of_le_length (by simp;omega),List.drop_of_length_le (by simp;omega)];rfl
 have hc2:c2=cur.take (i *2)++[u1,u2]++((cur.take (n *2)).drop (i *2)++cur.drop (i *2+2+(n - i) *2)):=by
  simp only[c2];rw[ht,hd]
 have ht2:(cur.take (n *2)).take (i *2)=cur.take (i *2):=by rw[List.take_take];congr 1;omega
 refine⟨by rw[hc2];simp;omega, ?_⟩;rw[hc2,ht2,←List.append_assoc];rw[List.take_append_of_le_length (by simp;omega),List.take_of_length_le (by simp;omega)]
theorem slice_from(W:World)(g n cap j:Nat)(J:Int)(hJ:J=j)(hj:j≤n)(hc:j < cap)(hn:n≤cap):(Instr.slice 117 (.slice (some ⟨g,0,none⟩) n cap) (some (.int .i64 J)) none none).run prog W=.ok (.slice (some ⟨g,j *2,none⟩) (n - j) (cap - j)) W:=by
 subst hJ;have h0:¬cap=j:=by omega
 simp[go_sem,h0];omega
theorem cur_new(c0 xs:List Value)(n i:Nat)(u1 u2:Value)(hi:i < n)(hx:xs.length=n *2)(hl:n *2+2≤c0.length)(h0:c0.take (i *2)=xs.take (i *2)):
 let c1:=c0.take (i *2)++[u1,u2]++c0.drop (i *2+1 *2)
 let c2:=c1.take (i *2+2)++xs.drop (i *2)++c1.drop (i *2+2+(n - i) *2)
 c1.length=c0.length∧c2.length=c0.length∧c2.take ((n+1) *2)=xs.take (i *2)++[u1,u2]++xs.drop (i *2):=by
 intro c1 c2;have hl1:c1.length=c0.length:=by simp[c1];omega
 have ht:c1.take (i *2+2)=xs.take (i *2)++[u1,u2]:=by
  simp only[c1];rw[h0,List.take_append_of_le_length (by simp;omega),List.take_of_length_le (by simp;omega)]
 have hc2:c2=(xs.take (i *2)++[u1,u2]++xs.drop (i *2))++c1.drop (i *2+2+(n - i) *2):=by
  simp only[c2];rw[ht]
 refine⟨hl1,by rw[hc2];simp[hx,hl1];omega, ?_⟩;rw[hc2,List.take_append_of_le_length (by simp[hx];omega),List.take_of_length_le (by simp[hx];omega)]
theorem wpList_appendE{P:Program}{ops:Array Oper}{rest:List Oper}{o:Oper}{a:Act}{Q:Exit→Act→World→Prop}{w:World}(hgd:o.guard=none)(s x:Operand)(ts:Array TypeId)
 (ho:o.op=.call {callee:=.builtin .append,args:= #[s,x],argTypes:=ts}) {vs vx v:Value} {w':World} (hs:a.eval s=vs) (hx:a.eval x=vx) (hr:(Builtin.append_ ts o.type #[vs,vx]).run P w=.ok v w')
 (h:wpList P ops Q rest (a.put o.dst v) w'):wpList P ops Q (o::rest) a w:=by
 refine wpList_plain hgd fun K hK=> ?_;unfold Oper.wp execOp;simp only[ho,resolve,invoke,builtin,Sem.run_bind,Sem.run_pure,Result.andThen_ok,List.map_toArray,List.map_cons,List.map_nil,hs,hx,hr];exact hK _ _ h
theorem InsertRoom(B g n cap i:Nat)(xs:List Value)(ub:Nat)(u1 u2:Value)(w:World)(cur:Array Value)(hg:w.heap[g]? =some (.cells cur 121 (0,0)))(hgB:B≤g)(hcap:cap≤maxLen)(hsz:cur.size=cap *2)(htk:cur.toList.take (n *2)=xs)(hu:w.heap[ub]? =some (.cells #[u1,u2] 121 (0,0)))
 (hub:ub≠g) (h1:u1.oneCell'=true) (h2:u2.oneCell'=true) (hxs:∀x∈xs,x.oneCell'=true) (hi:i < n) (hroom:n+1≤cap):
 Calls prog 106 #[.slice (some ⟨g,0,none⟩) n cap,.int .i64 i,.slice (some ⟨ub,0,none⟩) 1 1] w fun e w'=>e=.returned (.slice (some ⟨g,0,none⟩) (n+1) cap)∧w'.ownsRow B 121 2 (.slice (some ⟨g,0,none⟩) (n+1) cap) (n+1) (xs.take (i *2)++[u1,u2]++xs.drop (i *2))∧Kept (fun k=>k=g) w w':=by
 have hxl:xs.length=n *2:=by rw[←htk];simp;omega
 have hmid:=cur_mid cur.toList n i u1 u2 hi (by simp;omega);rw[htk]at hmid;have HM:=hid hmid;have hMx:=hcap;clear hmid;unfold maxLen at hcap;have hiw:IntKind.i64.wrap ((i:Int)+1)=(i:Int)+1:=by rw[IntKind.wrap_i64];omega
 have hov:∀lb cb,(callFunc 152 #[.slice (some ⟨ub,0,none⟩) 1 1,.slice (some ⟨g,(i+1) *2,none⟩) lb cb]).run prog w=.ok (.value (.bool false)) w:=fun lb cb=>by
  rw[run_callFunc_extern func152 (by kernel_rfl) (by kernel_rfl) (by kernel_rfl) (e:=Extern.SlicesOverlaps.overlaps #[117,117] #[4]) (by kernel_rfl),
   Lib.run_overlaps_apart w 117 4 121 underlying117 2 (fun w=>by kernel_rfl) ⟨ub,0,none⟩ ⟨g,(i+1) *2,none⟩ 1 1 lb cb hub 121 121 2 (cap *2)
    (by simp[World.shape?,hu]) (by simp[World.shape?,hg,hsz]) (by omega) (by simp[World.frozen?,hu]) (by simp[World.frozen?,hu])]
  rfl
 have hHg:=hid hg;have hHu:=hid hu;have hHx:=hid hxs;have hHt:=hid htk;clear hg hu hxs htk;go_enter func106,ntmps106;go_wp2_with fail
 have hC1:∀W:World,W.heap[g]? =some (.cells cur 121 (0,0))→∀ty,(Builtin.copy_ #[117,117] ty #[.slice (some ⟨g,(i+1) *2,none⟩) (n - i) (cap - (i+1)),.slice (some ⟨g,i *2,none⟩) (n+1 - i) (cap - i)]).run prog W=.ok (goInt ((n - i:Nat):Int)) (W.setRow g (cur.toList.take (i *2+2)++xs.drop (i *2)++cur.toList.drop (i *2+2+(n - i) *2)).toArray):=fun W hW ty=>by
  obtain⟨i0,hi0,_,hi1,_⟩:=info_parts info_datum;have:=run_copy2 (P:=prog) W 117 117 ty 121 g ((i+1) *2) (n - i) (cap - (i+1)) ⟨g,i *2,none⟩ (n+1 - i) (cap - i) cur 121 (n - i) (xs.drop (i *2)) underlying117 (by rw[hi0];simp[hi1]) hW (by simp only[Nat.min_def];split <;> omega) (by rw[List.length_drop,hxl];omega)
   (fun j v hj=>by
     rw[add_plain,cell_of_row _ _ _ _ _ _ hW];rw[List.getElem?_drop,←hHt.out,List.getElem?_take]at hj;split at hj
     ·simpa using hj
     ·cases hj) (by omega) (fun v hv=>hHx.out v (List.mem_of_mem_drop hv))
  rw[show(i+1) *2=i *2+2 by omega]at this;rw[show(i+1) *2=i *2+2 by omega];exact this
 generalize hc1:cur.toList.take (i *2+2)++xs.drop (i *2)++cur.toList.drop (i *2+2+(n - i) *2)=c1 at *;have HC1:=hid hC1;have hl1:c1.length=cap *2:=by rw[←hc1];simp[hxl];omega
 clear hC1 hc1;have hgl:=lt_block hHg.out;refine wp_region_r2 mixed0 (by kernel_rfl) (fun _ _=>false) (kills_none _ _)
  (fun j W W'=>if j=8 then Kept (fun k=>k=g) W W' else Ext W W') (fun W=>Kept (fun k=>k=g) w W)
  (fun j v W=>match j with
    |0=>v=.slice (some ⟨g,0,none⟩) (n+1) cap
    |1=>v=.int .i64 i
    |2=>v=.int .i64 1
    |3=>v=.int .i64 ((i:Int)+1)
    |4=>v=.slice (some ⟨g,(i+1) *2,none⟩) (n - i) (cap - (i+1))
    |5=>v=.slice (some ⟨g,0,none⟩) (n+1) cap
    |6=>v=.int .i64 i
    |7=>v=.slice (some ⟨g,i *2,none⟩) (n+1 - i) (cap - i)
    |8=>W.heap[g]? =some (.cells c1.toArray 121 (0,0))
    |_=>True)
  (fun W=>W.heap[g]? =some (.cells cur 121 (0,0))) (fun j=>j==8) hHg.out ?_ (Kept.refl _ w).drew ?_ ?_ ?_ ?_
 ·intro j W W' hk hC hI hT;have h8:¬j=8:=by simpa using hk
  simp only[h8,if_false]at hT;exact(hT.block g (lt_block hI)).trans hI
 ·intro j W W' hC hT;by_cases h8:j=8
  ·simp only[h8,if_true]at hT;exact hC.trans hT
  ·simp only[h8,if_false]at hT;exact hC.trans (Kept.mono (Kept.of_ext hT) (fun _ _ h=>h.elim))
 ·intro i' j v W W' hij hk hw hC hR hT;by_cases h8:j=8
  ·subst h8;have h8:¬i'=8:=hij;simp only[h8,if_false]at hT;have hR:W.heap[g]? =some (.cells c1.toArray 121 (0,0)):=hR;exact(hT.block g (lt_block hR)).trans hR
  ·rcases j with _|_|_|_|_|_|_|_|_|j
   all_goals first
    |exact trivial
    |exact hR
    |exact absurd rfl h8
 ·intro j o hio vals W hC haf hI0;rcases j with _|_|_|_|_|_|_|_|_|j
  all_goals first
   |(exfalso;simp at hio;done)
   |skip
  all_goals
   simp at hio;subst hio;simp[bindD,rdB,Region.binds]at haf
  all_goals first
   |(simp[opU,go_sem,haf,hiw,Ext.refl];done)
   |skip
  ·have e:=slice_from W g (n+1) cap (i+1) ((i:Int)+1) (by omega) (by omega) (by omega) hroom;rw[show n+1 - (i+1)=n - i by omega]at e;simp[opU,go_sem,haf,e,Ext.refl]
  ·have e:=slice_from W g (n+1) cap i (i:Int) rfl (by omega) (by omega) hroom;simp[opU,go_sem,haf,e,Ext.refl]
  ·have hI:=hI0 (fun k hk hk2=>.inl (by simpa using hk2));have e:=HC1.out W hI;simp[opU,go_sem,haf,e];exact⟨(Kept.of_grown (setRow_grown W g _)).mono (fun k _ h=>by cases h;rfl),setRow_block W g _ _ _ _ hI⟩
 ·intro vals W hC hR;have h8:=hR 8 (by show 8 < 9;omega) (fun _ _=>rfl);have h8:W.heap[g]? =some (.cells c1.toArray 121 (0,0)):=h8;have hu8:=(hC.block ub (lt_block hHu.out) hub).trans hHu.out
  have hC2:∀ty,(Builtin.copy_ #[117,117] ty #[.slice (some ⟨g,i *2,none⟩) (n+1 - i) (cap - i),.slice (some ⟨ub,0,none⟩) 1 1]).run prog W=.ok (goInt ((1:Nat):Int)) (W.setRow g (c1.take (i *2)++[u1,u2]++c1.drop (i *2+1 *2)).toArray):=fun ty=>by
   obtain⟨i0,hi0,_,hi1,_⟩:=info_parts info_datum;have:=run_copy2 (P:=prog) W 117 117 ty 121 g (i *2) (n+1 - i) (cap - i) ⟨ub,0,none⟩ 1 1 c1.toArray 121 1 [u1,u2] underlying117 (by rw[hi0];simp[hi1]) h8 (by simp only[Nat.min_def];split <;> omega) rfl
    (fun j v hj=>by
      rw[add_plain,cell_of_row _ _ _ _ _ _ hu8,Nat.zero_add];simpa using hj) (by simp[hl1];omega) (fun v hv=>by
      rcases List.mem_cons.1 hv with rfl|hv
      ·exact h1
      ·rcases List.mem_cons.1 hv with rfl|hv
       ·exact h2
       ·cases hv)
   simpa using this
  have hm:=HM.out;have hb:=setRow_block W g (c1.take (i *2)++[u1,u2]++c1.drop (i *2+1 *2)).toArray _ _ _ h8;have hk2:=hC.trans ((Kept.of_grown (setRow_grown W g (c1.take (i *2)++[u1,u2]++c1.drop (i *2+1 *2)).toArray)).mono (fun k _ h=>by cases h;rfl))
  have HOWN:=hid (row2_of (n:=n+1) (xs:=xs.take (i *2)++[u1,u2]++xs.drop (i *2)) hb hgB hroom hMx (by simpa using hm.1.trans (by simpa using hsz)) (by simp[hxl];omega) hm.2);generalize W.setRow g (c1.take (i *2)++[u1,u2]++c1.drop (i *2+1 *2)).toArray=W2 at *;clear hm hb hR h8 hu8;simp[relAct,dstAt,Act.put];generalize vals 0=y0,vals 1=y1;generalize vals 2=y2,vals 3=y3
  generalize vals 4=y4,vals 5=y5;generalize vals 6=y6,vals 7=y7,vals 8=y8;have e:=fun W=>slice_from W g (n+1) cap i (i:Int) rfl (by omega) (by omega) hroom;go_wp2_with fail;go_ret;exact⟨rfl,by simpa using HOWN.out,hk2⟩
theorem InsertGrow(B g n i:Nat)(xs:List Value)(ub:Nat)(u1 u2:Value)(w:World)(cur:Array Value)(hg:w.heap[g]? =some (.cells cur 121 (0,0)))(hgB:B≤w.heap.size)(hsz:cur.size=n *2)(htk:cur.toList.take (n *2)=xs)(hu:w.heap[ub]? =some (.cells #[u1,u2] 121 (0,0)))
 (hub:ub≠g) (h1:u1.oneCell'=true) (h2:u2.oneCell'=true) (hxs:∀x∈xs,x.oneCell'=true) (hi:i < n) (hn:n≤1000000):
 Calls prog 106 #[.slice (some ⟨g,0,none⟩) n n,.int .i64 i,.slice (some ⟨ub,0,none⟩) 1 1] w fun e w'=>∃C,e=.returned (.slice (some ⟨w.heap.size,0,none⟩) (n+1) C)∧w'.ownsRow B 121 2 (.slice (some ⟨w.heap.size,0,none⟩) (n+1) C) (n+1) (xs.take (i *2)++[u1,u2]++xs.drop (i *2))∧Ext w w':=by
 have hxl:xs.length=n *2:=by rw[←htk];simp;omega
 obtain⟨i0,hi0,hiz,hi1,hi2⟩:=info_parts info_datum;have hgl:=lt_block hg;have hul:=lt_block hu
 have hap:∀ty,∃C,∃c0:List Value,n+1≤C∧C≤maxLen∧c0.length=C *2∧c0.take (i *2)=xs.take (i *2)∧(Builtin.append_ #[117,3] ty #[.slice (some ⟨g,0,none⟩) i n,.int .i64 ((n:Int)+1 - i)]).run prog w=.ok (.slice (some ⟨w.heap.size,0,none⟩) (n+1) C) (w.drew.alloc (.cells c0.toArray 121)):=fun ty=>by
  have hol:(Builtin.firstCells i0.size i (.slice (some ⟨g,0,none⟩) i n)).run prog w.drew=.ok (xs.take (i *2)).toArray w.drew:=by
   have:=run_loadCells_list (P:=prog) w.drew ⟨g,0,none⟩ (xs.take (i *2)) (fun j v hj=>by
    rw[add_plain];show w.cell? _=_;rw[cell_of_row _ _ _ _ _ _ hg,Nat.zero_add];rw[List.getElem?_take]at hj;split at hj
    ·rw[←htk,List.getElem?_take]at hj;split at hj
     ·simpa using hj
     ·cases hj
    ·cases hj)
   rw[show(xs.take (i *2)).length=i *2 by simp[hxl];omega]at this;simpa[Builtin.firstCells,hi1]using this
  have hk:((n:Int)+1 - i)=((n+1 - i:Nat):Int):=by omega
  have hs1:i+(n+1 - i)=n+1:=by omega
  have:=Lib.run_append_grow_zeros w 117 3 ty 121 i0 (.agg #[.slice none 0 0,.slice none 0 0]) .i64 .i64 underlying117 underlying3 hi0 hiz (some ⟨g,0,none⟩) i n (xs.take (i *2)) hol (n+1 - i) (by omega) (by omega) (by omega) (by omega) (by rw[hi2];omega) (growslice_fits (by omega) (by rw[hi2];omega));rw[hs1]at this
  refine⟨grownCap w (n+1) n 121,((xs.take (i *2)).toArray++Builtin.zeroCells (Value.agg #[.slice none 0 0,.slice none 0 0]).cells (n+1 - i)++Builtin.zeroCells (Value.agg #[.slice none 0 0,.slice none 0 0]).cells (grownCap w (n+1) n 121 - (n+1))).toList,grownCap_ge _ _ _ _,grownCap_le_maxLen _ _ _ _ (by unfold maxLen;omega), ?_, ?_, ?_⟩
  ·have hz:∀k,(Builtin.zeroCells (Value.agg #[.slice none 0 0,.slice none 0 0]).cells k).size=k *2:=fun k=>by rw[size_zeroCells];rfl
   have:=grownCap_ge w (n+1) n 121;simp[hz,hxl];omega
  ·rw[Array.toList_append,Array.toList_append,List.append_assoc,List.take_append_of_le_length (by simp[hxl];omega)];simp[List.take_take]
  ·rw[hk,this]
 have HAP:=hid hap;have hHg:=hid hg;have hHu:=hid hu;have hHx:=hid hxs;have hHt:=hid htk;clear hg hu hxs htk hap hi0 hiz hi1 hi2 hgl hul;go_enter func106,ntmps106
 go_upto_region 9 with fail
 obtain⟨C,c0,hC1,hC2,hC3,hC4,hC5⟩:=HAP.out 108;have HC2:=hid hC2;unfold maxLen at hC2;have hb1:Ext w (w.drew.alloc (.cells c0.toArray 121)):=Below.alloc ((⟨rfl,rfl,rfl,Nat.le_refl _,fun _ _=>rfl⟩:Below w.heap.size w w.drew)) (Nat.le_refl _) _;have hn1:(w.drew.alloc (.cells c0.toArray 121)).heap[w.heap.size]? =some (.cells c0.toArray 121 (0,0)):=heap_alloc_new w.drew _
 have hl0:=lt_block hHg.out;have hlu:=lt_block hHu.out;have hne:ub≠w.heap.size:=by omega
 have hg1:=(hb1.block g hl0).trans hHg.out;have hu1:=(hb1.block ub hlu).trans hHu.out;generalize w.drew.alloc (.cells c0.toArray 121)=W1 at *;have hnew:=cur_new c0 xs n i u1 u2 hi hxl (by omega) hC4;obtain⟨hN,hh⟩:∃h,w.heap.size=h:=⟨_,rfl⟩
 have hb1':Below hN w W1:=by rw[←hh];exact hb1
 rw[hh]at hn1 hC5 hne hl0 hlu;have hcp1:∀ty,(Builtin.copy_ #[117,117] ty #[.slice (some ⟨hN,i *2,none⟩) (n+1 - i) (C - i),.slice (some ⟨ub,0,none⟩) 1 1]).run prog W1=.ok (goInt ((1:Nat):Int)) (W1.setRow hN (c0.take (i *2)++[u1,u2]++c0.drop (i *2+1 *2)).toArray):=fun ty=>by
  obtain⟨i0,hi0,_,hi1,_⟩:=info_parts info_datum;have:=run_copy2 (P:=prog) W1 117 117 ty 121 hN (i *2) (n+1 - i) (C - i) ⟨ub,0,none⟩ 1 1 c0.toArray 121 1 [u1,u2] underlying117 (by rw[hi0];simp[hi1]) hn1 (by simp only[Nat.min_def];split <;> omega) rfl
   (fun j v hj=>by
     rw[add_plain,cell_of_row _ _ _ _ _ _ hu1,Nat.zero_add];simpa using hj) (by simp;omega) (fun v hv=>by
     rcases List.mem_cons.1 hv with rfl|hv
     ·exact h1
     ·rcases List.mem_cons.1 hv with rfl|hv
      ·exact h2
      ·cases hv)
  simpa using this
 have hn2:=setRow_block W1 hN (c0.take (i *2)++[u1,u2]++c0.drop (i *2+1 *2)).toArray _ _ _ hn1;have hk2:Kept (fun k=>k=hN) W1 _:=(Kept.of_grown (setRow_grown W1 hN (c0.take (i *2)++[u1,u2]++c0.drop (i *2+1 *2)).toArray)).mono (fun k _ h=>by cases h;rfl);obtain⟨hnl1,hnl2,hnl3⟩:=hnew;generalize hc1:c0.take (i *2)++[u1,u2]++c0.drop (i *2+1 *2)=c1 at *;generalize W1.setRow hN c1.toArray=W2 at *
 have hg2:=(hk2.block g (lt_block hg1) (by omega)).trans hg1;have hb2:Ext w W2:=by
  have hb1w:Below w.heap.size w W1:=hb1;exact hb1w.trans (hk2.below (B:=w.heap.size) hb1.size (fun k hk e=>by omega))
 generalize hc2:c1.take (i *2+2)++xs.drop (i *2)++c1.drop (i *2+2+(n - i) *2)=c2 at *
 have hcp2:∀W:World,W.heap[g]? =some (.cells cur 121 (0,0))→W.heap[hN]? =some (.cells c1.toArray 121 (0,0))→∀ty,(Builtin.copy_ #[117,117] ty #[.slice (some ⟨hN,(i+1) *2,none⟩) (n - i) (C - (i+1)),.slice (some ⟨g,i *2,none⟩) (n - i) (n - i)]).run prog W=.ok (goInt ((n - i:Nat):Int)) (W.setRow hN c2.toArray):=fun W hW hW2 ty=>by
  obtain⟨i0,hi0,_,hi1,_⟩:=info_parts info_datum;have:=run_copy2 (P:=prog) W 117 117 ty 121 hN ((i+1) *2) (n - i) (C - (i+1)) ⟨g,i *2,none⟩ (n - i) (n - i) c1.toArray 121 (n - i) (xs.drop (i *2)) underlying117 (by rw[hi0];simp[hi1]) hW2 (Nat.min_self _) (by rw[List.length_drop,hxl];omega)
   (fun j v hj=>by
     rw[add_plain,cell_of_row _ _ _ _ _ _ hW];rw[List.getElem?_drop,←hHt.out,List.getElem?_take]at hj;split at hj
     ·simpa using hj
     ·cases hj) (by simp[hnl1];omega) (fun v hv=>hHx.out v (List.mem_of_mem_drop hv))
  rw[show(i+1) *2=i *2+2 by omega]at this;rw[show(i+1) *2=i *2+2 by omega];rw[this];congr 2;rw[←hc2]
 have HCP:=hid hcp2;have hgh:g≠hN:=by omega
 have HG2:=hid hg2;have HN2:=hid hn2;have HOW:Hid (∀W:World,W.heap[hN]? =some (.cells c2.toArray 121 (0,0))→W.ownsRow B 121 2 (.slice (some ⟨hN,0,none⟩) (n+1) C) (n+1) (xs.take (i *2)++[u1,u2]++xs.drop (i *2))):=hid fun W hW=>row2_of hW (by omega) hC1 HC2.out (by simp;omega) (by simp[hxl];omega) (by simpa using hnl3)
 have e1:=fun W=>slice_from W hN (n+1) C i (i:Int) rfl (by omega) (by omega) hC1;clear hcp2 hc1 hc2 hg2 hn2 hnl1 hnl2 hnl3 hC4 hn1 hg1 hu1 hk2
 go_wp2_with (first|(at_builtin;refine wpList_appendE rfl _ _ _ rfl rfl rfl hC5 ?_))
 have hgl2:=lt_block HG2.out;have hiw:IntKind.i64.wrap ((i:Int)+1)=(i:Int)+1:=by rw[IntKind.wrap_i64];omega
 refine wp_region_r2 mixed0 (by kernel_rfl) (fun _ _=>false) (kills_none _ _)
  (fun j W W'=>if j=8 then Kept (fun k=>k=hN) W W' else Ext W W') (fun W=>Kept (fun k=>k=hN) W2 W)
  (fun j v W=>match j with
    |0=>v=.slice (some ⟨hN,0,none⟩) (n+1) C
    |1=>v=.int .i64 i
    |2=>v=.int .i64 1
    |3=>v=.int .i64 ((i:Int)+1)
    |4=>v=.slice (some ⟨hN,(i+1) *2,none⟩) (n - i) (C - (i+1))
    |5=>v=.slice (some ⟨g,0,none⟩) n n
    |6=>v=.int .i64 i
    |7=>v=.slice (some ⟨g,i *2,none⟩) (n - i) (n - i)
    |8=>W.heap[hN]? =some (.cells c2.toArray 121 (0,0))
    |_=>True)
  (fun W=>W.heap[hN]? =some (.cells c1.toArray 121 (0,0))) (fun j=>j==8) HN2.out ?_ (Kept.refl _ W2).drew ?_ ?_ ?_ ?_
 ·intro j W W' hk hC hI hT;have h8:¬j=8:=by simpa using hk
  simp only[h8,if_false]at hT;exact(hT.block hN (lt_block hI)).trans hI
 ·intro j W W' hC hT;by_cases h8:j=8
  ·simp only[h8,if_true]at hT;exact hC.trans hT
  ·simp only[h8,if_false]at hT;exact hC.trans (Kept.mono (Kept.of_ext hT) (fun _ _ h=>h.elim))
 ·intro i' j v W W' hij hk hw hC hR hT;by_cases h8:j=8
  ·subst h8;have h8:¬i'=8:=hij;simp only[h8,if_false]at hT;have hR:W.heap[hN]? =some (.cells c2.toArray 121 (0,0)):=hR;exact(hT.block hN (lt_block hR)).trans hR
  ·rcases j with _|_|_|_|_|_|_|_|_|j
   all_goals first
    |exact trivial
    |exact hR
    |exact absurd rfl h8
 ·intro j o hio vals W hC haf hI0;rcases j with _|_|_|_|_|_|_|_|_|j
  all_goals first
   |(exfalso;simp at hio;done)
   |skip
  all_goals
   simp at hio;subst hio;simp[bindD,rdB,Region.binds]at haf
  all_goals first
   |(simp[opU,go_sem,haf,hiw,Ext.refl];done)
   |skip
  ·have e:=slice_from W hN (n+1) C (i+1) ((i:Int)+1) (by omega) (by omega) (by omega) hC1;rw[show n+1 - (i+1)=n - i by omega]at e;simp[opU,go_sem,haf,e,Ext.refl]
  ·have e:=slice_from W g n n i (i:Int) rfl (by omega) (by omega) (Nat.le_refl _);simp[opU,go_sem,haf,e,Ext.refl]
  ·have hI:=hI0 (fun k hk hk2=>.inl (by simpa using hk2));have hgW:=(hC.block g hgl2 hgh).trans HG2.out;have e:=HCP.out W hgW hI;simp[opU,go_sem,haf,e];exact⟨(Kept.of_grown (setRow_grown W hN _)).mono (fun k _ h=>by cases h;rfl),setRow_block W hN _ _ _ _ hI⟩
 ·intro vals W hC hR;have h8:=hR 8 (by show 8 < 9;omega) (fun _ _=>rfl);have HOWN:=hid (HOW.out W h8);have hb3:Ext w W:=by
   have hb2w:Below w.heap.size w W2:=hb2;exact hb2w.trans (hC.below (B:=w.heap.size) hb2w.size (fun k hk e=>by omega))
  clear hR h8;simp[relAct,dstAt,Act.put];generalize vals 0=y0,vals 1=y1;generalize vals 2=y2,vals 3=y3;generalize vals 4=y4,vals 5=y5;generalize vals 6=y6,vals 7=y7,vals 8=y8;go_wp2_with fail;go_ret;subst hh;exact⟨C,rfl,by simpa using HOWN.out,hb3⟩
theorem InsertAt(B:Nat)(v:Value)(n i:Nat)(xs:List Value)(ub:Nat)(u1 u2:Value)(w:World)(hown:w.ownsRow B 121 2 v n xs)(hB:B≤w.heap.size)(hu:w.heap[ub]? =some (.cells #[u1,u2] 121 (0,0)))
 (hub:v.ownBlock≠some ub) (h1:u1.oneCell'=true) (h2:u2.oneCell'=true) (hxs:∀x∈xs,x.oneCell'=true) (hi:i≤n) (hn:n≤1000000):
 Calls prog 106 #[v,.int .i64 i,.slice (some ⟨ub,0,none⟩) 1 1] w fun e w'=>∃v',e=.returned v'∧w'.ownsRow B 121 2 v' (n+1) (xs.take (i *2)++[u1,u2]++xs.drop (i *2))∧Moved v w v' w':=by
 by_cases hin:i=n
 ·subst hin;refine(InsertEnd B v i xs ub u1 u2 (0,0) w hown hB hu hub h1 h2 hn).mono ?_;rintro e w' ⟨v',h3,h4,h5⟩;refine⟨v',h3, ?_,h5⟩;have hl:=hown.1;rw[List.take_of_length_le (by omega),List.drop_of_length_le (by omega),List.append_nil];exact h4
 ·rcases hown.2 with⟨_,h0⟩|⟨g,cap,cur,rfl,hg,hh,hc1,hc2,hsz,htk⟩
  ·omega
  ·have hne:ub≠g:=fun e=>hub (by subst e;rfl);by_cases hr:n+1≤cap
   ·refine(InsertRoom B g n cap i xs ub u1 u2 w cur hh hg hc2 hsz htk hu hne h1 h2 hxs (by omega) hr).mono ?_;rintro e w' ⟨h3,h4,h5⟩;exact⟨_,h3,h4,h5.mono (fun k _ hk=>by rw[hk];rfl),fun b hb=>.inl hb⟩
   ·have:cap=n:=by omega
    subst this;refine(InsertGrow B g cap i xs ub u1 u2 w cur hh hB hsz htk hu hne h1 h2 hxs (by omega) hn).mono ?_;rintro e w' ⟨C,h3,h4,h5⟩;exact⟨_,h3,h4,(Kept.of_ext h5).mono (fun _ _ h=>h.elim),fun b hb=>.inr (by cases hb;exact Nat.le_refl _)⟩
def Ents(D:DataW Unit)(es:List (Lit×DataW Unit)):Prop:=∃l,D=.map l∧l.Perm es
def KApart(es:List (Lit×DataW Unit)):Prop:=es.Pairwise fun a b=>a.1≠b.1
theorem KApart.perm{a b:List (Lit×DataW Unit)}(h:KApart a)(hp:a.Perm b):KApart b:=(hp.pairwise_iff (fun h=>Ne.symm h)).1 h
theorem sameKey_self{k:Lit}(hk:WideAt.IsKeyLit k):k.sameKey k=true:=by cases k <;> first|(simp[Lit.sameKey];done)|(cases hk)
theorem Ents.at_mem{D:DataW Unit}{es:List (Lit×DataW Unit)}(h:Ents D es)(ha:KApart es){k:Lit}{d:DataW Unit}(hk:WideAt.IsKeyLit k)(hm:(k,d)∈es)(z:DataW Unit):D.atKey k z=d:=by
 obtain⟨l,rfl,hp⟩:=h;have hm':(k,d)∈l:=hp.mem_iff.2 hm;have ha':=ha.perm hp.symm;clear hm ha hp es;unfold DataW.atKey;have:l.find? (fun p=>p.1.sameKey k)=some (k,d):=by
  induction l with
  |nil=>cases hm'
  |cons x xs ih=>
   rw[List.find?_cons];rcases List.mem_cons.1 hm' with e|e
   ·subst e;simp only[sameKey_self hk]
   ·have hne:=(List.pairwise_cons.1 ha').1 _ e;rw[Maps.sameKey_ne hne];exact ih e (List.pairwise_cons.1 ha').2
 simp only[this]
theorem Ents.at_not{D:DataW Unit}{es:List (Lit×DataW Unit)}(h:Ents D es){k:Lit}(hm:∀p∈es,p.1≠k)(z:DataW Unit):D.atKey k z=z:=by
 obtain⟨l,rfl,hp⟩:=h;unfold DataW.atKey;have:l.find? (fun p=>p.1.sameKey k)=none:=by
  rw[List.find?_eq_none];intro x hx e;rw[Maps.sameKey_ne (hm x (hp.mem_iff.1 hx))]at e;cases e
 simp only[this]
theorem Ents.size{D:DataW Unit}{es:List (Lit×DataW Unit)}(h:Ents D es):Maps.size D=es.length:=by
 obtain⟨l,rfl,hp⟩:=h;rw[Maps.size_eq,hp.length_eq]
theorem insert_perm(x:Lit×DataW Unit):∀l:List (Lit×DataW Unit),(DataW.insert x l).Perm (x::l)
 |[]=>List.Perm.refl _
 |y::r=>by
  unfold DataW.insert;split
  ·exact List.Perm.refl _
  ·exact((insert_perm x r).cons y).trans (List.Perm.swap x y r)
theorem Ents.put{D:DataW Unit}{es:List (Lit×DataW Unit)}(h:Ents D es){k:Lit}(hm:∀p∈es,p.1≠k)(d:DataW Unit):Ents (D.put k d) (es++[(k,d)]):=by
 obtain⟨l,rfl,hp⟩:=h;refine⟨_,rfl,(insert_perm _ _).trans ?_⟩;have:l.filter (fun p=> !p.1.sameKey k)=l:=List.filter_eq_self.2 fun x hx=>by rw[Maps.sameKey_ne (hm x (hp.mem_iff.1 hx))];rfl
 rw[this];exact(hp.cons _).trans (List.perm_append_singleton _ _).symm
theorem Ents.del{D:DataW Unit}{es:List (Lit×DataW Unit)}(h:Ents D es)(k:Lit):Ents (D.del k) (es.filter fun p=> !p.1.sameKey k):=by
 obtain⟨l,rfl,hp⟩:=h;exact⟨_,rfl,hp.filter _⟩
theorem Ents.empty:Ents (.map []) []:=⟨[],rfl,List.Perm.refl _⟩
theorem Ents.perm{D:DataW Unit}{a b:List (Lit×DataW Unit)}(h:Ents D a)(hp:a.Perm b):Ents D b:=by
 obtain⟨l,e,h⟩:=h;exact⟨l,e,h.trans hp⟩
structure StG(w:World)(B x bs s:Nat)(n:List Lab)(ttl:Int)(v:Value)(ds:List (Blob×Blob))(N2:Nat)(D2:DataW Unit):Prop where
 node:∃A c,w.heap[x]? =some (.cells #[.slice A n.length c,.map (some bs)] 112 (0,0))∧w.ownsRow B 9 1 (.slice A n.length c) n.length ((lower n).map strV)
 sets:w.ownsMap prog 36 ptrR bs N2 D2
 set:w.heap[s]? =some (.cells #[.int .u32 ttl,v] 119 (0,0))
 row:w.ownsRow B 121 2 v ds.length (datC ds)
 dat:DatOwn w B ds
 h1:B≤bs
 h2:B≤s
structure Foc(w:World)(B z bn bb x bs s:Nat)(ap n:List Lab)(t ttl:Int)(v:Value)(ds:List (Blob×Blob))(c:Int)(D D2:DataW Unit)(f:Lab→Int)(N N2:Nat):Prop where
 zn:Zn w B z bn bb ap c D f N
 st:StG w B x bs s n ttl v ds N2 D2
 n1:bs≠bn
 n2:bs≠bb
 hD:D.atKey (.string (zkey n)) .nil=ptrD (some x)
 hD2:D2.atKey (.int .u16 t) .nil=ptrD (some s)
theorem StG.ext{w w':World}{B x bs s:Nat}{n:List Lab}{ttl:Int}{v:Value}{ds:List (Blob×Blob)}{N2:Nat}{D2:DataW Unit}(h:StG w B x bs s n ttl v ds N2 D2)(hB:B≤w.heap.size)(hb:Below w.heap.size w w'):StG w' B x bs s n ttl v ds N2 D2:=by
 have hg:w.grownBy w' none:=⟨hb.os,hb.tape,hb.output,hb.size,fun k hk _=>hb.block k hk⟩
 obtain⟨A,c,h1,h2⟩:=h.node;exact⟨⟨A,c,(hb.block _ (lt_block h1)).trans h1,own_below h2 hb⟩,h.sets.kept hg (by simp),(hb.block _ (lt_block h.set)).trans h.set,own_below h.row hb,h.dat.turn (Turn.of_ext hb hB),h.h1,h.h2⟩
section
variable {w w' W:World} {B z bn bb x bs s:Nat} {ap n:List Lab} {t ttl ttl2:Int} {v v2:Value} {ds:List (Blob×Blob)} {c:Int} {D D2:DataW Unit} {f:Lab→Int} {N N2:Nat}
theorem Foc.size(h:Foc w B z bn bb x bs s ap n t ttl v ds c D D2 f N N2):B≤w.heap.size:=Nat.le_trans h.st.h2 (Nat.le_of_lt (lt_block h.st.set))
theorem Foc.ext(h:Foc w B z bn bb x bs s ap n t ttl v ds c D D2 f N N2)(hb:Below w.heap.size w w'):Foc w' B z bn bb x bs s ap n t ttl v ds c D D2 f N N2:=
 ⟨h.zn.ext hb,h.st.ext h.size hb,h.n1,h.n2,h.hD,h.hD2⟩
theorem Foc.put(h:Foc w B z bn bb x bs s ap n t ttl v ds c D D2 f N N2)(hk:Kept (fun k=>k=s) w w')(hs:w'.heap[s]? =some (.cells #[.int .u32 ttl2,v] 119 (0,0))):
 Foc w' B z bn bb x bs s ap n t ttl2 v ds c D D2 f N N2∧Turn B w w':=by
 have hZ:Zonal (fun k=>k=s) w:=Zonal.cells h.st.set (.inr (.inl rfl));obtain⟨A,ca,g1,g2⟩:=h.zn.blk;obtain⟨A',c',g5,g6⟩:=h.st.node;obtain⟨E,g3,g4⟩:=h.zn.below
 refine⟨⟨h.zn.kept hk hZ (ne_cells g1 h.st.set (by decide)) (ne_map h.zn.nodes h.st.set) (ne_map g3 h.st.set),⟨⟨A',c',cells_zonal g5 hk hZ zT_node,row_zonal g6 hk hZ zT_str⟩,ownsMap_block h.st.sets (hk.block _ h.st.sets.lt (ne_map h.st.sets h.st.set)),hs, ?_,h.st.dat.zonal hk hZ,h.st.h1,h.st.h2⟩,h.n1,h.n2,h.hD,h.hD2⟩,Turn.zonal hk hZ h.size (fun k e=>by rw[e];exact h.st.h2)⟩
 refine Kept.row h.st.row hk fun k hkb e=> ?_;obtain⟨cs,h1,_⟩:=row_block h.st.row hkb;exact ne_cells h1 h.st.set (by decide) e
end
def insD(ds:List (Blob×Blob))(p:Nat)(d:Blob×Blob):List (Blob×Blob):=ds.take p++[d]++ds.drop p
theorem insD_len(ds:List (Blob×Blob))(p:Nat)(d:Blob×Blob)(h:p≤ds.length):(insD ds p d).length=ds.length+1:=by simp[insD];omega
theorem datC_len(ds:List (Blob×Blob)):(datC ds).length=ds.length *2:=by
 induction ds with
 |nil=>rfl
 |cons d ds ih=>
  have e:datC (d::ds)=d.1.v::d.2.v::datC ds:=rfl;rw[e];simp[ih];omega
theorem datC_append(a b:List (Blob×Blob)):datC (a++b)=datC a++datC b:=by simp[datC]
theorem datC_split(ds:List (Blob×Blob))(p:Nat):(datC ds).take (p *2)=datC (ds.take p)∧(datC ds).drop (p *2)=datC (ds.drop p):=by
 have h:=datC_append (ds.take p) (ds.drop p);rw[List.take_append_drop]at h;by_cases hp:p≤ds.length
 ·have hl:(datC (ds.take p)).length=p *2:=by rw[datC_len,List.length_take];omega
  rw[h];exact⟨by rw[List.take_append_of_le_length (by omega),List.take_of_length_le (by omega)],by rw[List.drop_append_of_le_length (by omega),List.drop_of_length_le (by omega),List.nil_append]⟩
 ·have hl:=datC_len ds;rw[List.take_of_length_le (by omega),List.drop_of_length_le (by omega),List.take_of_length_le (by omega),List.drop_of_length_le (by omega)];exact⟨rfl,rfl⟩
theorem datC_ins(ds:List (Blob×Blob))(p:Nat)(d:Blob×Blob):(datC ds).take (p *2)++[d.1.v,d.2.v]++(datC ds).drop (p *2)=datC (insD ds p d):=by
 obtain⟨h1,h2⟩:=datC_split ds p;rw[h1,h2];unfold insD;rw[datC_append,datC_append];rfl
theorem datC_one(ds:List (Blob×Blob)):∀x∈datC ds,x.oneCell'=true:=by
 intro x hx;unfold datC at hx;obtain⟨d,_,hd⟩:=List.mem_flatMap.1 hx;rcases List.mem_cons.1 hd with rfl|hd
 ·rfl
 ·rcases List.mem_cons.1 hd with rfl|hd
  ·rfl
  ·cases hd
structure RecG(n ap:List Lab)(t:Int)(d c:Lab)(cn cd:Nat):Prop where
 small:Small n
 name:nameE n=0
 inn:within n ap=true
 chk:∀A W,Cs W A (d.map byteV)→Calls prog 81 #[.int .u16 t,.slice A d.length cd] W fun e w'=>Below W.heap.size W w'∧e=.returned (.int .i64 0)
 wf:(Lit.int .u16 t).wf=true
 can:∀A W,Cs W A (d.map byteV)→Calls prog 103 #[.int .u16 t,.slice A d.length cd] W fun e w'=>Below W.heap.size W w'∧∃v,e=.returned v∧w'.ownsRow W.heap.size 5 1 v c.length (c.map byteV)
 len:d.length≤100000
 cap1:n.length≤cn
 cap2:cn≤maxLen
 cap3:d.length≤cd
 cap4:cd≤maxLen
theorem Rec.to{n ap:List Lab}{t:Int}{d:Lab}{cn cd:Nat}(h:Rec n ap t d cn cd):RecG n ap t d (canonD t d) cn cd:=
 ⟨h.small,h.name,h.inn,fun A W hA=>by
  have:=CheckE t h.easy A d cd W hA h.len h.cap3 h.cap4;rw[h.data]at this;exact this,h.wf,fun A W hA=>ZCanon t h.easy A d cd W hA h.len h.cap3 h.cap4,h.len,h.cap1,h.cap2,h.cap3,h.cap4⟩
structure More(w w':World)(B z bn bb s:Nat)(ap:List Lab)(c:Int)(D:DataW Unit)(f:Lab→Int)(N:Nat)(ttl:Int)(v v2:Value)(ds:List (Blob×Blob))(S:Nat→Prop):Prop where
 kept:Kept S w w'
 zn:Zn w' B z bn bb ap c D f N
 set:w'.heap[s]? =some (.cells #[.int .u32 ttl,v2] 119 (0,0))
 row:w'.ownsRow B 121 2 v2 ds.length (datC ds)
 dat:DatOwn w' B ds
 at_:∀k,v2.ownBlock=some k→some k=v.ownBlock∨w.heap.size≤k
theorem More.before{w0 w w':World}{B z bn bb s:Nat}{ap:List Lab}{c:Int}{D:DataW Unit}{f:Lab→Int}{N:Nat}{ttl:Int}{v v2:Value}{ds:List (Blob×Blob)}{S S0:Nat→Prop}(h:More w w' B z bn bb s ap c D f N ttl v v2 ds S)(hk:Kept S0 w0 w)(hS:∀k,k < w0.heap.size→S k→S0 k):More w0 w' B z bn bb s ap c D f N ttl v v2 ds S0:=
 ⟨hk.then h.kept hS,h.zn,h.set,h.row,h.dat,fun k hk2=>by
  rcases h.at_ k hk2 with e|e
  ·exact .inl e
  ·exact .inr (Nat.le_trans hk.size e)⟩
def ins2(xs:List Value)(p:Nat)(a b:Value):List Value:=xs.take (p *2)++[a,b]++xs.drop (p *2)
theorem ins2_datC(ds:List (Blob×Blob))(p:Nat)(b1 b2:Blob):ins2 (datC ds) p b1.v b2.v=datC (insD ds p (b1,b2)):=datC_ins ds p (b1,b2)
theorem DatOwn.ins{w:World}{B:Nat}{ds:List (Blob×Blob)}(h:DatOwn w B ds)(p:Nat){b1 b2:Blob}(h1:BlobOwn w B b1)(h2:BlobOwn w B b2):DatOwn w B (insD ds p (b1,b2)):=by
 intro d hd;unfold insD at hd;rcases List.mem_append.1 hd with hd|hd
 ·rcases List.mem_append.1 hd with hd|hd
  ·exact h d (List.mem_of_mem_take hd)
  ·rcases List.mem_cons.1 hd with rfl|hd
   ·exact⟨h1,h2⟩
   ·cases hd
 ·exact h d (List.mem_of_mem_drop hd)
theorem Foc.more{w W:World}{B z bn bb x bs s:Nat}{ap n:List Lab}{t ttl:Int}{v v2:Value}{ds:List (Blob×Blob)}{c:Int}{D D2:DataW Unit}{f:Lab→Int}{N N2:Nat}{b1 b2:Blob}(h:Foc w B z bn bb x bs s ap n t ttl v ds c D D2 f N N2)(hk:Kept (fun k=>k=s∨some k=v.ownBlock) w W)
 (hs:W.heap[s]? =some (.cells #[.int .u32 ttl,v2] 119 (0,0))) (p:Nat) (hp:p≤ds.length) (hr:W.ownsRow B 121 2 v2 (ds.length+1) (ins2 (datC ds) p b1.v b2.v)) (h1:BlobOwn W B b1) (h2:BlobOwn W B b2)
 (hat:∀k,v2.ownBlock=some k→some k=v.ownBlock∨w.heap.size≤k):
 More w (W.setCell ⟨z,3,none⟩ (.int .i64 (c+1))) B z bn bb s ap (c+1) D f N ttl v v2 (insD ds p (b1,b2)) (fun k=>k=z∨k=s∨some k=v.ownBlock):=by
 have hZ:Zonal (fun k=>k=s∨some k=v.ownBlock) w:=by
  intro k hk2;rcases hk2 with e|e
  ·exact Zonal.cells h.st.set (.inr (.inl rfl)) k e
  ·exact Zonal.row h.st.row k e
 obtain⟨A,ca,g1,g2⟩:=h.zn.blk;obtain⟨E,g3,g4⟩:=h.zn.below;have hrow:∀k,some k=v.ownBlock→∃cs,w.heap[k]? =some (.cells cs 121 (0,0))∧B≤k:=fun k e=>row_block h.st.row e.symm;have hnz:¬(z=s∨some z=v.ownBlock):=by
  rintro(e|e)
  ·exact ne_cells g1 h.st.set (by decide) e
  ·obtain⟨cs,e1,_⟩:=hrow z e;exact ne_cells g1 e1 (by decide) rfl
 have hnm:∀{k:TypeId} {R:Value→Option (DataW Unit×List MemPlace)} {b n:Nat} {D:DataW Unit},w.ownsMap prog k R b n D→¬(b=s∨some b=v.ownBlock):=by
  rintro k R b n D hm (e|e)
  ·exact ne_map hm h.st.set e
  ·obtain⟨cs,e1,_⟩:=hrow b e;exact ne_map hm e1 rfl
 have hzn:=h.zn.kept hk hZ hnz (hnm h.zn.nodes) (hnm g3);obtain⟨q1,q2,q3,q4⟩:=hzn.setN (c':=c+1);have hzW:=(hk.block z (lt_block g1) hnz).trans g1;refine⟨(hk.mono (fun k _ e=>.inr e)).trans (q2.mono (fun k _ e=>.inl e)),q1,(q2.block s (lt_block hs) (ne_cells hs hzW (by decide))).trans hs, ?_, ?_,hat⟩
 ·rw[←ins2_datC,insD_len ds p _ hp];refine Kept.row hr q2 fun k hkb e=> ?_;obtain⟨cs,e1,_⟩:=row_block hr hkb;exact ne_cells e1 hzW (by decide) e
 ·exact(((h.st.dat.zonal hk hZ).ins p h1 h2)).zonal q2 q3
structure NdG(w:World)(B x bs:Nat)(n:List Lab)(N2:Nat)(D2:DataW Unit):Prop where
 node:∃A c,w.heap[x]? =some (.cells #[.slice A n.length c,.map (some bs)] 112 (0,0))∧w.ownsRow B 9 1 (.slice A n.length c) n.length ((lower n).map strV)
 sets:w.ownsMap prog 36 ptrR bs N2 D2
 h1:B≤bs
theorem NdG.kept{S:Nat→Prop}{w w':World}{B x bs:Nat}{n:List Lab}{N2:Nat}{D2:DataW Unit}(h:NdG w B x bs n N2 D2)(hk:Kept S w w')(hZ:Zonal S w)(h1:¬S bs):NdG w' B x bs n N2 D2:=by
 obtain⟨A,c,g1,g2⟩:=h.node;exact⟨⟨A,c,cells_zonal g1 hk hZ zT_node,row_zonal g2 hk hZ zT_str⟩,ownsMap_block h.sets (hk.block _ h.sets.lt h1),h.h1⟩
theorem StG.nd{w:World}{B x bs s:Nat}{n:List Lab}{ttl:Int}{v:Value}{ds:List (Blob×Blob)}{N2:Nat}{D2:DataW Unit}(h:StG w B x bs s n ttl v ds N2 D2):NdG w B x bs n N2 D2:=⟨h.node,h.sets,h.h1⟩
theorem Foc.zonal{w:World}{B z bn bb x bs s:Nat}{ap n:List Lab}{t ttl:Int}{v:Value}{ds:List (Blob×Blob)}{c:Int}{D D2:DataW Unit}{f:Lab→Int}{N N2:Nat}(h:Foc w B z bn bb x bs s ap n t ttl v ds c D D2 f N N2):Zonal (fun k=>k=z∨k=s∨some k=v.ownBlock) w:=by
 obtain⟨A,ca,g1,g2⟩:=h.zn.blk;intro k hk2;rcases hk2 with e|e|e
 ·exact Zonal.cells g1 (.inl rfl) k e
 ·exact Zonal.cells h.st.set (.inr (.inl rfl)) k e
 ·exact Zonal.row h.st.row k e
theorem Foc.nd_more{w w':World}{B z bn bb x bs s:Nat}{ap n:List Lab}{t ttl:Int}{v:Value}{ds:List (Blob×Blob)}{c:Int}{D D2:DataW Unit}{f:Lab→Int}{N N2:Nat}(h:Foc w B z bn bb x bs s ap n t ttl v ds c D D2 f N N2)(hk:Kept (fun k=>k=z∨k=s∨some k=v.ownBlock) w w'):NdG w' B x bs n N2 D2:=
 h.st.nd.kept hk h.zonal (by
  obtain⟨A,ca,g1,g2⟩:=h.zn.blk;rintro(e|e|e)
  ·exact ne_map h.st.sets g1 e
  ·exact ne_map h.st.sets h.st.set e
  ·obtain⟨cs,e1,_⟩:=row_block h.st.row e.symm;exact ne_map h.st.sets e1 rfl)
end Nm
namespace Nm
theorem GPutSame(w:World)(B z bn bb x bs s:Nat)(ap n:List Lab)(t ttl:Int)(v:Value)(ds:List (Blob×Blob))(cz:Int)(D D2:DataW Unit)(f:Lab→Int)(N N2:Nat)(h:Foc w B z bn bb x bs s ap n t ttl v ds cz D D2 f N N2)(An:Option Addr)(cn:Nat)(Ad:Option Addr)(d:Lab)(cd:Nat)(ttl2:Int)(hAn:Cs w An (n.map strV))(hAd:w.ownsRow 0 5 1 (.slice Ad d.length cd) d.length (d.map byteV))(c:Lab)(hr:RecG n ap t d c cn cd)(hap:Small ap)(p:Nat)(hp:FindAt ds c p)(hds:ds.length≤1000000)(hhit:hitB ds c p=true)(hsame:ttl=ttl2):
 Calls prog 50 #[.pointer (some ⟨z,0,none⟩),.agg #[.slice An n.length cn,.int .u16 t,.int .u16 1,.int .u32 ttl2,.slice Ad d.length cd]] w fun e w'=>e=.returned (.tuple #[.bool false,.int .i64 0])∧Below w.heap.size w w':=by
 subst hsame;have hsame:True:=trivial;have hb1:Below w.heap.size w (w.alloc (.cells #[.slice An n.length cn,.int .u16 t,.int .u16 1,.int .u32 ttl,.slice Ad d.length cd] 39)):=bAl;have hblk:=heap_alloc_new w (.cells #[.slice An n.length cn,.int .u16 t,.int .u16 1,.int .u32 ttl,.slice Ad d.length cd] 39);obtain⟨k0,k1,k2,k3,k4,kf⟩:=cells5 hblk
 have hsz:(w.alloc (.cells #[.slice An n.length cn,.int .u16 t,.int .u16 1,.int .u32 ttl,.slice Ad d.length cd] 39)).heap.size=w.heap.size+1:=by simp
 have hO:=h.ext hb1;have hAn1:=hAn.below hb1;have hAd1:=own_below hAd hb1;go_enter func50,ntmps50;go_wp2_with fail;generalize w.alloc (.cells #[.slice An n.length cn,.int .u16 t,.int .u16 1,.int .u32 ttl,.slice Ad d.length cd] 39)=w1 at *;have hrl:w.heap.size < w1.heap.size:=by omega
 obtain⟨Aa,ca,hzb,hza⟩:=hO.zn.blk;have hzl:=lt_block hzb;obtain⟨z0,z1,z2,z3,zf⟩:=cells4 hzb;have hcs_ap:=(cs_own hza).2;obtain⟨hr1,hr2,hr3,hr4,hr5,hr6,hr7,hr8,hr9,hr10,hr11⟩:=hr;have HCk:Hid (∀W,Below w1.heap.size w1 W→Calls prog 102 #[.slice An n.length cn] W fun e w'=>e=.returned (.int .i64 0)∧W=w'):=hid fun W hW=>by
  have:=Check An n cn W (hAn1.below hW) hr1.few;rw[hr2]at this;exact this
 have HWi:Hid (∀W,Below w1.heap.size w1 W→Calls prog 66 #[.slice An n.length cn,.slice Aa ap.length ca] W fun e w'=>Below W.heap.size W w'∧e=.returned (.bool true)):=hid fun W hW=>by
  have:=Within An Aa n ap cn ca W (hAn1.below hW) (hcs_ap.below hW) hr1.few hap.few hr8 hr9;rw[hr3]at this;exact this
 have HRc:Hid (∀W,Below w1.heap.size w1 W→Calls prog 81 #[.int .u16 t,.slice Ad d.length cd] W fun e w'=>Below W.heap.size W w'∧e=.returned (.int .i64 0)):=hid fun W hW=>hr4 Ad W ((cs_own hAd1).2.below hW)
 have HCa:Hid (∀W,Below w1.heap.size w1 W→Calls prog 103 #[.int .u16 t,.slice Ad d.length cd] W fun e w'=>Below W.heap.size W w'∧∃v,e=.returned v∧w'.ownsRow W.heap.size 5 1 v c.length (c.map byteV)):=hid fun W hW=>
  hr6 Ad W ((cs_own hAd1).2.below hW)
 have hsv:∃A c,v=.slice A ds.length c:=by
  obtain⟨A,c,hv,_⟩:=own_form hO.st.row;exact⟨A,c,hv⟩
 obtain⟨Av,cv,rfl⟩:=hsv;have hsl:=lt_block hO.st.set;obtain⟨s0,s1,sf⟩:=cells2 hO.st.set;obtain⟨An2,cn2,hxb,hxn⟩:=hO.st.node;have hxl:=lt_block hxb;obtain⟨x0,x1,xf⟩:=cells2 hxb
 have HAt:Hid (∀W,Below w1.heap.size w1 W→Calls prog 62 #[.pointer (some ⟨z,0,none⟩),.slice An n.length cn,.int .u16 t] W fun e w'=>e=.returned (.pointer (some ⟨s,0,none⟩))∧Below W.heap.size W w'):=hid fun W hW=>by
  have hOW:=hO.ext hW;have:=ZAt z bn An n cn t N N2 D D2 (some x) (some s) W ((bcl (o:=1) hW hzl).trans z1) (Nat.lt_of_lt_of_le hzl hW.size) hOW.zn.nodes (hAn1.below hW) hr1 hr5 hOW.hD (fun x' hx'=>by
   cases hx';exact⟨Nat.lt_of_lt_of_le hxl hW.size,bs,(bcl (o:=1) hW hxl).trans x1,hOW.st.sets,hOW.hD2⟩)
  exact this
 have HFi:Hid (∀A' c' W,Below w1.heap.size w1 W→Cs W A' (c.map byteV)→Calls prog 104 #[.pointer (some ⟨s,0,none⟩),.slice A' c.length c'] W fun e w'=>e=.returned (.tuple #[.int .i64 p,.bool (hitB ds c p)])∧Below W.heap.size W w'):=hid fun A' c' W hW hA'=>by
  have hOW:=hO.ext hW;exact ZFind s Av A' ds cv c c' p W ((bcl (o:=1) hW hsl).trans s1) (cs_own2 hOW.st.row) hOW.st.dat.ok hA' hds hp
 have HK:Hid (∀W,Below w1.heap.size w1 W→Calls prog 68 #[.slice An n.length cn] W fun e w'=>e=.returned (strV (zkey n))∧Below W.heap.size W w'):=hid fun W hW=>ZKey An n cn W (hAn1.below hW) hr1;have hnl:=hr1.1;have HR:Hid (RecG n ap t d c cn cd):=hid ⟨hr1,hr2,hr3,hr4,hr5,hr6,hr7,hr8,hr9,hr10,hr11⟩;have HAn:=hid hAn1;have HAd:=hid hAd1;have HO:=hid hO
 have HB:Hid (B≤w1.heap.size):=hid (Nat.le_trans hO.st.h2 (Nat.le_of_lt hsl));have HTu:Hid (Turn B w w1):=hid (Turn.of_ext hb1 (Nat.le_trans h.st.h2 (Nat.le_of_lt (lt_block h.st.set))));clear h hAn hAd hAn1 hAd1 hza hcs_ap hr1 hr2 hr3 hr4 hr5 hr6 hap
 refine wp_region_mono mixed0 (by kernel_rfl) [.is (.pointer (some ⟨w.heap.size,0,none⟩)),.is (.slice An n.length cn),.is (.int .i64 0),.is (.bool false),.is (.bool false),.is (.pointer (some ⟨w.heap.size,0,none⟩)),.is (.slice An n.length cn),.is (.pointer (some ⟨z,0,none⟩)),.is (.pointer (some ⟨z,0,none⟩)),.is (.pointer (some ⟨z,0,none⟩)),.is (.slice Aa ap.length ca),.is (.bool true),.is (.bool false),.is (.bool false),.is (.bool false)] rfl ?_ ?_
 ·intro i q hio vals W hE haf;have e0:=(bcl (o:=0) hE hrl).trans k0;have y0:=(bcl (o:=0) hE hzl).trans z0;rcases i with _|_|_|_|_|_|_|_|_|_|_|_|_|_|_|i
  all_goals first
   |(exfalso;simp at hio;done)
   |(simp at hio;subst hio;simp[bindD,rdB,Region.binds,factAt]at haf;simp[opU,go_sem,haf,e0,y0,Ext.refl,factAt];done)
   |skip
  all_goals
   simp at hio;subst hio;simp[bindD,rdB,Region.binds,factAt]at haf
  ·simp[opU,go_sem,haf,factAt];refine(HCk.out W hE).mono fun e W' h=> ?_;obtain⟨h1,h2⟩:=h;subst h2;exact⟨h1,Below.refl _ _⟩
  ·simp[opU,go_sem,haf,factAt];refine(HWi.out W hE).mono fun e W' h=> ?_;exact⟨h.2,h.1⟩
 ·intro vals W hE hF;simp only[facts]at hF;obtain⟨_,_,_,_,_,_,_,_,_,_,_,_,_,_,h14,_⟩:=hF;have e14:vals 14=.bool false:=h14;simp[relAct,dstAt,Act.put];rw[e14];clear e14 h14;generalize vals 0=j0,vals 1=j1;generalize vals 2=j2,vals 3=j3;generalize vals 4=j4,vals 5=j5;generalize vals 6=j6,vals 7=j7;generalize vals 8=j8,vals 9=j9
  generalize vals 10=j10,vals 11=j11;generalize vals 12=j12,vals 13=j13;have hE:Below w1.heap.size w1 W:=hE;have e1:=(bcl (o:=1) hE hrl).trans k1;have e2:=(bcl (o:=2) hE hrl).trans k2;have e4:=(bcl (o:=4) hE hrl).trans k4;go_wp2_with fail;refine(HRc.out W hE).mono ?_;rintro e w2 ⟨hb2,rfl⟩;have hE2:=hE.trans (hb2.mono hE.size);clear e1 e2 e4 hb2 hE
  have e1:=(bcl (o:=1) hE2 hrl).trans k1;have e4:=(bcl (o:=4) hE2 hrl).trans k4;go_wp2_with fail;refine(HCa.out w2 hE2).mono ?_;rintro e w3 ⟨hb3,vc,rfl,hown3⟩;have hE3:=hE2.trans (hb3.mono hE2.size);have ho3:=own_base hown3 hE2.size;obtain⟨Ac,cc,rfl,_,hcc⟩:=Cs.of_own hown3;clear e1 e4 hb3 hE2 hown3 w2;have e0:=(bcl (o:=0) hE3 hrl).trans k0;have e1:=(bcl (o:=1) hE3 hrl).trans k1
  go_wp2_with fail;refine(HAt.out w3 hE3).mono ?_;rintro e w4 ⟨rfl,hb4⟩;have hE4:=hE3.trans (hb4.mono hE3.size);have ho4:=own_below ho3 hb4;have hc4:=hcc.below hb4;clear e0 e1 hb4 hE3 ho3 hcc w3;go_wp2_with fail;refine(HFi.out _ _ w4 hE4 hc4).mono ?_;rintro e w5 ⟨rfl,hb5⟩;have hE5:=hE4.trans (hb5.mono hE4.size);have ho5:=own_below ho4 hb5;have hc5:=hc4.below hb5;clear hb5 hE4 ho4 hc4 w4
  rw[hhit];go_wp2_with fail;refine wp_region_mono mixed0 (by kernel_rfl) [.is (.bool true),.is (.bool true),.is (.pointer (some ⟨s,0,none⟩)),.is (.pointer (some ⟨s,0,none⟩)),.is (.pointer (some ⟨s,0,none⟩)),.is (.int .u32 ttl),.is (.pointer (some ⟨w.heap.size,3,none⟩)),.is (.int .u32 ttl),.is (.bool true),.is (.bool true),.is (.bool true)] rfl ?_ ?_
  ·intro i q hio vals W hE haf;have e3:=(bcl (o:=3) (hE5.trans (Below.mono (show Below w5.heap.size w5 W from hE) hE5.size)) hrl).trans k3;have y0:=(bcl (o:=0) (hE5.trans (Below.mono (show Below w5.heap.size w5 W from hE) hE5.size)) hsl).trans s0;rcases i with _|_|_|_|_|_|_|_|_|_|_|i
   all_goals first
    |(exfalso;simp at hio;done)
    |(simp at hio;subst hio;simp[bindD,rdB,Region.binds,factAt]at haf;simp[opU,go_sem,haf,e3,y0,hsame,Ext.refl,factAt];done)
    |skip
  ·intro vals W hE hF;simp only[facts]at hF;obtain⟨_,_,_,_,_,_,_,_,_,_,h10,_⟩:=hF;have e10:vals 10=.bool true:=h10;simp[relAct,dstAt,Act.put];rw[e10];clear e10 h10;generalize vals 0=g0,vals 1=g1;generalize vals 2=g2,vals 3=g3;generalize vals 4=g4,vals 5=g5;generalize vals 6=g6,vals 7=g7;generalize vals 8=g8,vals 9=g9
   have hE6:=hE5.trans (hE.mono hE5.size);have ho6:=own_below ho5 hE;go_wp2_with fail
   go_ret2
   exact⟨rfl,hb1.trans (hE6.mono (by omega))⟩
theorem GPutTtl(w:World)(B z bn bb x bs s:Nat)(ap n:List Lab)(t ttl:Int)(v:Value)(ds:List (Blob×Blob))(cz:Int)(D D2:DataW Unit)(f:Lab→Int)(N N2:Nat)(h:Foc w B z bn bb x bs s ap n t ttl v ds cz D D2 f N N2)(An:Option Addr)(cn:Nat)(Ad:Option Addr)(d:Lab)(cd:Nat)(ttl2:Int)(hAn:Cs w An (n.map strV))(hAd:w.ownsRow 0 5 1 (.slice Ad d.length cd) d.length (d.map byteV))(c:Lab)(hr:RecG n ap t d c cn cd)(hap:Small ap)(p:Nat)(hp:FindAt ds c p)(hds:ds.length≤1000000)(hhit:hitB ds c p=true)(hne:ttl≠ttl2):
 Calls prog 50 #[.pointer (some ⟨z,0,none⟩),.agg #[.slice An n.length cn,.int .u16 t,.int .u16 1,.int .u32 ttl2,.slice Ad d.length cd]] w fun e w'=>e=.returned (.tuple #[.bool true,.int .i64 0])∧Kept (fun k=>k=s) w w'∧w'.heap[s]? =some (.cells #[.int .u32 ttl2,v] 119 (0,0)):=by
 have hsame:(ttl==ttl2)=false:=by simpa using hne
 have hb1:Below w.heap.size w (w.alloc (.cells #[.slice An n.length cn,.int .u16 t,.int .u16 1,.int .u32 ttl2,.slice Ad d.length cd] 39)):=bAl;have hblk:=heap_alloc_new w (.cells #[.slice An n.length cn,.int .u16 t,.int .u16 1,.int .u32 ttl2,.slice Ad d.length cd] 39);obtain⟨k0,k1,k2,k3,k4,kf⟩:=cells5 hblk
 have hsz:(w.alloc (.cells #[.slice An n.length cn,.int .u16 t,.int .u16 1,.int .u32 ttl2,.slice Ad d.length cd] 39)).heap.size=w.heap.size+1:=by simp
 have hO:=h.ext hb1;have hAn1:=hAn.below hb1;have hAd1:=own_below hAd hb1;go_enter func50,ntmps50;go_wp2_with fail;generalize w.alloc (.cells #[.slice An n.length cn,.int .u16 t,.int .u16 1,.int .u32 ttl2,.slice Ad d.length cd] 39)=w1 at *;have hrl:w.heap.size < w1.heap.size:=by omega
 obtain⟨Aa,ca,hzb,hza⟩:=hO.zn.blk;have hzl:=lt_block hzb;obtain⟨z0,z1,z2,z3,zf⟩:=cells4 hzb;have hcs_ap:=(cs_own hza).2;obtain⟨hr1,hr2,hr3,hr4,hr5,hr6,hr7,hr8,hr9,hr10,hr11⟩:=hr;have HCk:Hid (∀W,Below w1.heap.size w1 W→Calls prog 102 #[.slice An n.length cn] W fun e w'=>e=.returned (.int .i64 0)∧W=w'):=hid fun W hW=>by
  have:=Check An n cn W (hAn1.below hW) hr1.few;rw[hr2]at this;exact this
 have HWi:Hid (∀W,Below w1.heap.size w1 W→Calls prog 66 #[.slice An n.length cn,.slice Aa ap.length ca] W fun e w'=>Below W.heap.size W w'∧e=.returned (.bool true)):=hid fun W hW=>by
  have:=Within An Aa n ap cn ca W (hAn1.below hW) (hcs_ap.below hW) hr1.few hap.few hr8 hr9;rw[hr3]at this;exact this
 have HRc:Hid (∀W,Below w1.heap.size w1 W→Calls prog 81 #[.int .u16 t,.slice Ad d.length cd] W fun e w'=>Below W.heap.size W w'∧e=.returned (.int .i64 0)):=hid fun W hW=>hr4 Ad W ((cs_own hAd1).2.below hW)
 have HCa:Hid (∀W,Below w1.heap.size w1 W→Calls prog 103 #[.int .u16 t,.slice Ad d.length cd] W fun e w'=>Below W.heap.size W w'∧∃v,e=.returned v∧w'.ownsRow W.heap.size 5 1 v c.length (c.map byteV)):=hid fun W hW=>
  hr6 Ad W ((cs_own hAd1).2.below hW)
 have hsv:∃A c,v=.slice A ds.length c:=by
  obtain⟨A,c,hv,_⟩:=own_form hO.st.row;exact⟨A,c,hv⟩
 obtain⟨Av,cv,rfl⟩:=hsv;have hsl:=lt_block hO.st.set;obtain⟨s0,s1,sf⟩:=cells2 hO.st.set;obtain⟨An2,cn2,hxb,hxn⟩:=hO.st.node;have hxl:=lt_block hxb;obtain⟨x0,x1,xf⟩:=cells2 hxb
 have HAt:Hid (∀W,Below w1.heap.size w1 W→Calls prog 62 #[.pointer (some ⟨z,0,none⟩),.slice An n.length cn,.int .u16 t] W fun e w'=>e=.returned (.pointer (some ⟨s,0,none⟩))∧Below W.heap.size W w'):=hid fun W hW=>by
  have hOW:=hO.ext hW;have:=ZAt z bn An n cn t N N2 D D2 (some x) (some s) W ((bcl (o:=1) hW hzl).trans z1) (Nat.lt_of_lt_of_le hzl hW.size) hOW.zn.nodes (hAn1.below hW) hr1 hr5 hOW.hD (fun x' hx'=>by
   cases hx';exact⟨Nat.lt_of_lt_of_le hxl hW.size,bs,(bcl (o:=1) hW hxl).trans x1,hOW.st.sets,hOW.hD2⟩)
  exact this
 have HFi:Hid (∀A' c' W,Below w1.heap.size w1 W→Cs W A' (c.map byteV)→Calls prog 104 #[.pointer (some ⟨s,0,none⟩),.slice A' c.length c'] W fun e w'=>e=.returned (.tuple #[.int .i64 p,.bool (hitB ds c p)])∧Below W.heap.size W w'):=hid fun A' c' W hW hA'=>by
  have hOW:=hO.ext hW;exact ZFind s Av A' ds cv c c' p W ((bcl (o:=1) hW hsl).trans s1) (cs_own2 hOW.st.row) hOW.st.dat.ok hA' hds hp
 have HK:Hid (∀W,Below w1.heap.size w1 W→Calls prog 68 #[.slice An n.length cn] W fun e w'=>e=.returned (strV (zkey n))∧Below W.heap.size W w'):=hid fun W hW=>ZKey An n cn W (hAn1.below hW) hr1;have hnl:=hr1.1;have HR:Hid (RecG n ap t d c cn cd):=hid ⟨hr1,hr2,hr3,hr4,hr5,hr6,hr7,hr8,hr9,hr10,hr11⟩;have HAn:=hid hAn1;have HAd:=hid hAd1;have HO:=hid hO
 have HB:Hid (B≤w1.heap.size):=hid (Nat.le_trans hO.st.h2 (Nat.le_of_lt hsl));have HTu:Hid (Turn B w w1):=hid (Turn.of_ext hb1 (Nat.le_trans h.st.h2 (Nat.le_of_lt (lt_block h.st.set))));clear h hAn hAd hAn1 hAd1 hza hcs_ap hr1 hr2 hr3 hr4 hr5 hr6 hap
 refine wp_region_mono mixed0 (by kernel_rfl) [.is (.pointer (some ⟨w.heap.size,0,none⟩)),.is (.slice An n.length cn),.is (.int .i64 0),.is (.bool false),.is (.bool false),.is (.pointer (some ⟨w.heap.size,0,none⟩)),.is (.slice An n.length cn),.is (.pointer (some ⟨z,0,none⟩)),.is (.pointer (some ⟨z,0,none⟩)),.is (.pointer (some ⟨z,0,none⟩)),.is (.slice Aa ap.length ca),.is (.bool true),.is (.bool false),.is (.bool false),.is (.bool false)] rfl ?_ ?_
 ·intro i q hio vals W hE haf;have e0:=(bcl (o:=0) hE hrl).trans k0;have y0:=(bcl (o:=0) hE hzl).trans z0;rcases i with _|_|_|_|_|_|_|_|_|_|_|_|_|_|_|i
  all_goals first
   |(exfalso;simp at hio;done)
   |(simp at hio;subst hio;simp[bindD,rdB,Region.binds,factAt]at haf;simp[opU,go_sem,haf,e0,y0,Ext.refl,factAt];done)
   |skip
  all_goals
   simp at hio;subst hio;simp[bindD,rdB,Region.binds,factAt]at haf
  ·simp[opU,go_sem,haf,factAt];refine(HCk.out W hE).mono fun e W' h=> ?_;obtain⟨h1,h2⟩:=h;subst h2;exact⟨h1,Below.refl _ _⟩
  ·simp[opU,go_sem,haf,factAt];refine(HWi.out W hE).mono fun e W' h=> ?_;exact⟨h.2,h.1⟩
 ·intro vals W hE hF;simp only[facts]at hF;obtain⟨_,_,_,_,_,_,_,_,_,_,_,_,_,_,h14,_⟩:=hF;have e14:vals 14=.bool false:=h14;simp[relAct,dstAt,Act.put];rw[e14];clear e14 h14;generalize vals 0=j0,vals 1=j1;generalize vals 2=j2,vals 3=j3;generalize vals 4=j4,vals 5=j5;generalize vals 6=j6,vals 7=j7;generalize vals 8=j8,vals 9=j9
  generalize vals 10=j10,vals 11=j11;generalize vals 12=j12,vals 13=j13;have hE:Below w1.heap.size w1 W:=hE;have e1:=(bcl (o:=1) hE hrl).trans k1;have e2:=(bcl (o:=2) hE hrl).trans k2;have e4:=(bcl (o:=4) hE hrl).trans k4;go_wp2_with fail;refine(HRc.out W hE).mono ?_;rintro e w2 ⟨hb2,rfl⟩;have hE2:=hE.trans (hb2.mono hE.size);clear e1 e2 e4 hb2 hE
  have e1:=(bcl (o:=1) hE2 hrl).trans k1;have e4:=(bcl (o:=4) hE2 hrl).trans k4;go_wp2_with fail;refine(HCa.out w2 hE2).mono ?_;rintro e w3 ⟨hb3,vc,rfl,hown3⟩;have hE3:=hE2.trans (hb3.mono hE2.size);have ho3:=own_base hown3 hE2.size;obtain⟨Ac,cc,rfl,_,hcc⟩:=Cs.of_own hown3;clear e1 e4 hb3 hE2 hown3 w2;have e0:=(bcl (o:=0) hE3 hrl).trans k0;have e1:=(bcl (o:=1) hE3 hrl).trans k1
  go_wp2_with fail;refine(HAt.out w3 hE3).mono ?_;rintro e w4 ⟨rfl,hb4⟩;have hE4:=hE3.trans (hb4.mono hE3.size);have ho4:=own_below ho3 hb4;have hc4:=hcc.below hb4;clear e0 e1 hb4 hE3 ho3 hcc w3;go_wp2_with fail;refine(HFi.out _ _ w4 hE4 hc4).mono ?_;rintro e w5 ⟨rfl,hb5⟩;have hE5:=hE4.trans (hb5.mono hE4.size);have ho5:=own_below ho4 hb5;have hc5:=hc4.below hb5;clear hb5 hE4 ho4 hc4 w4
  rw[hhit];go_wp2_with fail;refine wp_region_mono mixed0 (by kernel_rfl) [.is (.bool true),.is (.bool true),.is (.pointer (some ⟨s,0,none⟩)),.is (.pointer (some ⟨s,0,none⟩)),.is (.pointer (some ⟨s,0,none⟩)),.is (.int .u32 ttl),.is (.pointer (some ⟨w.heap.size,3,none⟩)),.is (.int .u32 ttl2),.is (.bool false),.is (.bool false),.is (.bool false)] rfl ?_ ?_
  ·intro i q hio vals W hE haf;have e3:=(bcl (o:=3) (hE5.trans (Below.mono (show Below w5.heap.size w5 W from hE) hE5.size)) hrl).trans k3;have y0:=(bcl (o:=0) (hE5.trans (Below.mono (show Below w5.heap.size w5 W from hE) hE5.size)) hsl).trans s0;rcases i with _|_|_|_|_|_|_|_|_|_|_|i
   all_goals first
    |(exfalso;simp at hio;done)
    |(simp at hio;subst hio;simp[bindD,rdB,Region.binds,factAt]at haf;simp[opU,go_sem,haf,e3,y0,hsame,Ext.refl,factAt];done)
    |skip
  ·intro vals W hE hF;simp only[facts]at hF;obtain⟨_,_,_,_,_,_,_,_,_,_,h10,_⟩:=hF;have e10:vals 10=.bool false:=h10;simp[relAct,dstAt,Act.put];rw[e10];clear e10 h10;generalize vals 0=g0,vals 1=g1;generalize vals 2=g2,vals 3=g3;generalize vals 4=g4,vals 5=g5;generalize vals 6=g6,vals 7=g7;generalize vals 8=g8,vals 9=g9
   have hE6:=hE5.trans (hE.mono hE5.size);have ho6:=own_below ho5 hE;have hO6:=HO.out.ext hE6;have e3:=(bcl (o:=3) hE6 hrl).trans k3;have y0:=(bcl (o:=0) hE6 hsl).trans s0;have yf:=(bfr (o:=0) hE6 hsl).trans (sf 0);have hkp:Kept (fun k=>k=s) W (W.setCell ⟨s,0,none⟩ (.int .u32 ttl2)):=(Kept.refl (fun k=>k=s) W).setCell (fun _=>rfl) _;have hps:=heap_set (i:=0) (v:=.int .u32 ttl2) hO6.st.set
   have HPS:=hid (And.intro (((Kept.of_ext (hb1.trans (hE6.mono (by omega)))).mono (fun _ _ h=>h.elim)).trans hkp) hps);clear hps hkp hO6;go_wp2_with fail
   go_ret2
   exact⟨rfl,HPS.out.1,by simpa using HPS.out.2⟩
end Nm
end Go.Proofs.YtmbdoacafhljkaaGreat
