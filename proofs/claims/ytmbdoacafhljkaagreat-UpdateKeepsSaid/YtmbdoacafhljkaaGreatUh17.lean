/- Texts merged by a program: RPut, UpS. -/
import Derived.Deep.CutRange
import Derived.Deep.CutBlock
import Derived.Test.YtmbdoacafhljkaaGreatUh1
import Derived.Test.YtmbdoacafhljkaaGreatUh2
import Derived.Test.YtmbdoacafhljkaaGreatUh15
import Derived.Test.YtmbdoacafhljkaaGreatUh16
set_option linter.unusedSimpArgs false
set_option linter.unusedVariables false
set_option maxRecDepth 1000000
set_option maxHeartbeats 20000000
open Go.Proofs.Tryz
namespace Go.Proofs.YtmbdoacafhljkaaGreat
open Go.RowKit
namespace Nm
structure RcV.put(w:World)(B:Nat)(r:RcV):Prop where
 rowN:w.ownsRow B 9 1 (.slice r.A r.n.length r.cn) r.n.length (r.n.map strV)
 rowD:w.ownsRow B 5 1 (.slice r.D r.d.length r.cd) r.d.length (r.d.map byteV)
 small:Small r.n
 name:nameE r.n=0
 inn:within r.n [exL]=true
 ty:goodT r.t
 cl:r.cl=1
 chk:chk r.t r.d=true
 len:r.d.length≤100000
theorem RcV.put.ok{w:World}{B:Nat}{r:RcV}(h:r.put w B):r.ok w:=by
 have h2:=cs_own h.rowD;exact⟨(cs_own h.rowN).2,h.small.few,h.ty,h2.2,h.chk,h.len,(own_caps h.rowD).1,(own_caps h.rowD).2⟩
theorem RcV.put.below{w w':World}{B:Nat}{r:RcV}(h:r.put w B)(hb:Below w.heap.size w w'):r.put w' B:=⟨own_below h.rowN hb,own_below h.rowD hb,h.small,h.name,h.inn,h.ty,h.cl,h.chk,h.len⟩
def RcV.x(r:RcV):PR:=⟨lower r.n,r.t,r.ttl,r.d,canonD r.t r.d⟩
theorem ordP_low(y:PR)(r:RcV):ordP y r.pr=ordP y r.x:=by
 unfold ordP RcV.pr RcV.x;dsimp only;rw[cmpN_lower2]
theorem RcV.x_good{w:World}{B:Nat}{r:RcV}(h:r.put w B):PG r.x:=
 ⟨lower_idem _,h.small.lower,⟨r.t,rfl,h.ty⟩,h.chk,h.len,rfl⟩
def RputR(L:List PR)(x:PR)(w:World)(i:Value)(wr:World):Prop:=∃j:Nat,j≤L.length∧i=.int .i64 (j:Int)∧(∀y∈L.take j,ltP y x)∧Below w.heap.size w wr
theorem recAt{w:World}{B:Nat}{A:Option Addr}{c ln:Nat}{rs:List RcB}{L:List PR}(h:RecsV w B (.slice A ln c) rs)(hsay:rs.map RcB.says=L.map PR.says)(hg:∀x∈L,PG x){j:Nat}(hj:j < L.length):
 ∃a:RcV,∃b off,A=some ⟨b,off,none⟩∧b < w.heap.size∧a.ok w∧a.cl=1∧a.pr=L[j]∧w.cell? ⟨b,off+j *5,none⟩=some (.slice a.A a.n.length a.cn)∧w.cell? ⟨b,off+j *5+1,none⟩=some (.int .u16 (a.t:Int))∧w.cell? ⟨b,off+j *5+2,none⟩=some (.int .u16 a.cl)∧w.cell? ⟨b,off+j *5+3,none⟩=some (.int .u32 a.ttl)∧w.cell? ⟨b,off+j *5+4,none⟩=some (.slice a.D a.d.length a.cd):=by
 have hl:rs.length=L.length:=by have:=congrArg List.length hsay;simpa using this
 have hj':j < rs.length:=by omega
 obtain⟨b,off,rfl,hb,h0,h1,h2,h3,h4⟩:=h.at2 hj';have ho:=h.own _ (List.getElem_mem hj');have hs:(rs[j]).says=(L[j]).says:=by
  have:=congrArg (fun l=>l[j]?) hsay;simp only[List.getElem?_map,List.getElem?_eq_getElem hj',List.getElem?_eq_getElem hj]at this;injection this
 have hp:=hg _ (List.getElem_mem hj);obtain⟨m,hm,hgm⟩:=hp.ty;generalize L[j]=x at *;generalize rs[j]=r at *;obtain⟨⟨An,n,cn⟩,t,ttl,⟨Ad,d,cd⟩⟩:=r;obtain⟨xn,xt,xttl,xd,xc⟩:=x;unfold RcB.says PR.says at hs;simp only[Prod.mk.injEq]at hs;obtain⟨e1,e2,e3,e4⟩:=hs;simp only at hm;subst e1 e2 e3 e4 hm;have hn1:=cs_own ho.1;have hd1:=cs_own ho.2;have hcap:=own_caps ho.2
 refine⟨⟨An,n,cn,m,1,ttl,Ad,d,cd⟩,b,off,rfl,hb,⟨hn1.2,hp.small.few,hgm,hd1.2,hp.chk,hp.len,hcap.1,hcap.2⟩,rfl, ?_,h0,h1,h2,h3,h4⟩;unfold RcV.pr;have:=hp.can;simp only at this;rw[this]
def X5(W:World)(g2 t:Nat)(ttl:Int)(a e:Value):Prop:=W.heap[g2]? =some (.cells #[a,.int .u16 (t:Int),.int .u16 1,.int .u32 ttl,e] 39 (0,0))
def T15(g2 t:Nat)(ttl:Int)(i:Nat)(W W':World):Prop:=
 if i=7 then Kept (fun k=>k=g2) W W'∧∀a e,X5 W g2 t ttl a e→∃v,X5 W' g2 t ttl v e
 else if i=9 then Kept (fun k=>k=g2) W W'∧∀a e,X5 W g2 t ttl a e→∃v,X5 W' g2 t ttl a v
 else Ext W W'
def C15(W0:World)(g2 t:Nat)(ttl:Int)(W:World):Prop:=Kept (fun k=>k=g2) W0 W∧∃a e,X5 W g2 t ttl a e
def OwnS(W:World)(N:Nat)(n:List Lab)(v:Value):Prop:=W.ownsRow N 9 1 v n.length ((lower n).map strV)
def OwnD(W:World)(N:Nat)(d:Lab)(v:Value):Prop:=W.ownsRow N 5 1 v d.length (d.map byteV)
def R15(N g g2 t:Nat)(ttl:Int)(n:List Lab)(d:Lab)(vn vd:Value)(j:Nat)(v:Value)(W:World):Prop:=
 match j with
 |0=>v=.pointer (some ⟨g,0,none⟩)
 |1=>v=vn
 |2=>OwnS W N n v
 |3=>v=.pointer (some ⟨g,4,none⟩)
 |4=>v=vd
 |5=>OwnD W N d v
 |6=>v=.pointer (some ⟨g2,0,none⟩)
 |7=>∃a e,X5 W g2 t ttl a e∧OwnS W N n a
 |8=>v=.pointer (some ⟨g2,4,none⟩)
 |9=>∃a e,X5 W g2 t ttl a e∧OwnD W N d e
 |_=>True
theorem ownS_kept{W W':World}{N g2:Nat}{n:List Lab}{v:Value}(hg:g2 < N)(h:OwnS W N n v)(hk:Kept (fun k=>k=g2) W W'):OwnS W' N n v:=Kept.row h hk fun k hk2=>by have:=(h.lt k hk2).1;omega
theorem ownD_kept{W W':World}{N g2:Nat}{d:Lab}{v:Value}(hg:g2 < N)(h:OwnD W N d v)(hk:Kept (fun k=>k=g2) W W'):OwnD W' N d v:=Kept.row h hk fun k hk2=>by have:=(h.lt k hk2).1;omega
theorem X5.ext{W W':World}{g2 t:Nat}{ttl:Int}{a e:Value}(h:X5 W g2 t ttl a e)(hE:Ext W W'):X5 W' g2 t ttl a e:=(hE.block _ (lt_block h)).trans h
theorem R15_keep{W0 W W':World}{N g g2 t:Nat}{ttl:Int}{n:List Lab}{d:Lab}{vn vd:Value}(hg:g2 < N){i j:Nat}{v:Value}(hij:i≠j)(hC:C15 W0 g2 t ttl W)(h:R15 N g g2 t ttl n d vn vd j v W)(hT:T15 g2 t ttl i W W'):R15 N g g2 t ttl n d vn vd j v W':=by
 unfold T15 at hT;rcases j with _|_|_|_|_|_|_|_|_|_|j
 ·exact h
 ·exact h
 ·split at hT
  ·exact ownS_kept hg h hT.1
  ·split at hT
   ·exact ownS_kept hg h hT.1
   ·exact own_below h hT
 ·exact h
 ·exact h
 ·split at hT
  ·exact ownD_kept hg h hT.1
  ·split at hT
   ·exact ownD_kept hg h hT.1
   ·exact own_below h hT
 ·exact h
 ·obtain⟨a,e,h1,h2⟩:=h;rw[if_neg hij]at hT;split at hT
  ·obtain⟨v2,h3⟩:=hT.2 a e h1;exact⟨a,v2,h3,ownS_kept hg h2 hT.1⟩
  ·exact⟨a,e,h1.ext hT,own_below h2 hT⟩
 ·exact h
 ·obtain⟨a,e,h1,h2⟩:=h;rw[if_neg hij]at hT;split at hT
  ·obtain⟨v2,h3⟩:=hT.2 a e h1;exact⟨v2,e,h3,ownD_kept hg h2 hT.1⟩
  ·exact⟨a,e,h1.ext hT,own_below h2 hT⟩
 ·trivial
theorem C15_keep{W0 W W':World}{g2 t:Nat}{ttl:Int}{i:Nat}(h:C15 W0 g2 t ttl W)(hT:T15 g2 t ttl i W W'):C15 W0 g2 t ttl W':=by
 obtain⟨hk,a,e,h1⟩:=h;unfold T15 at hT;split at hT
 ·obtain⟨v,h2⟩:=hT.2 a e h1;exact⟨hk.trans hT.1,v,e,h2⟩
 ·split at hT
  ·obtain⟨v,h2⟩:=hT.2 a e h1;exact⟨hk.trans hT.1,a,v,h2⟩
  ·exact⟨hk.trans ((Kept.of_ext hT).mono fun _ _ h=>h.elim),a,e,h1.ext hT⟩
theorem store0{W:World}{g2 t:Nat}{ttl:Int}{v:Value}:T15 g2 t ttl 7 W (W.setCell ⟨g2,0,none⟩ v):=by
 unfold T15;rw[if_pos rfl];exact⟨(Kept.refl (fun k=>k=g2) W).setCell (fun _=>rfl) _,fun a e h=>⟨v,heap_set h⟩⟩
theorem store4{W:World}{g2 t:Nat}{ttl:Int}{v:Value}:T15 g2 t ttl 9 W (W.setCell ⟨g2,4,none⟩ v):=by
 unfold T15;rw[if_neg (by decide),if_pos rfl];exact⟨(Kept.refl (fun k=>k=g2) W).setCell (fun _=>rfl) _,fun a e h=>⟨v,heap_set h⟩⟩
theorem own_row5(w:World)(B:Nat)(a b c d e:Value)(hB:B≤w.heap.size):(w.alloc (.cells #[a,b,c,d,e] 39)).ownsRow B 39 5 (.slice (some ⟨w.heap.size,0,none⟩) 1 1) 1 [a,b,c,d,e]:=
 ⟨rfl,.inr ⟨w.heap.size,1, #[a,b,c,d,e],rfl,hB,heap_alloc_new w _,Nat.le_refl _,by unfold maxLen;omega,rfl,rfl⟩⟩
theorem oneC(rs:List RcB):∀u∈rs.flatMap RcB.cells,u.oneCell'=true:=by
 intro u hu;obtain⟨x,_,hx⟩:=List.mem_flatMap.1 hu;unfold RcB.cells at hx;simp only[List.mem_cons,List.not_mem_nil,or_false]at hx;rcases hx with rfl|rfl|rfl|rfl|rfl <;> rfl
theorem flat_len(rs:List RcB):(rs.flatMap RcB.cells).length=rs.length *5:=by
 induction rs with
 |nil=>rfl
 |cons x xs ih=>
  have e:(RcB.cells x).length=5:=rfl;rw[List.flatMap_cons,List.length_append,ih,e,List.length_cons];omega
theorem flat_take(rs:List RcB)(j:Nat):(rs.flatMap RcB.cells).take (j *5)=(rs.take j).flatMap RcB.cells:=by
 induction rs generalizing j with
 |nil=>simp
 |cons x xs ih=>
  cases j with
  |zero=>simp
  |succ j=>
   have e:(RcB.cells x).length=5:=rfl;rw[List.flatMap_cons,List.take_succ_cons,List.flatMap_cons,←ih j,List.take_append,e,List.take_of_length_le (by rw[e];omega)];congr 2;omega
theorem flat_drop(rs:List RcB)(j:Nat):(rs.flatMap RcB.cells).drop (j *5)=(rs.drop j).flatMap RcB.cells:=by
 induction rs generalizing j with
 |nil=>simp
 |cons x xs ih=>
  cases j with
  |zero=>simp
  |succ j=>
   have e:(RcB.cells x).length=5:=rfl;rw[List.flatMap_cons,List.drop_succ_cons,←ih j,List.drop_append,e,List.drop_eq_nil_of_le (by rw[e];omega),List.nil_append];congr 1;omega
def endF(m N:Nat)(va:Value)(n:Nat)(xs:List Value)(W0:World):Fact:=⟨fun _ W=>∃A c,W.heap[m]? =some (.cells #[va,.slice A n c] 33 (0,0))∧W.ownsRow N 39 5 (.slice A n c) n xs∧Kept (fun k=>k=m) W0 W,by
 rintro v W W' hE ⟨A,c,h1,h2,h3⟩;exact⟨A,c,(hE.block _ (lt_block h1)).trans h1,own_below h2 hE,h3.trans ((Kept.of_ext hE).mono fun _ _ h=>h.elim)⟩⟩
def T16(m N i:Nat)(W W':World):Prop:=if i=16 then Below N W W' else if i=20 then Kept (fun k=>k=m) W W' else Ext W W'
theorem T16_kept{m N i:Nat}{W0 W W':World}(hN:N≤W.heap.size)(h:T16 m N i W W')(hNw:W0.heap.size=N)(hC:Kept (fun k=>k=m) W0 W):Kept (fun k=>k=m) W0 W':=by
 unfold T16 at h;split at h
 ·refine hC.then (Kept.of_below h) fun k hk hb=> ?_;have hb:N≤k:=hb;omega
 ·split at h
  ·exact hC.trans h
  ·exact hC.trans ((Kept.of_ext h).mono fun _ _ h=>h.elim)
structure Mid(V:World)(B Br m g:Nat)(r:RcV)(Aa:Option Addr)(ca:Nat)(A1:Option Addr)(c1 ln:Nat)(rs1:List RcB):Prop where
 hm:V.heap[m]? =some (.cells #[.slice Aa 1 ca,.slice A1 ln c1] 33 (0,0))
 hl:rs1.length=ln
 ap:V.ownsRow B 9 1 (.slice Aa 1 ca) 1 (([exL]:List Lab).map strV)
 rs:RecsV V B (.slice A1 ln c1) rs1
 hg:V.heap[g]? =some (.cells r.cells 39 (0,0))
 r:r.put V Br
 ne:∀k,(Value.slice A1 ln c1).ownBlock=some k→k≠g
theorem flat_set(rs:List RcB)(j:Nat)(hj:j < rs.length)(ttl:Int):(rs.flatMap RcB.cells).set (j *5+3) (.int .u32 ttl)=(rs.set j {rs[j]with ttl:=ttl}).flatMap RcB.cells:=by
 induction rs generalizing j with
 |nil=>simp at hj
 |cons x xs ih=>
  cases j with
  |zero=>simp[RcB.cells]
  |succ j=>
   have hj':j < xs.length:=by simpa using hj
   have e:(RcB.cells x).length=5:=rfl;rw[List.flatMap_cons,List.set_append_right _ _ (by rw[e];omega),e,show(j+1) *5+3 - 5=j *5+3 from by omega,ih j hj'];rfl
theorem Mid.below{V W:World}{B Br m g:Nat}{r:RcV}{Aa:Option Addr}{ca:Nat}{A1:Option Addr}{c1 ln:Nat}{rs1:List RcB}(h:Mid V B Br m g r Aa ca A1 c1 ln rs1)(hE:Below V.heap.size V W):Mid W B Br m g r Aa ca A1 c1 ln rs1:=
 ⟨(hE.block _ (lt_block h.hm)).trans h.hm,h.hl,own_below h.ap hE,h.rs.below hE,(hE.block _ (lt_block h.hg)).trans h.hg,h.r.below hE,h.ne⟩
theorem Mid.set{V:World}{B Br m g:Nat}{r:RcV}{Aa:Option Addr}{ca:Nat}{bb off c1 ln:Nat}{rs1:List RcB}(h:Mid V B Br m g r Aa ca (some ⟨bb,off,none⟩) c1 ln rs1){j:Nat}(hj:j < rs1.length)(ttl:Int):
 off=0∧Mid (V.setCell ⟨bb,off+j *5+3,none⟩ (.int .u32 ttl)) B Br m g r Aa ca (some ⟨bb,off,none⟩) c1 ln (rs1.set j {rs1[j]with ttl:=ttl})∧Kept (fun k=>(Value.slice (some ⟨bb,off,none⟩) ln c1).ownBlock=some k) V (V.setCell ⟨bb,off+j *5+3,none⟩ (.int .u32 ttl)):=by
 have hrow:=h.rs.row;have hl:=h.hl;subst hl;have h0:off=0:=by
  rcases hrow.2 with⟨e,_⟩|⟨_,_,_,e,_⟩
  ·cases e
  ·cases e;rfl
 subst h0;obtain⟨cs,hb,_⟩:=row_block hrow rfl;have hk:Kept (fun k=>k=bb) V (V.setCell ⟨bb,0+j *5+3,none⟩ (.int .u32 ttl)):=(Kept.refl (fun k=>k=bb) V).setCell (fun _=>rfl) _;have hset:=own_set hrow (0+j *5+3) (.int .u32 ttl);rw[show 0+j *5+3=j *5+3 from by omega,flat_set _ _ hj]at hset;rw[show 0+j *5+3=j *5+3 from by omega]at hk ⊢
 refine⟨rfl,⟨(hk.block _ (lt_block h.hm) (ne_cells h.hm hb (by decide))).trans h.hm,by simp,row_far h.ap hb (by decide) hk,⟨by rw[List.length_set];exact hset,fun x hx=> ?_⟩,(hk.block _ (lt_block h.hg) (fun e=>h.ne bb rfl e.symm)).trans h.hg,⟨row_far h.r.rowN hb (by decide) hk,row_far h.r.rowD hb (by decide) hk,h.r.small,h.r.name,h.r.inn,h.r.ty,h.r.cl,h.r.chk,h.r.len⟩,h.ne⟩,hk.mono fun k _ e=>by subst e;rfl⟩
 rcases List.mem_or_eq_of_mem_set hx with hx|rfl
 ·exact⟨row_far (h.rs.own x hx).1 hb (by decide) hk,row_far (h.rs.own x hx).2 hb (by decide) hk⟩
 ·have ho:=h.rs.own _ (List.getElem_mem hj);exact⟨row_far ho.1 hb (by decide) hk,row_far ho.2 hb (by decide) hk⟩
def ttlU(L1:List PR)(n:List Lab)(t ttl:Int)(j:Nat):List PR:=(L1.take j).map (ttlX n t ttl)++L1.drop j
theorem ttlU_len(L1:List PR)(n:List Lab)(t ttl:Int)(j:Nat):(ttlU L1 n t ttl j).length=L1.length:=by
 unfold ttlU;simp;omega
theorem ttlU_at(L1:List PR)(n:List Lab)(t ttl:Int)(j:Nat)(hj:j < L1.length):(ttlU L1 n t ttl j)[j]'(by rw[ttlU_len];exact hj)=L1[j]:=by
 have h:(ttlU L1 n t ttl j)[j]? =some L1[j]:=by
  unfold ttlU;have e:((L1.take j).map (ttlX n t ttl)).length=j:=by simp;omega
  rw[List.getElem?_append_right (by rw[e];exact Nat.le_refl _),e,Nat.sub_self,List.getElem?_drop,Nat.add_zero,List.getElem?_eq_getElem hj]
 rw[List.getElem?_eq_getElem (by rw[ttlU_len];exact hj)]at h;injection h
theorem ttlU_step(L1:List PR)(n:List Lab)(t ttl:Int)(j:Nat)(hj:j < L1.length):ttlU L1 n t ttl (j+1)=(ttlU L1 n t ttl j).set j (ttlX n t ttl L1[j]):=by
 unfold ttlU;rw[List.take_succ_eq_append_getElem hj,List.map_append,List.set_append_right _ _ (by simp;omega),List.drop_eq_getElem_cons hj,List.append_assoc];congr 1;have:j - ((L1.take j).map (ttlX n t ttl)).length=0:=by simp;omega
 rw[this];rfl
theorem ttlU_good{L1:List PR}(h:∀x∈L1,PG x)(n:List Lab)(t ttl:Int)(j:Nat):∀x∈ttlU L1 n t ttl j,PG x:=by
 intro x hx;unfold ttlU at hx;rcases List.mem_append.1 hx with hx|hx
 ·obtain⟨y,hy,rfl⟩:=List.mem_map.1 hx;have hp:=h y (List.mem_of_mem_take hy);unfold ttlX;split
  ·exact⟨hp.low,hp.small,hp.ty,hp.chk,hp.len,hp.can⟩
  ·exact hp
 ·exact h x (List.mem_of_mem_drop hx)
def TtlR(V:World)(B Br m g:Nat)(r:RcV)(Aa:Option Addr)(ca:Nat)(A1:Option Addr)(c1 ln:Nat)(L1:List PR)(n:List Lab)(t ttl:Int)(i:Value)(wr:World):Prop:=
 ∃(j:Nat) (rs2:List RcB),j≤L1.length∧i=.int .i64 (j:Int)∧rs2.map RcB.says=(ttlU L1 n t ttl j).map PR.says∧Mid wr B Br m g r Aa ca A1 c1 ln rs2∧Kept (fun k=>(Value.slice A1 ln c1).ownBlock=some k) V wr
structure MidS(w V:World)(B Br m:Nat)(S:Nat→Prop)(r:RcV)(F:Cont)(L:List PR)(Aa:Option Addr)(ca:Nat)(A1:Option Addr)(cA ln:Nat)(rs1:List RcB)(L1:List PR):Prop where
 mid:Mid V B Br m w.heap.size r Aa ca A1 cA ln rs1
 lst:LstP (putC F (lower r.n) r.t r.ttl r.d (canonD r.t r.d)).1 (ttlL L1 (lower r.n) r.t r.ttl)
 tr:(putC F (lower r.n) r.t r.ttl r.d (canonD r.t r.d)).2=true
 good:∀y∈L1,PG y
 say:rs1.map RcB.says=L1.map PR.says
 le:L1.length≤L.length+1
 kept:Kept S w V
 blk:∀k,(Value.slice A1 ln cA).ownBlock=some k→k < w.heap.size→S k
 len:L1.length=ln
 ln2:ln≤1001
theorem RPut(w:World)(B m:Nat)(S:Nat→Prop)(L:List PR)(h:RZo w B m S L)(hlen:L.length≤1000)(F:Cont)(hF:LstP F L)(r:RcV)(Br:Nat)(hr:r.put w Br):
 Calls prog 53 #[.pointer (some ⟨m,0,none⟩),.agg r.cells] w fun e w'=>Kept S w w'∧∃L' S',e=.returned (.tuple #[.bool (putC F (lower r.n) r.t r.ttl r.d (canonD r.t r.d)).2,.int .i64 0])∧RZo w' B m S' L'∧LstP (putC F (lower r.n) r.t r.ttl r.d (canonD r.t r.d)).1 L'∧L'.length≤L.length+1∧(∀k,S' k→S k∨w.heap.size≤k):=by
 obtain⟨Aa,ca,A,c,rs,hm,hap,hrs,hsay,hS⟩:=h.ex;have HSM:Hid (S m∧∀k,(Value.slice A rs.length c).ownBlock=some k→S k):=hid (by rw[hS];exact⟨.inl rfl,fun k hk=>.inr hk⟩);clear hS;have HSL:Hid (∀k,(Value.slice A rs.length c).ownBlock=some k→k < w.heap.size):=hid fun k hk=>(hrs.row.lt k hk).2;have hg:=h.good;have hB:=h.hm
 have hll:rs.length=L.length:=by have:=congrArg List.length hsay;simpa using this
 have b1:Below w.heap.size w (w.alloc (.cells r.cells 39)):=bAl;have c1:=heap_alloc_new w (.cells r.cells 39);have hm1:=(b1.block _ (lt_block hm)).trans hm;have HAP:=hid (own_below hap b1);have HRS:=hid (And.intro (hrs.below b1) (And.intro hsay hg));have HR:=hid (hr.below b1);have HS:=hid hF;have HB1:=hid b1;have HH:=hid h
 have HX:Hid (∀y,ordP y r.pr=ordP y r.x):=hid fun y=>ordP_low y r;have HRV:Hid (PG r.x∧r.x=⟨lower r.n,r.t,r.ttl,r.d,canonD r.t r.d⟩):=hid ⟨RcV.x_good hr,rfl⟩;obtain⟨x,hx⟩:∃x,r.x=x:=⟨_,rfl⟩
 obtain⟨p,hp⟩:∃p,r.pr=p:=⟨_,rfl⟩
 obtain⟨rr,hrr⟩:∃rr,r=rr:=⟨_,rfl⟩
 have HRR:=hid hrr;rw[hx]at HX HRV;rw[hp]at HX;have hml:m < w.heap.size:=lt_block hm;clear hrs hsay hg hF b1 h hap;have hcl:=hr.cl;have hcap:=own_caps hr.rowN;obtain⟨An,n,cn,t,cl,ttl,Ad,d,cd⟩:=r;dsimp only at hcl hcap;subst hcl;unfold RcV.cells at *;dsimp only at *;clear hr hrr;go_enter func53,ntmps53
 go_upto_region 1 with fail
 generalize w.alloc (.cells #[.slice An n.length cn,.int .u16 (t:Int),.int .u16 1,.int .u32 ttl,.slice Ad d.length cd] 39)=w1 at *;obtain⟨r0,r1,r2,r3,r4,_⟩:=cells5 c1;obtain⟨m0,m1,_⟩:=cells2 hm1;have hgl:=lt_block c1;have hml1:=lt_block hm1;have hapc:=own_caps HAP.out
 have HALL:Hid (∀W,Below w1.heap.size w1 W→(W.cell? ⟨w.heap.size,0,none⟩=some (.slice An n.length cn)∧W.cell? ⟨w.heap.size,1,none⟩=some (.int .u16 (t:Int))∧W.cell? ⟨w.heap.size,2,none⟩=some (.int .u16 1)∧W.cell? ⟨w.heap.size,3,none⟩=some (.int .u32 ttl)∧W.cell? ⟨w.heap.size,4,none⟩=some (.slice Ad d.length cd))∧W.cell? ⟨m,1,none⟩=some (.slice A rs.length c)):=hid fun W hW=>
  ⟨⟨(bcl hW hgl).trans r0,(bcl hW hgl).trans r1,(bcl hW hgl).trans r2,(bcl hW hgl).trans r3,(bcl hW hgl).trans r4⟩,(bcl hW hml1).trans m1⟩
 have HN:=hid (RCheckN An n cn);have hs1:=HB1.out.size;have HPR:=hid hp;go_wp2_with fail
 refine wp_region_mono mixed0 (by kernel_rfl) [.is (.pointer (some ⟨w.heap.size,0,none⟩)),.is (.slice An n.length cn),.is (.int .i64 0),.is (.bool false),.is (.bool false),.is (.pointer (some ⟨w.heap.size,0,none⟩)),.is (.slice An n.length cn),.is (.pointer (some ⟨m,0,none⟩)),.is (.pointer (some ⟨m,0,none⟩)),.is (.pointer (some ⟨m,0,none⟩)),.is (.slice Aa 1 ca),.is (.bool true),.is (.bool false),.is (.bool false)] rfl ?_ ?_
 ·intro i o hio vals W hE haf;have e0:=(bcl (o:=0) hE hgl).trans r0;have e1:=(bcl (o:=0) hE hml1).trans m0;rcases i with _|_|_|_|_|_|_|_|_|_|_|_|_|_|i
  all_goals first
   |(exfalso;simp at hio;done)
   |(simp at hio;subst hio;simp[bindD,rdB,Region.binds,factAt]at haf;simp[opU,go_sem,haf,e0,e1,Ext.refl,factAt];done)
   |skip
  all_goals
   simp at hio;subst hio;simp[bindD,rdB,Region.binds,factAt]at haf
  ·simp[opU,go_sem,haf,e0,e1,Ext.refl,factAt];exact(RCheckN An n cn W ((cs_own HR.out.rowN).2.below hE) HR.out.name HR.out.small.few).mono fun e W' h=>⟨h.1,h.2▸Ext.refl _⟩
  ·simp[opU,go_sem,haf,e0,e1,Ext.refl,factAt];refine(RWithin An Aa n [exL] cn ca W ((cs_own HR.out.rowN).2.below hE) ((cs_own HAP.out).2.below hE) HR.out.small.few (by unfold Few;decide) hcap.1 hcap.2).mono fun e W' h=>⟨h.2.trans ?_,h.1⟩
   rw[HR.out.inn]
 ·intro vals W hE hF;simp[facts]at hF;simp[relAct,dstAt,Act.put,hF];clear hF;have hE2:Below w1.heap.size w1 W:=hE;obtain⟨⟨q0,q1,q2,q3,q4⟩,qm⟩:=HALL.out W hE2;have hRC:=RCheck t HR.out.ty Ad d cd W ((cs_own HR.out.rowD).2.below hE2) HR.out.len (own_caps HR.out.rowD).1 (own_caps HR.out.rowD).2;rw[HR.out.chk,show code50 true=0 from rfl]at hRC;have HRC:=hid hRC;clear hRC hE;go_wp2_with fail
  refine HRC.out.mono ?_;rintro e w2 ⟨hb2,rfl⟩;have hE3:=hE2.trans (hb2.mono hE2.size);clear hb2 q0 q1 q2 q3 q4 qm HRC
  go_upto_block 0 with fail
  go_cut [6]from 35 to 55 (fun v wx=>∃j:Nat,v=.int .i64 (j:Int)∧j≤L.length∧(∀y∈L.take j,ltP y x)∧(∀h:j < L.length,¬ltP L[j] x)∧Below w1.heap.size w1 wx)
  case first=>
   go_wp2_with fail
   go_loopw [6] (RputR L x w1) (fun i _=>L.length - (intOf i).toNat)
   case atStart=>exact⟨0,Nat.zero_le _,rfl,by simp,hE3⟩
   case round=>
    obtain⟨j,hj,rfl,hlo,hbel⟩:=hrel;have HLO:=hid hlo;clear hlo;by_cases hlt:j < L.length
    ·obtain⟨a,bb,off,rfl,hbb,haok,hacl,hapr,p0,p1,p2,p3,p4⟩:=recAt (HRS.out.1.below hbel) HRS.out.2.1 HRS.out.2.2 hlt;obtain⟨⟨q0,q1,q2,q3,q4⟩,qm⟩:=HALL.out wr hbel;have hltI:(j:Int) < (rs.length:Int):=by omega
     have hlt':j < rs.length:=by omega
     have HRO:=hid (And.intro haok (((HR.out.below hbel).ok)));have HAP2:=hid hapr;obtain⟨o,ho⟩:∃o,ordP L[j] p=o:=⟨_,rfl⟩
     have HO:Hid (∀W,Below wr.heap.size wr W→Calls prog 109 #[.agg #[.slice a.A a.n.length a.cn,.int .u16 (a.t:Int),.int .u16 a.cl,.int .u32 a.ttl,.slice a.D a.d.length a.cd],.agg #[.slice An n.length cn,.int .u16 (t:Int),.int .u16 1,.int .u32 ttl,.slice Ad d.length cd]] W fun e w'=>Below W.heap.size W w'∧e=.returned (.int .i64 o)):=hid fun W hW=>by
      have:=ROrder a ⟨An,n,cn,t,1,ttl,Ad,d,cd⟩ W (haok.below hW) ((HR.out.below (hbel.trans (hW.mono hbel.size))).ok);rw[hapr,HPR.out,ho]at this;exact this
     have HOX:Hid ((o < 0↔ltP L[j] x)∧(o=0↔cmpN L[j].n x.n=0∧L[j].t=x.t∧L[j].c=x.c)):=hid (by
      rw[←ho,HX.out];exact⟨ordP_lt _ _,ordP_eq _ _⟩)
     have hs6:=hbel.size;have hgl6:w.heap.size < wr.heap.size:=by omega
     have hml6:m < wr.heap.size:=by omega
     clear haok hapr ho hacl;by_cases ho:o < 0
     ·go_wp2_with fail
      refine wp_region_mono mixed0 (by kernel_rfl) [.is (.int .i64 (j:Int)),.is (.pointer (some ⟨m,0,none⟩)),.is (.pointer (some ⟨m,0,none⟩)),.is (.pointer (some ⟨m,1,none⟩)),.is (.slice (some ⟨bb,off,none⟩) rs.length c),.is (.int .i64 (rs.length:Int)),.is (.bool true),.is (.bool true),.is (.pointer (some ⟨m,0,none⟩)),.is (.pointer (some ⟨m,0,none⟩)),.is (.pointer (some ⟨m,1,none⟩)),.is (.slice (some ⟨bb,off,none⟩) rs.length c),.is (.int .i64 (j:Int)),.is (.pointer (some ⟨bb,off+j *5,none⟩)),.is (.agg #[.slice a.A a.n.length a.cn,.int .u16 (a.t:Int),.int .u16 a.cl,.int .u32 a.ttl,.slice a.D a.d.length a.cd]),.is (.agg #[.slice An n.length cn,.int .u16 (t:Int),.int .u16 1,.int .u32 ttl,.slice Ad d.length cd]),.is (.int .i64 o),.is (.bool true),.is (.bool true)] rfl ?_ ?_
      ·intro i o hio vals W hE haf;have em:=(bcl (o:=1) hE hml6).trans qm;have e0:=(bcl (o:=off+j *5) hE hbb).trans p0;have f0:=(bcl (o:=0) hE hgl6).trans q0;have e1:=(bcl (o:=off+j *5+1) hE hbb).trans p1;have f1:=(bcl (o:=1) hE hgl6).trans q1;have e2:=(bcl (o:=off+j *5+2) hE hbb).trans p2;have f2:=(bcl (o:=2) hE hgl6).trans q2;have e3:=(bcl (o:=off+j *5+3) hE hbb).trans p3
       have f3:=(bcl (o:=3) hE hgl6).trans q3;have e4:=(bcl (o:=off+j *5+4) hE hbb).trans p4;have f4:=(bcl (o:=4) hE hgl6).trans q4;rcases i with _|_|_|_|_|_|_|_|_|_|_|_|_|_|_|_|_|_|_|i
       all_goals first
        |(exfalso;simp at hio;done)
        |(simp at hio;subst hio;simp[bindD,rdB,Region.binds,factAt]at haf;simp[opU,go_sem,haf,em,e0,f0,e1,f1,e2,f2,e3,f3,e4,f4,Ext.refl,factAt,hltI,hlt',ho];done)
        |skip
       all_goals
        simp at hio;subst hio;simp[bindD,rdB,Region.binds,factAt]at haf
       ·simp[opU,go_sem,haf,em,e0,f0,e1,f1,e2,f2,e3,f3,e4,f4,Ext.refl,factAt,hltI,hlt',ho];exact(HO.out W hE).mono fun e W' h=>⟨h.2,h.1⟩
      ·intro vals W hE hF;simp[facts]at hF;simp[relAct,dstAt,Act.put,hF];clear hF;have hE2:Below w1.heap.size w1 W:=hbel.trans (hE.mono hs6);go_wp2_with fail;refine⟨⟨j+1,hlt,by go_num, ?_,hE2⟩,by simp[intOf];omega⟩;intro y hy;rw[List.take_succ_eq_append_getElem hlt,List.mem_append]at hy;rcases hy with hy|hy
       ·exact HLO.out y hy
       ·have:y=L[j]:=by simpa using hy
        rw[this];exact HOX.out.1.1 ho
     ·go_wp2_with fail
      refine wp_region_mono mixed0 (by kernel_rfl) [.is (.int .i64 (j:Int)),.is (.pointer (some ⟨m,0,none⟩)),.is (.pointer (some ⟨m,0,none⟩)),.is (.pointer (some ⟨m,1,none⟩)),.is (.slice (some ⟨bb,off,none⟩) rs.length c),.is (.int .i64 (rs.length:Int)),.is (.bool true),.is (.bool true),.is (.pointer (some ⟨m,0,none⟩)),.is (.pointer (some ⟨m,0,none⟩)),.is (.pointer (some ⟨m,1,none⟩)),.is (.slice (some ⟨bb,off,none⟩) rs.length c),.is (.int .i64 (j:Int)),.is (.pointer (some ⟨bb,off+j *5,none⟩)),.is (.agg #[.slice a.A a.n.length a.cn,.int .u16 (a.t:Int),.int .u16 a.cl,.int .u32 a.ttl,.slice a.D a.d.length a.cd]),.is (.agg #[.slice An n.length cn,.int .u16 (t:Int),.int .u16 1,.int .u32 ttl,.slice Ad d.length cd]),.is (.int .i64 o),.is (.bool false),.is (.bool false)] rfl ?_ ?_
      ·intro i o hio vals W hE haf;have em:=(bcl (o:=1) hE hml6).trans qm;have e0:=(bcl (o:=off+j *5) hE hbb).trans p0;have f0:=(bcl (o:=0) hE hgl6).trans q0;have e1:=(bcl (o:=off+j *5+1) hE hbb).trans p1;have f1:=(bcl (o:=1) hE hgl6).trans q1;have e2:=(bcl (o:=off+j *5+2) hE hbb).trans p2;have f2:=(bcl (o:=2) hE hgl6).trans q2;have e3:=(bcl (o:=off+j *5+3) hE hbb).trans p3
       have f3:=(bcl (o:=3) hE hgl6).trans q3;have e4:=(bcl (o:=off+j *5+4) hE hbb).trans p4;have f4:=(bcl (o:=4) hE hgl6).trans q4;rcases i with _|_|_|_|_|_|_|_|_|_|_|_|_|_|_|_|_|_|_|i
       all_goals first
        |(exfalso;simp at hio;done)
        |(simp at hio;subst hio;simp[bindD,rdB,Region.binds,factAt]at haf;simp[opU,go_sem,haf,em,e0,f0,e1,f1,e2,f2,e3,f3,e4,f4,Ext.refl,factAt,hltI,hlt',ho];done)
        |skip
       all_goals
        simp at hio;subst hio;simp[bindD,rdB,Region.binds,factAt]at haf
       ·simp[opU,go_sem,haf,em,e0,f0,e1,f1,e2,f2,e3,f3,e4,f4,Ext.refl,factAt,hltI,hlt',ho];exact(HO.out W hE).mono fun e W' h=>⟨h.2,h.1⟩
      ·intro vals V6 hE hF;simp[facts]at hF;simp[relAct,dstAt,Act.put,hF];clear hF;have hE2:Below w1.heap.size w1 V6:=hbel.trans (hE.mono hs6);have hge:∀h:j < L.length,¬ltP L[j] x:=fun _ e=>by have:=HOX.out.1.2 e;omega
       have HGE:=hid hge;clear hge;go_wp2_with fail;go_meet
       case rel=>exact⟨j,rfl,hj,HLO.out,HGE.out,hE2⟩
    ·have hltI:¬(j:Int) < (rs.length:Int):=by omega
     have hlt':¬j < rs.length:=by omega
     have hle':rs.length≤j:=by omega
     obtain⟨⟨q0,q1,q2,q3,q4⟩,qm⟩:=HALL.out wr hbel;have hs6:=hbel.size;have hgl6:w.heap.size < wr.heap.size:=by omega
     have hml6:m < wr.heap.size:=by omega
     have hrest:∀y∈L.drop j,ltP x y:=by
      rw[List.drop_eq_nil_of_le (by omega)];intro y hy;cases hy
     go_wp2_with fail;refine wp_region_mono mixed0 (by kernel_rfl) [.is (.int .i64 (j:Int)),.is (.pointer (some ⟨m,0,none⟩)),.is (.pointer (some ⟨m,0,none⟩)),.is (.pointer (some ⟨m,1,none⟩)),.is (.slice A rs.length c),.is (.int .i64 (rs.length:Int)),.is (.bool false),.is (.bool false),.any,.any,.any,.any,.any,.any,.any,.any,.any,.any,.is (.bool false)] rfl ?_ ?_
     ·intro i o hio vals W hE haf;have em:=(bcl (o:=1) hE hml6).trans qm;rcases i with _|_|_|_|_|_|_|_|_|_|_|_|_|_|_|_|_|_|_|i
      all_goals first
       |(exfalso;simp at hio;done)
       |(simp at hio;subst hio;simp[bindD,rdB,Region.binds,factAt]at haf;simp[opU,go_sem,haf,em,Ext.refl,factAt,hltI,hlt',hle'];done)
       |skip
      all_goals
       simp at hio;subst hio;simp[bindD,rdB,Region.binds,factAt]at haf
     ·intro vals V6 hE hF;simp[facts]at hF;simp[relAct,dstAt,Act.put,hF];clear hF;have hE2:Below w1.heap.size w1 V6:=hbel.trans (hE.mono hs6);go_wp2_with fail;go_meet
      case rel=>exact⟨j,rfl,hj,HLO.out,fun h=>absurd h hlt,hE2⟩
  case rest=>
   obtain⟨j,rfl,hj,hlo,hge,hE2⟩:=hcut;have HLO:=hid hlo;have HGE:=hid hge;clear hlo hge;have hs8:=hE2.size;have hgl8:w.heap.size < wc.heap.size:=by omega
   have hml8:m < wc.heap.size:=by omega
   have HW8:=hid hE2
   go_upto_region 8 with fail
   go_cut [7]from 56 to 74 (fun v wx=>∃th:Bool,v=.bool th∧(th=true→∃h:j < L.length,L[j].n=x.n∧L[j].t=x.t∧L[j].c=x.c)∧(th=false→∀y∈L.drop j,ltP x y)∧Below w1.heap.size w1 wx)
   case first=>
    by_cases hlt:j < L.length
    ·obtain⟨a,bb,off,rfl,hbb8,haok,hacl,hapr,p0,p1,p2,p3,p4⟩:=recAt (HRS.out.1.below hE2) HRS.out.2.1 HRS.out.2.2 hlt;obtain⟨⟨q0,q1,q2,q3,q4⟩,qm⟩:=HALL.out wc hE2;have hltI:(j:Int) < (rs.length:Int):=by omega
     have hlt':j < rs.length:=by omega
     obtain⟨o,ho⟩:∃o,ordP L[j] p=o:=⟨_,rfl⟩
     have HO8:Hid (∀W,Below wc.heap.size wc W→Calls prog 109 #[.agg #[.slice a.A a.n.length a.cn,.int .u16 (a.t:Int),.int .u16 a.cl,.int .u32 a.ttl,.slice a.D a.d.length a.cd],.agg #[.slice An n.length cn,.int .u16 (t:Int),.int .u16 1,.int .u32 ttl,.slice Ad d.length cd]] W fun e w'=>Below W.heap.size W w'∧e=.returned (.int .i64 o)):=hid fun W hW=>by
      have:=ROrder a ⟨An,n,cn,t,1,ttl,Ad,d,cd⟩ W (haok.below hW) ((HR.out.below (hE2.trans (hW.mono hE2.size))).ok);rw[hapr,HPR.out,ho]at this;exact this
     have HOX:Hid ((o < 0↔ltP L[j] x)∧(o=0↔cmpN L[j].n x.n=0∧L[j].t=x.t∧L[j].c=x.c)):=hid (by
      rw[←ho,HX.out];exact⟨ordP_lt _ _,ordP_eq _ _⟩)
     clear haok hapr ho hacl;by_cases ho0:o=0
     ·subst ho0;have HKEY:Hid (L[j].n=x.n∧L[j].t=x.t∧L[j].c=x.c):=hid (by
       have hk:=HOX.out.2.1 rfl;have e1:=(cmpN_zero _ _).1 hk.1;rw[(HRS.out.2.2 _ (List.getElem_mem hlt)).low,HRV.out.1.low]at e1;exact⟨e1,hk.2⟩)
      clear HOX;go_wp2_with fail
      refine wp_region_mono mixed0 (by kernel_rfl) [.is (.int .i64 (j:Int)),.is (.pointer (some ⟨m,0,none⟩)),.is (.pointer (some ⟨m,0,none⟩)),.is (.pointer (some ⟨m,1,none⟩)),.is (.slice (some ⟨bb,off,none⟩) rs.length c),.is (.int .i64 (rs.length:Int)),.is (.bool true),.is (.bool true),.is (.pointer (some ⟨m,0,none⟩)),.is (.pointer (some ⟨m,0,none⟩)),.is (.pointer (some ⟨m,1,none⟩)),.is (.slice (some ⟨bb,off,none⟩) rs.length c),.is (.int .i64 (j:Int)),.is (.pointer (some ⟨bb,off+j *5,none⟩)),.is (.agg #[.slice a.A a.n.length a.cn,.int .u16 (a.t:Int),.int .u16 a.cl,.int .u32 a.ttl,.slice a.D a.d.length a.cd]),.is (.agg #[.slice An n.length cn,.int .u16 (t:Int),.int .u16 1,.int .u32 ttl,.slice Ad d.length cd]),.is (.int .i64 0),.is (.bool true),.is (.bool true),.is (.bool true)] rfl ?_ ?_
      ·intro i o hio vals W hE haf;have em:=(bcl (o:=1) hE hml8).trans qm;have e0:=(bcl (o:=off+j *5) hE hbb8).trans p0;have f0:=(bcl (o:=0) hE hgl8).trans q0;have e1:=(bcl (o:=off+j *5+1) hE hbb8).trans p1;have f1:=(bcl (o:=1) hE hgl8).trans q1;have e2:=(bcl (o:=off+j *5+2) hE hbb8).trans p2;have f2:=(bcl (o:=2) hE hgl8).trans q2;have e3:=(bcl (o:=off+j *5+3) hE hbb8).trans p3
       have f3:=(bcl (o:=3) hE hgl8).trans q3;have e4:=(bcl (o:=off+j *5+4) hE hbb8).trans p4;have f4:=(bcl (o:=4) hE hgl8).trans q4;rcases i with _|_|_|_|_|_|_|_|_|_|_|_|_|_|_|_|_|_|_|_|i
       all_goals first
        |(exfalso;simp at hio;done)
        |(simp at hio;subst hio;simp[bindD,rdB,Region.binds,factAt]at haf;simp[opU,go_sem,haf,em,e0,f0,e1,f1,e2,f2,e3,f3,e4,f4,Ext.refl,factAt,hltI,hlt'];done)
        |skip
       all_goals
        simp at hio;subst hio;simp[bindD,rdB,Region.binds,factAt]at haf
       ·simp[opU,go_sem,haf,em,e0,f0,e1,f1,e2,f2,e3,f3,e4,f4,Ext.refl,factAt,hltI,hlt'];exact(HO8.out W hE).mono fun e W' h=>⟨h.2,h.1⟩
      ·intro vals W hE hF;simp[facts]at hF;simp[relAct,dstAt,Act.put,hF];clear hF;have hEW:Below w1.heap.size w1 W:=HW8.out.trans (hE.mono hs8);go_wp2_with fail;go_meet
       case rel=>exact⟨true,rfl,fun _=>⟨hlt,HKEY.out⟩,fun h=>(by cases h),hEW⟩
     ·have HSP:Hid (∀y∈L.drop j,ltP x y):=hid (by
       have hgt:ltP x L[j]:=by
        rcases ltP_cases L[j] x (HRS.out.2.2 _ (List.getElem_mem hlt)).low HRV.out.1.low with e|⟨e1,e2,e3⟩|e
        ·exact absurd e (HGE.out hlt)
        ·exact absurd (HOX.out.2.2 ⟨(cmpN_zero _ _).2 (by rw[e1]),e2,e3⟩) ho0
        ·exact e
       have hsr:=HS.out.srt;intro y hy;rw[List.drop_eq_getElem_cons hlt]at hy;rcases List.mem_cons.1 hy with rfl|hy
       ·exact hgt
       ·refine hgt.trans ?_;rw[←List.take_append_drop j L,List.drop_eq_getElem_cons hlt]at hsr;exact(List.pairwise_cons.1 (List.pairwise_append.1 hsr).2.1).1 y hy)
      clear HOX;go_wp2_with fail
      refine wp_region_mono mixed0 (by kernel_rfl) [.is (.int .i64 (j:Int)),.is (.pointer (some ⟨m,0,none⟩)),.is (.pointer (some ⟨m,0,none⟩)),.is (.pointer (some ⟨m,1,none⟩)),.is (.slice (some ⟨bb,off,none⟩) rs.length c),.is (.int .i64 (rs.length:Int)),.is (.bool true),.is (.bool true),.is (.pointer (some ⟨m,0,none⟩)),.is (.pointer (some ⟨m,0,none⟩)),.is (.pointer (some ⟨m,1,none⟩)),.is (.slice (some ⟨bb,off,none⟩) rs.length c),.is (.int .i64 (j:Int)),.is (.pointer (some ⟨bb,off+j *5,none⟩)),.is (.agg #[.slice a.A a.n.length a.cn,.int .u16 (a.t:Int),.int .u16 a.cl,.int .u32 a.ttl,.slice a.D a.d.length a.cd]),.is (.agg #[.slice An n.length cn,.int .u16 (t:Int),.int .u16 1,.int .u32 ttl,.slice Ad d.length cd]),.is (.int .i64 o),.is (.bool false),.is (.bool false),.is (.bool false)] rfl ?_ ?_
      ·intro i o hio vals W hE haf;have em:=(bcl (o:=1) hE hml8).trans qm;have e0:=(bcl (o:=off+j *5) hE hbb8).trans p0;have f0:=(bcl (o:=0) hE hgl8).trans q0;have e1:=(bcl (o:=off+j *5+1) hE hbb8).trans p1;have f1:=(bcl (o:=1) hE hgl8).trans q1;have e2:=(bcl (o:=off+j *5+2) hE hbb8).trans p2;have f2:=(bcl (o:=2) hE hgl8).trans q2;have e3:=(bcl (o:=off+j *5+3) hE hbb8).trans p3
       have f3:=(bcl (o:=3) hE hgl8).trans q3;have e4:=(bcl (o:=off+j *5+4) hE hbb8).trans p4;have f4:=(bcl (o:=4) hE hgl8).trans q4;rcases i with _|_|_|_|_|_|_|_|_|_|_|_|_|_|_|_|_|_|_|_|i
       all_goals first
        |(exfalso;simp at hio;done)
        |(simp at hio;subst hio;simp[bindD,rdB,Region.binds,factAt]at haf;simp[opU,go_sem,haf,em,e0,f0,e1,f1,e2,f2,e3,f3,e4,f4,Ext.refl,factAt,hltI,hlt',ho0];done)
        |skip
       all_goals
        simp at hio;subst hio;simp[bindD,rdB,Region.binds,factAt]at haf
       ·simp[opU,go_sem,haf,em,e0,f0,e1,f1,e2,f2,e3,f3,e4,f4,Ext.refl,factAt,hltI,hlt',ho0];exact(HO8.out W hE).mono fun e W' h=>⟨h.2,h.1⟩
      ·intro vals W hE hF;simp[facts]at hF;simp[relAct,dstAt,Act.put,hF];clear hF;have hEW:Below w1.heap.size w1 W:=HW8.out.trans (hE.mono hs8);go_wp2_with fail;go_meet
       case rel=>exact⟨false,rfl,fun h=>(by cases h),fun _=>HSP.out,hEW⟩
    ·have hltI:¬(j:Int) < (rs.length:Int):=by omega
     have hlt':¬j < rs.length:=by omega
     have hle':rs.length≤j:=by omega
     obtain⟨_,qm⟩:=HALL.out wc hE2;go_wp2_with fail
     refine wp_region_mono mixed0 (by kernel_rfl) [.is (.int .i64 (j:Int)),.is (.pointer (some ⟨m,0,none⟩)),.is (.pointer (some ⟨m,0,none⟩)),.is (.pointer (some ⟨m,1,none⟩)),.is (.slice A rs.length c),.is (.int .i64 (rs.length:Int)),.is (.bool false),.is (.bool false),.any,.any,.any,.any,.any,.any,.any,.any,.any,.any,.is (.bool false),.is (.bool false)] rfl ?_ ?_
     ·intro i o hio vals W hE haf;have em:=(bcl (o:=1) hE hml8).trans qm;rcases i with _|_|_|_|_|_|_|_|_|_|_|_|_|_|_|_|_|_|_|_|i
      all_goals first
       |(exfalso;simp at hio;done)
       |(simp at hio;subst hio;simp[bindD,rdB,Region.binds,factAt]at haf;simp[opU,go_sem,haf,em,Ext.refl,factAt,hltI,hlt',hle'];done)
       |skip
      all_goals
       simp at hio;subst hio;simp[bindD,rdB,Region.binds,factAt]at haf
     ·intro vals W hE hF;simp[facts]at hF;simp[relAct,dstAt,Act.put,hF];clear hF;have hEW:Below w1.heap.size w1 W:=HW8.out.trans (hE.mono hs8);go_wp2_with fail;go_meet
      case rel=>exact⟨false,rfl,fun h=>(by cases h),fun _ y hy=>(by rw[List.drop_eq_nil_of_le (by omega)]at hy;cases hy),hEW⟩
   case rest=>
    clear HW8 hs8 hgl8 hml8 hE2;obtain⟨th,rfl,hyes,hno,hE2⟩:=hcut;have HYN:=hid (And.intro hyes hno);clear hyes hno;have hs9:=hE2.size;have hglW:w.heap.size < wc.heap.size:=by omega
    have hmlW:m < wc.heap.size:=by omega
    have HW9:=hid hE2;have HTH:Hid (th=true→∃tt ds,F (lower n) t=some (tt,ds)∧putC F (lower n) t ttl d (canonD t d)=(updC F (lower n) t (some (ttl,ds)),tt !=ttl)∧∃h:j < L.length,L[j].ttl=tt):=hid (fun e=>by
     obtain⟨hlt,k1,k2,k3⟩:=HYN.out.1 e;have hxv:=HRV.out.2;have:=lst_there HS.out (ttl:=ttl) (d:=d) (List.getElem_mem hlt) (k1.trans (by rw[hxv])) (k2.trans (by rw[hxv])) (k3.trans (by rw[hxv]));obtain⟨ds,h1,h2⟩:=this;exact⟨_,ds,h1,h2,hlt,rfl⟩)
    go_upto_region 9 with fail
    go_cut [88]from 75 to 87 (fun v wx=>∃b:Bool,v=.bool b∧(b=true→th=true∧∀h:j < L.length,L[j].ttl=ttl)∧(b=false→th=true→∀h:j < L.length,L[j].ttl≠ttl)∧Below w1.heap.size w1 wx)
    case first=>
     cases th with
     |false=>
      go_wp2_with fail;refine wp_region_mono mixed0 (by kernel_rfl) [.is (.bool false),.is (.bool false),.any,.any,.any,.any,.any,.any,.any,.any,.any,.any,.any,.is (.bool false)] rfl ?_ ?_
      ·intro i o hio vals W hE haf;rcases i with _|_|_|_|_|_|_|_|_|_|_|_|_|_|i
       all_goals first
        |(exfalso;simp at hio;done)
        |(simp at hio;subst hio;simp[bindD,rdB,Region.binds,factAt]at haf;simp[opU,go_sem,haf,Ext.refl,factAt];done)
        |skip
       all_goals
        simp at hio;subst hio;simp[bindD,rdB,Region.binds,factAt]at haf
      ·intro vals V hE hF;simp[facts]at hF;simp[relAct,dstAt,Act.put,hF];clear hF;have hEV:Below w1.heap.size w1 V:=HW9.out.trans (hE.mono hs9);go_wp2_with fail;go_meet
       case rel=>exact⟨false,rfl,fun h=>(by cases h),fun _ h=>(by cases h),hEV⟩
     |true=>
      obtain⟨hlt,_⟩:=HYN.out.1 rfl;obtain⟨a,bb,off,rfl,hbbW,haok,hacl,hapr,p0,p1,p2,p3,p4⟩:=recAt (HRS.out.1.below hE2) HRS.out.2.1 HRS.out.2.2 hlt;obtain⟨⟨q0,q1,q2,q3,q4⟩,qm⟩:=HALL.out wc hE2;have hltI:(j:Int) < (rs.length:Int):=by omega
      have hlt':j < rs.length:=by omega
      have HAT:Hid (a.ttl=L[j].ttl):=hid (by rw[←hapr];rfl);clear haok hacl hapr p0 p1 p2 p4 q0 q1 q2 q4;by_cases ht:a.ttl=ttl
      ·go_wp2_with fail
       refine wp_region_mono mixed0 (by kernel_rfl) [.is (.bool true),.is (.bool true),.is (.pointer (some ⟨m,0,none⟩)),.is (.pointer (some ⟨m,0,none⟩)),.is (.pointer (some ⟨m,1,none⟩)),.is (.slice (some ⟨bb,off,none⟩) rs.length c),.is (.int .i64 (j:Int)),.is (.pointer (some ⟨bb,off+j *5,none⟩)),.is (.pointer (some ⟨bb,off+j *5+3,none⟩)),.is (.int .u32 a.ttl),.is (.pointer (some ⟨w.heap.size,3,none⟩)),.is (.int .u32 ttl),.is (.bool true),.is (.bool true)] rfl ?_ ?_
       ·intro i o hio vals W hE haf;have em:=(bcl (o:=1) hE hmlW).trans qm;have e3:=(bcl (o:=off+j *5+3) hE hbbW).trans p3;have f3:=(bcl (o:=3) hE hglW).trans q3;rcases i with _|_|_|_|_|_|_|_|_|_|_|_|_|_|i
        all_goals first
         |(exfalso;simp at hio;done)
         |(simp at hio;subst hio;simp[bindD,rdB,Region.binds,factAt]at haf;simp[opU,go_sem,haf,em,e3,f3,Ext.refl,factAt,hltI,hlt',ht];done)
         |skip
        all_goals
         simp at hio;subst hio;simp[bindD,rdB,Region.binds,factAt]at haf
       ·intro vals V hE hF;simp[facts]at hF;simp[relAct,dstAt,Act.put,hF];clear hF;have hEV:Below w1.heap.size w1 V:=HW9.out.trans (hE.mono hs9);go_wp2_with fail;go_meet
        case rel=>exact⟨true,rfl,fun _=>⟨by first|rfl|trivial,fun _=>by rw[←HAT.out];exact ht⟩,fun h=>(by cases h),hEV⟩
      ·go_wp2_with fail
       refine wp_region_mono mixed0 (by kernel_rfl) [.is (.bool true),.is (.bool true),.is (.pointer (some ⟨m,0,none⟩)),.is (.pointer (some ⟨m,0,none⟩)),.is (.pointer (some ⟨m,1,none⟩)),.is (.slice (some ⟨bb,off,none⟩) rs.length c),.is (.int .i64 (j:Int)),.is (.pointer (some ⟨bb,off+j *5,none⟩)),.is (.pointer (some ⟨bb,off+j *5+3,none⟩)),.is (.int .u32 a.ttl),.is (.pointer (some ⟨w.heap.size,3,none⟩)),.is (.int .u32 ttl),.is (.bool false),.is (.bool false)] rfl ?_ ?_
       ·intro i o hio vals W hE haf;have em:=(bcl (o:=1) hE hmlW).trans qm;have e3:=(bcl (o:=off+j *5+3) hE hbbW).trans p3;have f3:=(bcl (o:=3) hE hglW).trans q3;rcases i with _|_|_|_|_|_|_|_|_|_|_|_|_|_|i
        all_goals first
         |(exfalso;simp at hio;done)
         |(simp at hio;subst hio;simp[bindD,rdB,Region.binds,factAt]at haf;simp[opU,go_sem,haf,em,e3,f3,Ext.refl,factAt,hltI,hlt',ht];done)
         |skip
        all_goals
         simp at hio;subst hio;simp[bindD,rdB,Region.binds,factAt]at haf
       ·intro vals V hE hF;simp[facts]at hF;simp[relAct,dstAt,Act.put,hF];clear hF;have hEV:Below w1.heap.size w1 V:=HW9.out.trans (hE.mono hs9);go_wp2_with fail;go_meet
        case rel=>exact⟨false,rfl,fun h=>(by cases h),fun _ _ _ e=>ht (by rw[HAT.out];exact e),hEV⟩
    case rest=>
     clear HW9 hs9 hglW hmlW hE2;obtain⟨b,rfl,hb1,hb0,hE2⟩:=hcut;cases b with
     |true=>
      obtain⟨hth,htt⟩:=hb1 rfl;have hEw:Below w.heap.size w wc:=HB1.out.trans (hE2.mono HB1.out.size);have HE9:=hid hEw;have HFI:Hid (putC F (lower n) t ttl d (canonD t d)=(F,false)):=hid (by
       obtain⟨tt,ds,hd1,hd2,hlt,e⟩:=HTH.out hth;have e2:=htt hlt;rw[e]at e2;subst e2;rw[hd2,←hd1,updC_self];simp)
      clear hE2 hEw hb1 hb0 hth htt HTH;go_wp2_with fail
      go_ret2
      refine⟨(Kept.of_ext HE9.out).mono fun _ _ h=>h.elim, ?_⟩ <;> (first|exact⟨by rw[HFI.out];rfl,L,S,HH.out.below HE9.out,by rw[HFI.out];exact HS.out,by omega,fun k hk=>.inl hk⟩|exact⟨L,S,by rw[HFI.out];rfl,HH.out.below HE9.out,by rw[HFI.out];exact HS.out,by omega,fun k hk=>.inl hk⟩)
     |false=>
      have HB0:=hid (And.intro hb0 hE2);have HE8:=hid hE2;have hs8:=hE2.size;clear hb1 hb0
      go_upto_if 90 with fail
      go_cut [8]from 75 to 125 (fun v8 wx=>(∃u:Value,v8=u)∧∃(A1:Option Addr) (cA ln:Nat) (rs1:List RcB) (L1:List PR),MidS w wx B Br m S ⟨An,n,cn,t,1,ttl,Ad,d,cd⟩ F L Aa ca A1 cA ln rs1 L1)
      case first=>
       cases th with
       |true=>
        have hMS:MidS w wc B Br m S ⟨An,n,cn,t,1,ttl,Ad,d,cd⟩ F L Aa ca A c rs.length rs L:=by
         obtain⟨tt,ds,hd1,hd2,hlt,e⟩:=HTH.out rfl;have e2:=HB0.out.1 rfl rfl hlt;rw[e]at e2
         exact⟨⟨(hE2.block _ hml1).trans hm1,rfl,own_below HAP.out hE2,HRS.out.1.below hE2,(hE2.block _ hgl).trans c1,HR.out.below hE2,fun k hk=>by have:=HSL.out k hk;omega⟩,by show LstP (putC F (lower n) t ttl d (canonD t d)).1 _;rw[hd2];exact lst_ttl HS.out hd1,by show(putC F (lower n) t ttl d (canonD t d)).2=true;rw[hd2];simpa using e2,HRS.out.2.2,HRS.out.2.1,by omega,(Kept.of_ext (HB1.out.trans (hE2.mono HB1.out.size))).mono fun _ _ h=>h.elim,fun k hk _=>HSM.out.2 k hk,hll.symm,by omega⟩
        have HMS:=hid hMS;clear hMS;go_wp2_with fail;go_meet
        case rel=>exact⟨⟨_,rfl⟩,A,c,rs.length,rs,L,HMS.out⟩
       |false=>
        have HSP:Hid (∀y∈L.drop j,ltP x y):=hid (HYN.out.2 rfl);clear hE2;have hE9:=HE8.out;clear HTH HB0;obtain⟨⟨u0,u1,u2,u3,u4⟩,um⟩:=HALL.out wc hE9;have h2000:¬(2000:Int)≤(rs.length:Int):=by omega
        have hs9:=hE9.size;have b14:Below wc.heap.size wc (wc.alloc (.cells #[.slice An n.length cn,.int .u16 (t:Int),.int .u16 1,.int .u32 ttl,.slice Ad d.length cd] 39)):=bAl;have c14:=heap_alloc_new wc (.cells #[.slice An n.length cn,.int .u16 (t:Int),.int .u16 1,.int .u32 ttl,.slice Ad d.length cd] 39)
        have hg2:wc.heap.size < (wc.alloc (.cells #[.slice An n.length cn,.int .u16 (t:Int),.int .u16 1,.int .u32 ttl,.slice Ad d.length cd] 39)).heap.size:=lt_block c14
        go_upto_region 15 with fail
        generalize wc.alloc (.cells #[.slice An n.length cn,.int .u16 (t:Int),.int .u16 1,.int .u32 ttl,.slice Ad d.length cd] 39)=W10 at *;have hE10:Below w1.heap.size w1 W10:=hE9.trans (b14.mono hs9);clear u0 u1 u2 u3 u4 um b14;generalize wc.heap.size=g2 at *;obtain⟨⟨u0,u1,u2,u3,u4⟩,um⟩:=HALL.out W10 hE10;have hs10:=hE10.size;have hne2:w.heap.size≠g2:=by omega
        refine wp_region_r2 mixed0 (by kernel_rfl) (fun _ _=>false) (kills_none _ _) (T15 g2 t ttl) (C15 W10 g2 t ttl) (R15 W10.heap.size w.heap.size g2 t ttl n d (.slice An n.length cn) (.slice Ad d.length cd)) (fun _=>True) (fun _=>false) trivial (fun _ _ _ _ _ _ _=>trivial) ⟨⟨rfl,rfl,rfl,Nat.le_refl _,fun _ _ _=>rfl⟩,_,_,c14⟩ (fun i W W' h1 h2=>C15_keep h1 h2) (fun i j v W W' h1 _ _ h4 h5 h6=>R15_keep hg2 h1 h4 h5 h6) ?_ ?_
        ·intro i o hio vals W hC haf _;have f0:=(World.cell?_of_block (a:=⟨w.heap.size,0,none⟩) (hC.1.block _ (by show w.heap.size < _;omega) hne2)).trans u0;have f4:=(World.cell?_of_block (a:=⟨w.heap.size,4,none⟩) (hC.1.block _ (by show w.heap.size < _;omega) hne2)).trans u4;rcases i with _|_|_|_|_|_|_|_|_|_|i
         all_goals first
          |(exfalso;simp at hio;done)
          |skip
         all_goals
          simp at hio;subst hio;simp[bindD,rdB,Region.binds,R15]at haf
         all_goals first
          |(simp[opU,go_sem,haf,f0,f4,T15,R15,Ext.refl];done)
          |skip
         ·have hsz:=hC.1.size;simp[opU,go_sem,haf,T15,R15];refine(RLower An n cn W (cs_own (Kept.row (own_below HR.out.rowN hE10) hC.1 (fun k hk=>by have:=(HR.out.rowN.lt k hk).2;omega))).2 HR.out.small.few).mono fun e W' h=> ?_;obtain⟨v,he,hv,hb⟩:=h;exact⟨v,he,hb,own_base hv hsz⟩
         ·have hsz:=hC.1.size;have hcs:=(cs_own (Kept.row (own_below HR.out.rowD hE10) hC.1 (fun k hk=>by have:=(HR.out.rowD.lt k hk).2;omega))).2;have hdl:d.length≤100000:=HR.out.len
          refine yield_bytes rfl (.const (.slice none 0 0)) (.tmp 102) underlying37 rfl (B:=W.heap.size) (v:=.slice none 0 0) (n:=0) (xs:=[]) (us:=d.map byteV) (A:=Ad) (c:=cd) (by simp[relAct,dstAt,Act.put,Act.eval]) (World.ownsRow_nil _ _ _ _) (Nat.le_refl _) (by simp[relAct,dstAt,Act.put,Act.eval,haf]) hcs (fun u hu=>by obtain⟨b,_,rfl⟩:=List.mem_map.1 hu;rfl) (by rw[List.length_map];omega) ?_
          intro v' W' g1 g3;simp only[List.length_map,Nat.zero_add,List.nil_append]at g1;exact⟨by simp only[T15];exact g3,own_base g1 hsz⟩
         ·obtain⟨h6,h2⟩:=haf;have h2:OwnS W W10.heap.size n (vals 2):=h2;obtain⟨A2,c2,hv2,_⟩:=own_form h2;rw[hv2]at h2;obtain⟨xa,xe,hx5⟩:=hC.2;obtain⟨y0,_,_,_,_,yf⟩:=cells5 hx5;simp[opU,go_sem,h6,hv2,y0,yf];refine⟨store0,_,_,heap_set hx5,ownS_kept hg2 h2 ((Kept.refl (fun k=>k=g2) W).setCell (fun _=>rfl) _)⟩
         ·obtain⟨h8,h5⟩:=haf;have h5:OwnD W W10.heap.size d (vals 5):=h5;obtain⟨A5,c5,hv5,_⟩:=own_form h5;rw[hv5]at h5;obtain⟨xa,xe,hx5⟩:=hC.2;obtain⟨_,_,_,_,y4,yf⟩:=cells5 hx5;simp[opU,go_sem,h8,hv5,y4,yf];refine⟨store4,_,_,heap_set hx5,ownD_kept hg2 h5 ((Kept.refl (fun k=>k=g2) W).setCell (fun _=>rfl) _)⟩
        ·intro vals W15 hC hR;obtain⟨ea,ee,h7,hoS⟩:∃a e,X5 W15 g2 t ttl a e∧OwnS W15 W10.heap.size n a:=hR 7 (by decide) (fun _ _=>rfl);obtain⟨ea',ee',h9,hoD⟩:∃a e,X5 W15 g2 t ttl a e∧OwnD W15 W10.heap.size d e:=hR 9 (by decide) (fun _ _=>rfl);have he:ea=ea'∧ee=ee':=by
          unfold X5 at h7 h9;rw[h7]at h9;simp at h9;exact h9
         obtain⟨rfl,rfl⟩:=he;clear h9 hR;obtain⟨Al,cl,rfl,hcl⟩:=own_form hoS;obtain⟨Ac,cc,rfl,hcc⟩:=own_form hoD;simp[relAct,dstAt,Act.put];generalize vals 0=z0,vals 1=z1;generalize vals 2=z2,vals 3=z3;generalize vals 4=z4,vals 5=z5;generalize vals 6=z6,vals 8=z8;have hk15:Kept (fun k=>k=g2) W10 W15:=hC.1
         have hb15:Below w1.heap.size w1 W15:=hE10.trans (hk15.below hs10 (fun k hk e=>by omega));have hs15:=hk15.size;obtain⟨⟨u0',u1',u2',u3',u4'⟩,um'⟩:=HALL.out W15 hb15;have hm15:=(hb15.block _ hml1).trans hm1;have HRS15:=hid (HRS.out.1.below hb15);have HAP15:=hid (own_below HAP.out hb15);obtain⟨x0,x1,x2,x3,x4,xf⟩:=cells5 h7;obtain⟨mm0,mm1,mf⟩:=cells2 hm15
         have hjr:j≤rs.length:=by omega
         have hrc:=own_caps HRS15.out.row;have hnone:A=none→j=0:=fun e=>by
          subst e;rcases HRS15.out.row.2 with⟨_,e0⟩|⟨_,_,_,e0,_⟩
          ·omega
          ·cases e0
         have hg15:g2 < W15.heap.size:=by omega
         have hm15l:m < W15.heap.size:=lt_block hm15;have hfl:=flat_len rs;have HO15:=hid (And.intro hoS hoD);have HB15:=hid hb15;clear hC hoS hoD u0 u1 u2 u3 u4 um hk15 c14 hb15 hE10 hE9;go_wp2_with fail
         obtain⟨fs,hfs⟩:∃fs:List Fact,fs=[.is (.pointer (some ⟨m,0,none⟩)),.is (.pointer (some ⟨m,0,none⟩)),.is (.pointer (some ⟨m,0,none⟩)),.is (.pointer (some ⟨m,1,none⟩)),.is (.slice A rs.length c),.is (.int .i64 (j:Int)),.is (.int .i64 (j:Int)),.is (.slice A j j),
          .is (.agg #[.slice Al n.length cl,.int .u16 (t:Int),.int .u16 1,.int .u32 ttl,.slice Ac d.length cc]),.own W15.heap.size 39 5 1 [.slice Al n.length cl,.int .u16 (t:Int),.int .u16 1,.int .u32 ttl,.slice Ac d.length cc],
          .is (.pointer (some ⟨m,0,none⟩)),.is (.pointer (some ⟨m,0,none⟩)),.is (.pointer (some ⟨m,1,none⟩)),.is (.slice A rs.length c),.is (.int .i64 (j:Int)),.is (.slice (pieceR A c j) (rs.length - j) (c - j)),
          .own W15.heap.size 39 5 (1+(rs.length - j)) ([.slice Al n.length cl,.int .u16 (t:Int),.int .u16 1,.int .u32 ttl,.slice Ac d.length cc]++(rs.drop j).flatMap RcB.cells),
          .own W15.heap.size 39 5 (j+(1+(rs.length - j))) ((rs.take j).flatMap RcB.cells++([.slice Al n.length cl,.int .u16 (t:Int),.int .u16 1,.int .u32 ttl,.slice Ac d.length cc]++(rs.drop j).flatMap RcB.cells)),
          .is (.pointer (some ⟨m,0,none⟩)),.is (.pointer (some ⟨m,1,none⟩)),endF m W15.heap.size (.slice Aa 1 ca) (j+(1+(rs.length - j))) ((rs.take j).flatMap RcB.cells++([.slice Al n.length cl,.int .u16 (t:Int),.int .u16 1,.int .u32 ttl,.slice Ac d.length cc]++(rs.drop j).flatMap RcB.cells)) W15]:=⟨_,rfl⟩
         refine wp_region_r2 mixed0 (by kernel_rfl) (fun i j=>i==16&&j==9) (by kernel_rfl) (T16 m W15.heap.size) (fun W=>Kept (fun k=>k=m) W15 W) (fun j v W=>(factAt fs j).p v W) (fun W=>Below W15.heap.size W15 W) (fun i=>i==20) (Below.refl _ W15).drew ?_ ((Kept.refl (fun k=>k=m) W15).trans ⟨rfl,rfl,rfl,Nat.le_refl _,fun _ _ _=>rfl⟩) (fun i W W' h1 h2=>T16_kept h1.size h2 rfl h1) ?_ ?_ ?_
         ·intro i W W' hk hC h1 h2;have hi:i≠20:=fun e=>by rw[e]at hk;cases hk
          unfold T16 at h2;rw[if_neg hi]at h2;split at h2
          ·exact h1.trans h2
          ·exact h1.trans (h2.mono h1.size)
         ·intro i j v W W' hij hk hw hC h hT;by_cases h16:i=16
          ·subst h16;subst hfs;rcases j with _|_|_|_|_|_|_|_|_|_|_|_|_|_|_|_|_|_|_|_|_|j
           all_goals first
            |exact h
            |exact absurd rfl hij
            |exact absurd hk (by decide)
            |(refine absurd hw ?_;rw[Bool.not_eq_false];kernel_rfl)
          by_cases h20:i=20
          ·subst h20;subst hfs;have hT:Kept (fun k=>k=m) W W':=hT;rcases j with _|_|_|_|_|_|_|_|_|_|_|_|_|_|_|_|_|_|_|_|_|j
           all_goals first
            |exact h
            |exact absurd rfl hij
            |exact Kept.row h hT (fun k hk2=>by have:=(h.lt k hk2).1;omega)
          ·unfold T16 at hT;rw[if_neg h16,if_neg h20]at hT;exact(factAt fs j).st v W W' hT h
         ·intro i o hio vals W hC haf hI;subst hfs;rcases i with _|_|_|_|_|_|_|_|_|_|_|_|_|_|_|_|_|_|_|_|_|i
          all_goals first
           |(exfalso;simp at hio;done)
           |skip
          all_goals
           have hE:Below W15.heap.size W15 W:=hI (fun k hk h=>by
            have h20:k=20:=by simpa using h
            subst h20
            first|(left;rfl)|(right;kernel_rfl))
           have e0:=(bcl (o:=0) hE hg15).trans x0;have e1:=(bcl (o:=1) hE hg15).trans x1;have e2:=(bcl (o:=2) hE hg15).trans x2;have e3:=(bcl (o:=3) hE hg15).trans x3;have e4:=(bcl (o:=4) hE hg15).trans x4;have em:=(bcl (o:=1) hE hm15l).trans mm1;simp at hio;subst hio;simp[bindD,rdB,Region.binds,factAt]at haf
          all_goals first
           |(simp[opU,go_sem,haf,e0,e1,e2,e3,e4,em,Ext.refl,factAt,T16];done)
           |skip
          ·refine yield_slice3R rfl (.tmp 110) (.tmp 111) (.tmp 112) rfl (A:=A) (n:=rs.length) (c:=c) (k:=j) (I:=(j:Int)) (by simp[relAct,dstAt,Act.put,Act.eval,haf]) (by simp[relAct,dstAt,Act.put,Act.eval,haf]) (by simp[relAct,dstAt,Act.put,Act.eval,haf]) rfl hjr hrc.1 ?_;exact⟨by simp only[T16];exact Ext.refl _,rfl⟩
          ·simp[opU,go_sem,haf,factAt,T16];exact⟨bAl,own_row5 _ _ _ _ _ _ _ hE.size⟩
          ·refine yield_dropR rfl (.tmp 119) (.tmp 120) rfl (A:=A) (n:=rs.length) (c:=c) (k:=j) (I:=(j:Int)) (by simp[relAct,dstAt,Act.put,Act.eval,haf]) (by simp[relAct,dstAt,Act.put,Act.eval,haf]) rfl hjr hrc.1 ?_;exact⟨by simp only[T16];exact Ext.refl _,rfl⟩
          ·obtain⟨h9,h15⟩:=haf;have h9:W.ownsRow W15.heap.size 39 5 (vals 9) 1 [.slice Al n.length cl,.int .u16 (t:Int),.int .u16 1,.int .u32 ttl,.slice Ac d.length cc]:=h9;have hcs:=Cs.dropR ((cs_own2 HRS15.out.row).below hE) j c (by rw[hfl];exact Nat.mul_le_mul_right 5 hrc.1);rw[flat_drop]at hcs;have hdl5:((rs.drop j).flatMap RcB.cells).length=(rs.length - j) *5:=by rw[flat_len,List.length_drop]
           refine yield_rowsR rfl (.tmp 115) (.tmp 121) underlying31 rfl (v:=vals 9) (by simp[relAct,dstAt,Act.put,Act.eval]) h9 hE.size (us:=(rs.drop j).flatMap RcB.cells) (A:=pieceR A c j) (m:=rs.length - j) (c:=c - j) (by simp[relAct,dstAt,Act.put,Act.eval,h15]) hdl5 hcs (oneC _) (by omega) ?_;intro v' W' g1 g3;refine⟨?_,g1⟩;simp only[T16]
           exact g3.below hE.size (fun k hk e=>by have:=(h9.lt k e.symm).1;omega)
          ·obtain⟨h7',h16⟩:=haf;have h16:W.ownsRow W15.heap.size 39 5 (vals 16) (1+(rs.length - j)) ([.slice Al n.length cl,.int .u16 (t:Int),.int .u16 1,.int .u32 ttl,.slice Ac d.length cc]++(rs.drop j).flatMap RcB.cells):=h16;have htk:=((cs_own2 HRS15.out.row).below hE).take' (j *5);rw[flat_take]at htk;have hlt5:((rs.take j).flatMap RcB.cells).length=j *5:=by rw[flat_len,List.length_take];congr 1;omega
           have hln5:([.slice Al n.length cl,.int .u16 (t:Int),.int .u16 1,.int .u32 ttl,.slice Ac d.length cc]++(rs.drop j).flatMap RcB.cells:List Value).length=(1+(rs.length - j)) *5:=by rw[List.length_append,flat_len,List.length_drop];simp;omega
           obtain⟨A9,c9,e9,_⟩:=own_form h16;have hne:A9≠none:=fun e=>by
            subst e;rcases h16.2 with⟨_,e0⟩|⟨_,_,_,e0,_⟩
            ·omega
            ·rw[e9]at e0;cases e0
           obtain⟨a9,rfl⟩:∃a,A9=some a:=by
            cases A9 with
            |none=>exact absurd rfl hne
            |some a=>exact⟨a,rfl⟩
           have hc9:Cs W (some a9) ([.slice Al n.length cl,.int .u16 (t:Int),.int .u16 1,.int .u32 ttl,.slice Ac d.length cc]++(rs.drop j).flatMap RcB.cells):=by
            rw[e9]at h16;exact cs_own2 h16
           refine yield_growR rfl (.tmp 113) (.tmp 122) underlying31 rfl (ao:=A) (n:=j) (olds:=(rs.take j).flatMap RcB.cells) (by simp[relAct,dstAt,Act.put,Act.eval,h7']) hnone hlt5 htk (ad:=a9) (m:=1+(rs.length - j)) (c:=c9) (news:=[.slice Al n.length cl,.int .u16 (t:Int),.int .u16 1,.int .u32 ttl,.slice Ac d.length cc]++(rs.drop j).flatMap RcB.cells) (by simp[relAct,dstAt,Act.put,Act.eval,e9]) hln5 hc9 (fun u hu=>by
            rcases List.mem_append.1 hu with hu|hu
            ·simp only[List.mem_cons,List.not_mem_nil,or_false]at hu;rcases hu with rfl|rfl|rfl|rfl|rfl <;> rfl
            ·exact oneC _ u hu) (by omega) (by omega) ?_
           intro v' W' g1 g3;exact⟨by simp only[T16];exact g3,own_base g1 hE.size⟩
          ·obtain⟨h19,h17⟩:=haf;have h17:W.ownsRow W15.heap.size 39 5 (vals 17) (j+(1+(rs.length - j))) ((rs.take j).flatMap RcB.cells++([.slice Al n.length cl,.int .u16 (t:Int),.int .u16 1,.int .u32 ttl,.slice Ac d.length cc]++(rs.drop j).flatMap RcB.cells)):=h17;obtain⟨A7,c7,e7,_⟩:=own_form h17;rw[e7]at h17;have hmW:=(hE.block _ hm15l).trans hm15;obtain⟨_,w1',wf⟩:=cells2 hmW
           simp[opU,go_sem,h19,e7,w1',wf,factAt,T16];have hks:=(Kept.refl (fun k=>k=m) W).setCell (p:=⟨m,1,none⟩) (fun _=>rfl) (.slice A7 (j+(1+(rs.length - j))) c7);refine⟨hks,A7,c7,heap_set hmW,Kept.row h17 hks (fun k hk=>by have:=(h17.lt k hk).1;omega),hC.trans hks⟩
         ·intro vals W16 hC hR
          obtain⟨A1,cA,hm16,hr16,hk16⟩:∃A1 c1,W16.heap[m]? =some (.cells #[.slice Aa 1 ca,.slice A1 (j+(1+(rs.length - j))) c1] 33 (0,0))∧W16.ownsRow W15.heap.size 39 5 (.slice A1 (j+(1+(rs.length - j))) c1) (j+(1+(rs.length - j))) ((rs.take j).flatMap RcB.cells++([.slice Al n.length cl,.int .u16 (t:Int),.int .u16 1,.int .u32 ttl,.slice Ac d.length cc]++(rs.drop j).flatMap RcB.cells))∧Kept (fun k=>k=m) W15 W16:=by
           have h20:=hR 20 (by decide) (fun i hi=>by simp);subst hfs;exact h20
          clear hR hC hfs fs;simp[relAct,dstAt,Act.put];generalize vals 0=k0,vals 1=k1;generalize vals 2=k2,vals 3=k3;generalize vals 4=k4,vals 5=k5;generalize vals 6=k6,vals 7=k7;generalize vals 8=k8,vals 9=k9;generalize vals 10=k10,vals 11=k11;generalize vals 12=k12,vals 13=k13;generalize vals 14=k14,vals 15=k15
          generalize vals 16=k16,vals 17=k17;generalize vals 18=k18,vals 19=k19;obtain⟨L1,hL1⟩:∃L1,L1=L.take j++x::L.drop j:=⟨_,rfl⟩
          obtain⟨rs1,hrs1⟩:∃rs1:List RcB,rs1=rs.take j++(⟨⟨Al,lower n,cl⟩,t,ttl,⟨Ac,d,cc⟩⟩:RcB)::rs.drop j:=⟨_,rfl⟩
          obtain⟨ln,hln⟩:∃ln,j+(1+(rs.length - j))=ln:=⟨_,rfl⟩
          rw[hln]at hm16 hr16;have hl1:rs1.length=ln:=by rw[hrs1,←hln];simp;omega
          have hflat:(rs.take j).flatMap RcB.cells++([.slice Al n.length cl,.int .u16 (t:Int),.int .u16 1,.int .u32 ttl,.slice Ac d.length cc]++(rs.drop j).flatMap RcB.cells)=rs1.flatMap RcB.cells:=by
           rw[hrs1,List.flatMap_append,List.flatMap_cons];unfold RcB.cells NmB.v Blob.v;simp[lower_len]
          rw[hflat]at hr16;have hBw:B≤W10.heap.size:=by omega
          have hMid:Mid W16 B Br m w.heap.size ⟨An,n,cn,t,1,ttl,Ad,d,cd⟩ Aa ca A1 cA ln rs1:=by
           refine⟨hm16,hl1,row_far HAP15.out hm15 (by decide) hk16,⟨by rw[hl1];exact own_base hr16 (by omega),fun y hy=> ?_⟩,(hk16.block _ (by omega) (by omega)).trans ((HB15.out.block _ hgl).trans c1), ?_,fun k hk=> ?_⟩
           ·rw[hrs1]at hy;have hold:∀y∈rs,y.own W16 B:=fun y hy=>⟨row_far (HRS15.out.own y hy).1 hm15 (by decide) hk16,row_far (HRS15.out.own y hy).2 hm15 (by decide) hk16⟩
            rcases List.mem_append.1 hy with hy|hy
            ·exact hold y (List.mem_of_mem_take hy)
            ·rcases List.mem_cons.1 hy with rfl|hy
             ·have e1:W15.ownsRow W10.heap.size 9 1 (.slice Al n.length cl) n.length ((lower n).map strV):=HO15.out.1;have e2:W15.ownsRow W10.heap.size 5 1 (.slice Ac d.length cc) d.length (d.map byteV):=HO15.out.2;refine⟨?_,own_base (row_far e2 hm15 (by decide) hk16) hBw⟩;have e3:=own_base (row_far e1 hm15 (by decide) hk16) hBw;unfold NmB.own NmB.v;simp only[lower_len];exact e3
             ·exact hold y (List.mem_of_mem_drop hy)
           ·have hr15:=HR.out.below HB15.out;exact⟨row_far hr15.rowN hm15 (by decide) hk16,row_far hr15.rowD hm15 (by decide) hk16,hr15.small,hr15.name,hr15.inn,hr15.ty,hr15.cl,hr15.chk,hr15.len⟩
           ·have:=(hr16.lt k hk).1;omega
          have hxv:=HRV.out.2;have hPut:=lst_put (F:=F) (A:=L.take j) (R:=L.drop j) (n:=lower n) (t:=(t:Int)) (ttl:=ttl) (d:=d) (c:=canonD t d) (by rw[List.take_append_drop];exact HS.out) (fun y hy=>by have:=HLO.out y hy;rw[hxv]at this;exact this) (fun y hy=>by have:=HSP.out y hy;rw[hxv]at this;exact this);rw[←hxv,←hL1]at hPut
          have HT:Hid (LstP (putC F (lower n) t ttl d (canonD t d)).1 (ttlL L1 (lower n) t ttl)∧(putC F (lower n) t ttl d (canonD t d)).2=true∧(∀y∈L1,PG y)∧rs1.map RcB.says=L1.map PR.says∧L1.length≤L.length+1):=hid ⟨hPut.1,hPut.2,fun y hy=>by
           rw[hL1]at hy;rcases List.mem_append.1 hy with hy|hy
           ·exact HRS.out.2.2 y (List.mem_of_mem_take hy)
           ·rcases List.mem_cons.1 hy with rfl|hy
            ·exact HRV.out.1
            ·exact HRS.out.2.2 y (List.mem_of_mem_drop hy),by
           rw[hL1,hrs1,hxv];have hs:=HRS.out.2.1;simp only[List.map_append,List.map_cons,List.map_take,List.map_drop,hs];rfl,by rw[hL1];simp;omega⟩
          have HK:Hid (Kept S w W16∧∀k,(Value.slice A1 ln cA).ownBlock=some k→k < w.heap.size→S k):=hid ⟨((Kept.of_ext (HB1.out.trans (HB15.out.mono HB1.out.size))).mono fun _ _ h=>h.elim).then hk16 (fun k _ e=>by subst e;exact HSM.out.1),fun k hk hlt=>by have:=(hr16.lt k hk).1;omega⟩;have HM:=hid hMid;have HL1:Hid (L1.length=ln):=hid (by
           have:=congrArg List.length HT.out.2.2.2.1;simp at this;omega)
          have hln2:ln≤1001:=by omega
          clear hPut hMid hm16 hr16 hk16 hflat hrs1 hL1 hxv hl1 hln HO15 HRS15 HAP15 hm15 mm0 mm1 mf x0 x1 x2 x3 x4 xf h7 u0' u1' u2' u3' u4' um' hcl hcc hnone hfl hrc HSP HLO;have HMS:Hid (MidS w W16 B Br m S ⟨An,n,cn,t,1,ttl,Ad,d,cd⟩ F L Aa ca A1 cA ln rs1 L1):=hid ⟨HM.out,HT.out.1,HT.out.2.1,HT.out.2.2.1,HT.out.2.2.2.1,HT.out.2.2.2.2,HK.out.1,HK.out.2,HL1.out,hln2⟩;go_wp2_with fail;go_meet
          case rel=>exact⟨⟨_,rfl⟩,A1,cA,ln,rs1,L1,HMS.out⟩
      case rest=>
       obtain⟨_,A1,cA,ln,rs1,L1,hMS⟩:=hcut;have HM:=hid hMS.mid;have HT:Hid (LstP (putC F (lower n) t ttl d (canonD t d)).1 (ttlL L1 (lower n) t ttl)∧(putC F (lower n) t ttl d (canonD t d)).2=true∧(∀y∈L1,PG y)∧rs1.map RcB.says=L1.map PR.says∧L1.length≤L.length+1):=hid ⟨hMS.lst,hMS.tr,hMS.good,hMS.say,hMS.le⟩;have HK:=hid (And.intro hMS.kept hMS.blk)
       have HL1:=hid hMS.len;have hln2:=hMS.ln2;clear hMS HTH HB0 HE8 hE2 hll;generalize wc=V at *;go_wp2_with fail
       go_loopw [9] (TtlR V B Br m w.heap.size ⟨An,n,cn,t,1,ttl,Ad,d,cd⟩ Aa ca A1 cA ln L1 (lower n) t ttl) (fun i _=>L1.length - (intOf i).toNat)
       case atStart=>exact⟨0,rs1,Nat.zero_le _,rfl,by rw[HT.out.2.2.2.1];unfold ttlU;simp,HM.out,Kept.refl _ _⟩
       case round=>
        obtain⟨q,rs2,hq,rfl,hsay2,hmid,hk2⟩:=hrel;have HMID:=hid hmid;by_cases hlt:q < L1.length
        ·obtain⟨a,bb2,off2,rfl,hbb2,haok,hacl,hapr,p0,p1,p2,p3,p4⟩:=recAt hmid.rs hsay2 (ttlU_good HT.out.2.2.1 (lower n) t ttl q) (j:=q) (by rw[ttlU_len];exact hlt);rw[ttlU_at _ _ _ _ _ hlt]at hapr;have hPGq:=HT.out.2.2.1 _ (List.getElem_mem hlt);have hstep:=ttlU_step L1 (lower n) t ttl q hlt;have hatq:=ttlU_at L1 (lower n) t ttl q hlt;have hr2l:rs2.length=ln:=hmid.hl
         obtain⟨_,mm1,_⟩:=cells2 hmid.hm;obtain⟨q0,q1,q2,q3,q4,_⟩:=cells5 (show wr.heap[w.heap.size]? =some (.cells #[.slice An n.length cn,.int .u16 (t:Int),.int .u16 1,.int .u32 ttl,.slice Ad d.length cd] 39 (0,0))from hmid.hg);have hml2:=lt_block hmid.hm;have hgl2:=lt_block hmid.hg;have hltI:(q:Int) < (ln:Int):=by have:=HL1.out;omega
         have hlt':q < ln:=by have:=HL1.out;omega
         have HAO:=hid haok;have HQ:Hid (a.pr=L1[q]∧PG L1[q]∧ttlU L1 (lower n) t ttl (q+1)=(ttlU L1 (lower n) t ttl q).set q (ttlX (lower n) t ttl L1[q])):=hid ⟨hapr,hPGq,hstep⟩;have HSAY2:=hid hsay2;have HATQ:=hid hatq;clear hmid haok hapr hPGq hstep hatq hsay2 hacl
         have HKEEP:Hid (ttlX (lower n) t ttl L1[q]=L1[q]→rs2.map RcB.says=(ttlU L1 (lower n) t ttl (q+1)).map PR.says):=hid fun h=>by
          rw[HQ.out.2.2,h,←HATQ.out,List.set_getElem_self];exact HSAY2.out
         by_cases hty:a.t=t
         ·have htyI:(a.t:Int)=(t:Int):=by omega
          cases hsn:same a.n n with
          |true=>
           have HEQ:Hid (ttlX (lower n) t ttl L1[q]={L1[q]with ttl:=ttl}):=hid (ttlX_in (by
            have h1:=(same_iff _ _).1 hsn;have h2:=HQ.out.1;have h3:=HQ.out.2.1.low;rw[←h2]at h3 ⊢;have h3:lower a.n=a.n:=h3;exact⟨by show a.n=_;rw[←h3,h1],by show((a.t:Nat):Int)=_;omega⟩))
           go_wp2_with fail
           refine wp_region_mono mixed0 (by kernel_rfl) [.is (.pointer (some ⟨m,0,none⟩)),.is (.pointer (some ⟨m,0,none⟩)),.is (.pointer (some ⟨m,1,none⟩)),.is (.slice (some ⟨bb2,off2,none⟩) ln cA),.is (.int .i64 (q:Int)),.is (.pointer (some ⟨bb2,off2+q *5,none⟩)),.is (.pointer (some ⟨bb2,off2+q *5+1,none⟩)),.is (.int .u16 (a.t:Int)),.is (.pointer (some ⟨w.heap.size,1,none⟩)),.is (.int .u16 (t:Int)),.is (.bool true),.is (.bool true),.is (.pointer (some ⟨m,0,none⟩)),.is (.pointer (some ⟨m,0,none⟩)),.is (.pointer (some ⟨m,1,none⟩)),.is (.slice (some ⟨bb2,off2,none⟩) ln cA),.is (.int .i64 (q:Int)),.is (.pointer (some ⟨bb2,off2+q *5,none⟩)),.is (.pointer (some ⟨bb2,off2+q *5,none⟩)),.is (.slice a.A a.n.length a.cn),.is (.pointer (some ⟨w.heap.size,0,none⟩)),.is (.slice An n.length cn),.is (.bool true),.is (.bool true)] rfl ?_ ?_
           ·intro i o hio vals W hE haf;have em:=(bcl (o:=1) hE hml2).trans mm1;have e1:=(bcl (o:=off2+q *5+1) hE hbb2).trans p1;have f1:=(bcl (o:=1) hE hgl2).trans q1;have e0:=(bcl (o:=off2+q *5) hE hbb2).trans p0;have f0:=(bcl (o:=0) hE hgl2).trans q0;rcases i with _|_|_|_|_|_|_|_|_|_|_|_|_|_|_|_|_|_|_|_|_|_|_|_|i
            all_goals first
             |(exfalso;simp at hio;done)
             |(simp at hio;subst hio;simp[bindD,rdB,Region.binds,factAt]at haf;simp[opU,go_sem,haf,em,e1,f1,e0,f0,Ext.refl,factAt,hltI,hlt',htyI];done)
             |skip
            all_goals
             simp at hio;subst hio;simp[bindD,rdB,Region.binds,factAt]at haf
            ·simp[opU,go_sem,haf,em,e1,f1,e0,f0,Ext.refl,factAt,hltI,hlt',htyI];refine(RSame a.A An a.n n a.cn cn W (HAO.out.name.below hE) ((cs_own HMID.out.r.rowN).2.below hE) HAO.out.few HMID.out.r.small.few).mono fun e W' h=>⟨h.2.trans ?_,h.1⟩
             rw[hsn]
           ·intro vals W hE hF;simp[facts]at hF;simp[relAct,dstAt,Act.put,hF];clear hF;have hE2:Below wr.heap.size wr W:=hE;have hm2:=HMID.out.below hE2;have hk3:=hk2.trans ((Kept.of_ext hE2).mono fun _ _ h=>h.elim);replace mm1:=(bcl hE2 hml2).trans mm1;replace q3:=(bcl hE2 hgl2).trans q3;replace p3:=(bcl hE2 hbb2).trans p3;obtain⟨csb,hcsb,_⟩:=row_block hm2.rs.row rfl
            have hfr:W.frozen? ⟨bb2,off2+q *5+3,none⟩=false:=by simp[World.frozen?,hcsb]
            have HSET:=hid (hm2.set (j:=q) (by omega) ttl);have hs2:=hE2.size;clear hE hE2 p0 p1 p2 p4 q0 q1 q2 q4;go_wp2_with fail
            go_region
            obtain⟨h0,hm3,hk4⟩:=HSET.out;have hk5:=hk3.trans hk4;generalize W.setCell ⟨bb2,off2+q *5+3,none⟩ (.int .u32 ttl)=W3 at *;have hd3:Below W3.heap.size W3 W3.drew:=⟨rfl,rfl,rfl,Nat.le_refl _,fun _ _=>rfl⟩
            have hm4:=hm3.below hd3;have hsq:rs2[q].says=(L1[q]).says:=by
             have:=congrArg (fun l=>l[q]?) HSAY2.out;simp only[List.getElem?_map]at this;rw[List.getElem?_eq_getElem (by omega),List.getElem?_eq_getElem (by rw[ttlU_len];exact hlt),HATQ.out]at this;injection this
            have hfin:TtlR V B Br m w.heap.size ⟨An,n,cn,t,1,ttl,Ad,d,cd⟩ Aa ca (some ⟨bb2,off2,none⟩) cA ln L1 (lower n) t ttl (.int .i64 ((q:Int)+1)) W3.drew:=by
             refine⟨q+1,_,hlt,by go_num, ?_,hm4,hk5.trans ((Kept.of_ext hd3).mono fun _ _ h=>h.elim)⟩;rw[HQ.out.2.2,HEQ.out,List.map_set,List.map_set,HSAY2.out];congr 1;unfold RcB.says PR.says at hsq ⊢;simp only[Prod.mk.injEq]at hsq ⊢;exact⟨hsq.1,hsq.2.1,trivial,hsq.2.2.2⟩
            have HFIN:=hid hfin;clear hfin hsq hm3 hk4 hk5 hm4;go_wp2_with fail
            first
             |exact⟨HFIN.out,by simp[intOf];omega⟩
             |(refine⟨?_,by simp[intOf];omega⟩;(repeat apply Exists.intro);exact⟨HFIN.out,rfl⟩)
          |false=>
           have HEQ:Hid (ttlX (lower n) t ttl L1[q]=L1[q]):=hid (ttlX_out (by
            intro e;have h2:=HQ.out.1;rw[←h2]at e;have h1:lower a.n=lower n:=by
             have h3:=HQ.out.2.1.low;rw[←h2]at h3;have h3:lower a.n=a.n:=h3;rw[h3];exact e.1
            rw[(same_iff _ _).2 h1]at hsn;cases hsn))
           have HS2:=HKEEP.out HEQ.out;go_wp2_with fail
           refine wp_region_mono mixed0 (by kernel_rfl) [.is (.pointer (some ⟨m,0,none⟩)),.is (.pointer (some ⟨m,0,none⟩)),.is (.pointer (some ⟨m,1,none⟩)),.is (.slice (some ⟨bb2,off2,none⟩) ln cA),.is (.int .i64 (q:Int)),.is (.pointer (some ⟨bb2,off2+q *5,none⟩)),.is (.pointer (some ⟨bb2,off2+q *5+1,none⟩)),.is (.int .u16 (a.t:Int)),.is (.pointer (some ⟨w.heap.size,1,none⟩)),.is (.int .u16 (t:Int)),.is (.bool true),.is (.bool true),.is (.pointer (some ⟨m,0,none⟩)),.is (.pointer (some ⟨m,0,none⟩)),.is (.pointer (some ⟨m,1,none⟩)),.is (.slice (some ⟨bb2,off2,none⟩) ln cA),.is (.int .i64 (q:Int)),.is (.pointer (some ⟨bb2,off2+q *5,none⟩)),.is (.pointer (some ⟨bb2,off2+q *5,none⟩)),.is (.slice a.A a.n.length a.cn),.is (.pointer (some ⟨w.heap.size,0,none⟩)),.is (.slice An n.length cn),.is (.bool false),.is (.bool false)] rfl ?_ ?_
           ·intro i o hio vals W hE haf;have em:=(bcl (o:=1) hE hml2).trans mm1;have e1:=(bcl (o:=off2+q *5+1) hE hbb2).trans p1;have f1:=(bcl (o:=1) hE hgl2).trans q1;have e0:=(bcl (o:=off2+q *5) hE hbb2).trans p0;have f0:=(bcl (o:=0) hE hgl2).trans q0;rcases i with _|_|_|_|_|_|_|_|_|_|_|_|_|_|_|_|_|_|_|_|_|_|_|_|i
            all_goals first
             |(exfalso;simp at hio;done)
             |(simp at hio;subst hio;simp[bindD,rdB,Region.binds,factAt]at haf;simp[opU,go_sem,haf,em,e1,f1,e0,f0,Ext.refl,factAt,hltI,hlt',htyI];done)
             |skip
            all_goals
             simp at hio;subst hio;simp[bindD,rdB,Region.binds,factAt]at haf
            ·simp[opU,go_sem,haf,em,e1,f1,e0,f0,Ext.refl,factAt,hltI,hlt',htyI];refine(RSame a.A An a.n n a.cn cn W (HAO.out.name.below hE) ((cs_own HMID.out.r.rowN).2.below hE) HAO.out.few HMID.out.r.small.few).mono fun e W' h=>⟨h.2.trans ?_,h.1⟩
             rw[hsn]
           ·intro vals W hE hF;simp[facts]at hF;simp[relAct,dstAt,Act.put,hF];clear hF;have hE2:Below wr.heap.size wr W:=hE;have hm2:=HMID.out.below hE2;have hk3:=hk2.trans ((Kept.of_ext hE2).mono fun _ _ h=>h.elim);have hfin:TtlR V B Br m w.heap.size ⟨An,n,cn,t,1,ttl,Ad,d,cd⟩ Aa ca (some ⟨bb2,off2,none⟩) cA ln L1 (lower n) t ttl (.int .i64 ((q:Int)+1)) W:=⟨q+1,rs2,hlt,by go_num,HS2,hm2,hk3⟩
            have HFIN:=hid hfin;clear hfin hm2 hk3;go_wp2_with fail
            first
             |exact⟨HFIN.out,by simp[intOf];omega⟩
             |(refine⟨?_,by simp[intOf];omega⟩;(repeat apply Exists.intro);exact⟨HFIN.out,rfl⟩)
         ·have htyI:¬(a.t:Int)=(t:Int):=by omega
          have HEQ:Hid (ttlX (lower n) t ttl L1[q]=L1[q]):=hid (ttlX_out (by
           intro e;rw[←HQ.out.1]at e;exact htyI e.2))
          have HS2:=HKEEP.out HEQ.out;go_wp2_with fail
          refine wp_region_mono mixed0 (by kernel_rfl) [.is (.pointer (some ⟨m,0,none⟩)),.is (.pointer (some ⟨m,0,none⟩)),.is (.pointer (some ⟨m,1,none⟩)),.is (.slice (some ⟨bb2,off2,none⟩) ln cA),.is (.int .i64 (q:Int)),.is (.pointer (some ⟨bb2,off2+q *5,none⟩)),.is (.pointer (some ⟨bb2,off2+q *5+1,none⟩)),.is (.int .u16 (a.t:Int)),.is (.pointer (some ⟨w.heap.size,1,none⟩)),.is (.int .u16 (t:Int)),.is (.bool false),.is (.bool false),.any,.any,.any,.any,.any,.any,.any,.any,.any,.any,.any,.is (.bool false)] rfl ?_ ?_
          ·intro i o hio vals W hE haf;have em:=(bcl (o:=1) hE hml2).trans mm1;have e1:=(bcl (o:=off2+q *5+1) hE hbb2).trans p1;have f1:=(bcl (o:=1) hE hgl2).trans q1;rcases i with _|_|_|_|_|_|_|_|_|_|_|_|_|_|_|_|_|_|_|_|_|_|_|_|i
           all_goals first
            |(exfalso;simp at hio;done)
            |(simp at hio;subst hio;simp[bindD,rdB,Region.binds,factAt]at haf;simp[opU,go_sem,haf,em,e1,f1,Ext.refl,factAt,hltI,hlt',htyI];done)
            |skip
           all_goals
            simp at hio;subst hio;simp[bindD,rdB,Region.binds,factAt]at haf
          ·intro vals W hE hF;simp[facts]at hF;simp[relAct,dstAt,Act.put,hF];clear hF;have hE2:Below wr.heap.size wr W:=hE;have hm2:=HMID.out.below hE2;have hk3:=hk2.trans ((Kept.of_ext hE2).mono fun _ _ h=>h.elim);have hfin:TtlR V B Br m w.heap.size ⟨An,n,cn,t,1,ttl,Ad,d,cd⟩ Aa ca (some ⟨bb2,off2,none⟩) cA ln L1 (lower n) t ttl (.int .i64 ((q:Int)+1)) W:=⟨q+1,rs2,hlt,by go_num,HS2,hm2,hk3⟩
           have HFIN:=hid hfin;clear hfin hm2 hk3;go_wp2_with fail
           first
            |exact⟨HFIN.out,by simp[intOf];omega⟩
            |(refine⟨?_,by simp[intOf];omega⟩;(repeat apply Exists.intro);exact⟨HFIN.out,rfl⟩)
        ·have hql:q=L1.length:=by omega
         have hltI:¬(q:Int) < (ln:Int):=by have:=HL1.out;omega
         obtain⟨_,mm1,_⟩:=cells2 hmid.hm;have hend:rs2.map RcB.says=(ttlL L1 (lower n) t ttl).map PR.says:=by
          rw[hsay2,hql];unfold ttlU;rw[List.take_length,List.drop_length,List.append_nil,ttlL_map]
         have HEND:=hid (And.intro hend hk2);clear hend hsay2 hk2;go_wp2_with fail
         go_ret2
         have hl2:=HMID.out.hl;refine⟨HK.out.1.then HEND.out.2 (fun k hk e=>HK.out.2 k e hk),by rw[HT.out.2.1];rfl,ttlL L1 (lower n) t ttl,rblk m (.slice A1 ln cA),⟨⟨Aa,ca,A1,cA,rs2,by rw[hl2];exact HMID.out.hm,HMID.out.ap,by rw[hl2];exact HMID.out.rs,HEND.out.1,by rw[hl2]⟩, ?_,hB⟩,HT.out.1, ?_,fun k hk=> ?_⟩
         ·intro y hy;have:=ttlU_good HT.out.2.2.1 (lower n) t ttl L1.length;unfold ttlU at this;rw[List.take_length,List.drop_length,List.append_nil]at this;rw[ttlL_map]at hy;exact this y hy
         ·rw[ttlL_map,List.length_map];have:=HT.out.2.2.2.2;omega
         ·rcases hk with e|e
          ·subst e;exact .inl HSM.out.1
          ·by_cases hkw:k < w.heap.size
           ·exact .inl (HK.out.2 k e hkw)
           ·exact .inr (by omega)
theorem own_nil(w:World)(B:Nat):BlobOwn w B ⟨none,[],0⟩:=World.ownsRow_nil _ _ _ _
theorem up_fin{P:Program}{fn:Func}{R:Ending→World→Prop}{a:Act}{x g:Nat}{Q:World→Prop}{w4 w5:World}(HUP:∀W,Kept (fun k=>k=x∨k=g) w4 W→Q W){c0 c1 c2 c3 c4:Value}{T:TypeId}(hc:w4.heap[x]? =some (.cells #[c0,c1,c2,c3,c4] T (0,0)))(hne:x≠g)(hk:Kept (fun k=>k=g) w4 w5){a0 a1 a2 a3 a4:Value}(hd:a.defers=[])
 (hr:∀W:World,W.cell? ⟨x,0,none⟩=some a0→W.cell? ⟨x,1,none⟩=some a1→W.cell? ⟨x,2,none⟩=some a2→W.cell? ⟨x,3,none⟩=some a3→W.cell? ⟨x,4,none⟩=some a4→(results fn a.tmps).run P W=.ok (.agg #[a0,a1,a2,a3,a4]) W)
 (hR:∀W,Q W→R (.returned (.agg #[a0,a1,a2,a3,a4])) W):
 bodyPost P fn R .ret a (((((w5.setCell ⟨x,0,none⟩ a0).setCell ⟨x,1,none⟩ a1).setCell ⟨x,2,none⟩ a2).setCell ⟨x,3,none⟩ a3).setCell ⟨x,4,none⟩ a4):=by
 have hR0:=(hk.block x (lt_block hc) hne).trans hc;have hH:=heap_set (i:=4) (v:=a4) (heap_set (i:=3) (v:=a3) (heap_set (i:=2) (v:=a2) (heap_set (i:=1) (v:=a1) (heap_set (i:=0) (v:=a0) hR0))));have hx:∀j,((fun k=>k=x∨k=g) (Addr.block ⟨x,j,none⟩)):=fun _=>.inl rfl
 have HF:=HUP _ ((((((hk.mono (fun _ _ e=>.inr e)).setCell (fun _=>hx 0) a0).setCell (fun _=>hx 1) a1).setCell (fun _=>hx 2) a2).setCell (fun _=>hx 3) a3).setCell (fun _=>hx 4) a4);obtain⟨y0,y1,y2,y3,y4,_⟩:=cells5 (T:=T) (c0:=a0) (c1:=a1) (c2:=a2) (c3:=a3) (c4:=a4) (g:=x) (by simpa using hH);exact bodyPost_ret (hr _ y0 y1 y2 y3 y4) hd (hR _ HF)
theorem UpS(how k:Nat)(hh:how < 256)(hk:k < 4294967296)(pre:Bool)(w:World):
 Calls prog 74 #[.agg #[.int .u8 (how:Int),.int .u32 (k:Int)],.bool pre] w fun e w'=>Below w.heap.size w w'∧∃b:UcB,e=.returned (.agg b.cells.toArray)∧b.own w' w.heap.size∧b.says=upR how k pre:=by
 have b1:Below w.heap.size w (w.alloc (.cells #[.int .u8 (how:Int),.int .u32 (k:Int)] 86)):=bAl;have c1:=heap_alloc_new w (.cells #[.int .u8 (how:Int),.int .u32 (k:Int)] 86);generalize hw1:w.alloc (.cells #[.int .u8 (how:Int),.int .u32 (k:Int)] 86)=w1 at *
 have b2:Below w1.heap.size w1 (w1.alloc (.cells #[.slice none 0 0,.int .u16 0,.int .u16 0,.int .u32 0,.slice none 0 0] 39)):=bAl;have c2:=heap_alloc_new w1 (.cells #[.slice none 0 0,.int .u16 0,.int .u16 0,.int .u32 0,.slice none 0 0] 39);have s1:w1.heap.size=w.heap.size+1:=by rw[←hw1];simp
 rw[s1]at c2;generalize hw2:w1.alloc (.cells #[.slice none 0 0,.int .u16 0,.int .u16 0,.int .u32 0,.slice none 0 0] 39)=w2 at *;have c12:=(b2.block _ (lt_block c1)).trans c1;have b12:=b1.trans (b2.mono b1.size);go_enter func74,ntmps74
 go_upto_region 1 with fail
 try rw[hw1,hw2]
 clear hw1 hw2 b1 b2 c1;obtain⟨u0,u1,_⟩:=cells2 c12;obtain⟨r0,r1,r2,r3,r4,_⟩:=cells5 c2;have hl1:=lt_block c12;have hl2:=lt_block c2;have hc2:=c2;clear c12 c2 s1;go_wp2_with fail;refine(RecordA k hk w2).mono ?_;rintro e w3 ⟨v,rfl,⟨An,cn,Ad,cd,rfl,hN,hD⟩,hb3⟩;have hE3:=b12.trans (hb3.mono b12.size);replace u0:=(bcl hb3 hl1).trans u0;have hs3:=hE3.size
 have b4:Below w3.heap.size w3 (w3.alloc (.cells #[.slice An (recN k).length cn,.int .u16 ((recT k:Nat):Int),.int .u16 1,.int .u32 ((ttlK k:Nat):Int),.slice Ad (recD k).length cd] 39)):=bAl;have c4:=heap_alloc_new w3 (.cells #[.slice An (recN k).length cn,.int .u16 ((recT k:Nat):Int),.int .u16 1,.int .u32 ((ttlK k:Nat):Int),.slice Ad (recD k).length cd] 39)
 have hb23:=hb3.size;have hc3:=(hb3.block _ hl2).trans hc2;have hc4:=(b4.block _ (lt_block hc3)).trans hc3;have hl5:=lt_block hc3;clear u1 r0 r1 r2 r3 r4 hb3
 go_upto_region 2 with fail
 generalize w3.alloc (.cells #[.slice An (recN k).length cn,.int .u16 ((recT k:Nat):Int),.int .u16 1,.int .u32 ((ttlK k:Nat):Int),.slice Ad (recD k).length cd] 39)=w4 at *;have hE4:Below w.heap.size w w4:=hE3.trans (b4.mono hs3);have hl3:w.heap.size < w3.heap.size:=by omega
 replace u0:=(bcl b4 hl3).trans u0;have HN:=hid hN;have HD:=hid hD;have HB:=hid (And.intro hE4 (And.intro b4 hb23));obtain⟨r0,r1,r2,r3,r4,rf⟩:=cells5 c4;obtain⟨v0,v1,v2,v3,v4,vf⟩:=cells5 hc4;have HC4:=hid (And.intro c4 hc4)
 have HUP:Hid (∀W,Kept (fun k=>k=w.heap.size+1∨k=w3.heap.size) w4 W→Below w.heap.size w W∧W.ownsRow w.heap.size 9 1 (.slice An (recN k).length cn) (recN k).length ((recN k).map strV)∧W.ownsRow w.heap.size 5 1 (.slice Ad (recD k).length cd) (recD k).length ((recD k).map byteV)):=hid fun W hk=>by
  have hk3:Kept (fun k=>k=w.heap.size+1∨k=w3.heap.size) w3 W:=((Kept.of_ext b4).mono fun _ _ h=>h.elim).trans hk;refine⟨hE4.trans ((hk.below hE4.size (fun k hk e=>by omega))),own_base (Kept.row hN hk3 fun k hk e=> ?_) (by omega),own_base (Kept.row hD hk3 fun k hk e=> ?_) (by omega)⟩
  ·have:=hN.lt k hk;omega
  ·have:=hD.lt k hk;omega
 have hg4:=lt_block c4;generalize w3.heap.size=g at *;have hm:((how:Nat):Int).tmod 8=((how %8:Nat):Int):=by rw[Int.tmod_eq_emod_of_nonneg (by omega)];omega
 have HU:Hid (upR how k pre=upR (how %8) k pre):=hid (by unfold upR;rw[Nat.mod_mod]);obtain⟨h8,hh8⟩:∃h8,how %8=h8:=⟨_,rfl⟩
 rw[hh8]at hm HU;have h8l:h8 < 8:=by omega
 have hne:w.heap.size+1≠g:=by omega
 clear hN hD hE4 b4 hh8 c4 hE3 b12 hb23 hc2 hc3 hc4;have h8c:h8=0∨h8=1∨h8=2∨h8=3∨h8=4∨h8=5∨h8=6∨h8=7:=by omega
 rcases h8c with rfl|rfl|rfl|rfl|rfl|rfl|rfl|rfl <;> cases pre
 ·go_wp2_with fail;exact up_fin HUP.out HC4.out.2 hne (Kept.refl (fun k=>k=g) w4) rfl (fun W y0 y1 y2 y3 y4=>by simp[results,results74,go_sem,y0,y1,y2,y3,y4]) fun W HF=>⟨HF.1,⟨⟨An,recN k,cn⟩,((recT k:Nat):Int),1,((ttlK k:Nat):Int),⟨Ad,recD k,cd⟩⟩,rfl,⟨HF.2.1,HF.2.2⟩,by rw[HU.out];rfl⟩
 ·go_wp2_with fail;exact up_fin HUP.out HC4.out.2 hne ((Kept.refl (fun k=>k=g) w4).setCell (p:=⟨g,3,none⟩) (fun _=>rfl) (.int .u32 0)) rfl (fun W y0 y1 y2 y3 y4=>by simp[results,results74,go_sem,y0,y1,y2,y3,y4]) fun W HF=>⟨HF.1,⟨⟨An,recN k,cn⟩,((recT k:Nat):Int),1,0,⟨Ad,recD k,cd⟩⟩,rfl,⟨HF.2.1,HF.2.2⟩,by rw[HU.out];rfl⟩
 ·go_wp2_with fail;exact up_fin HUP.out HC4.out.2 hne (Kept.refl (fun k=>k=g) w4) rfl (fun W y0 y1 y2 y3 y4=>by simp[results,results74,go_sem,y0,y1,y2,y3,y4]) fun W HF=>⟨HF.1,⟨⟨An,recN k,cn⟩,((recT k:Nat):Int),1,((ttlK k:Nat):Int),⟨Ad,recD k,cd⟩⟩,rfl,⟨HF.2.1,HF.2.2⟩,by rw[HU.out];rfl⟩
 ·go_wp2_with fail;exact up_fin HUP.out HC4.out.2 hne ((Kept.refl (fun k=>k=g) w4).setCell (p:=⟨g,3,none⟩) (fun _=>rfl) (.int .u32 0)) rfl (fun W y0 y1 y2 y3 y4=>by simp[results,results74,go_sem,y0,y1,y2,y3,y4]) fun W HF=>⟨HF.1,⟨⟨An,recN k,cn⟩,((recT k:Nat):Int),1,0,⟨Ad,recD k,cd⟩⟩,rfl,⟨HF.2.1,HF.2.2⟩,by rw[HU.out];rfl⟩
 ·go_wp2_with fail;exact up_fin HUP.out HC4.out.2 hne (Kept.refl (fun k=>k=g) w4) rfl (fun W y0 y1 y2 y3 y4=>by simp[results,results74,go_sem,y0,y1,y2,y3,y4]) fun W HF=>⟨HF.1,⟨⟨An,recN k,cn⟩,((recT k:Nat):Int),1,((ttlK k:Nat):Int),⟨Ad,recD k,cd⟩⟩,rfl,⟨HF.2.1,HF.2.2⟩,by rw[HU.out];rfl⟩
 ·go_wp2_with fail;exact up_fin HUP.out HC4.out.2 hne ((Kept.refl (fun k=>k=g) w4).setCell (p:=⟨g,3,none⟩) (fun _=>rfl) (.int .u32 0)) rfl (fun W y0 y1 y2 y3 y4=>by simp[results,results74,go_sem,y0,y1,y2,y3,y4]) fun W HF=>⟨HF.1,⟨⟨An,recN k,cn⟩,((recT k:Nat):Int),1,0,⟨Ad,recD k,cd⟩⟩,rfl,⟨HF.2.1,HF.2.2⟩,by rw[HU.out];rfl⟩
 ·go_wp2_with fail;exact up_fin HUP.out HC4.out.2 hne (Kept.refl (fun k=>k=g) w4) rfl (fun W y0 y1 y2 y3 y4=>by simp[results,results74,go_sem,y0,y1,y2,y3,y4]) fun W HF=>⟨HF.1,⟨⟨An,recN k,cn⟩,((recT k:Nat):Int),1,((ttlK k:Nat):Int),⟨Ad,recD k,cd⟩⟩,rfl,⟨HF.2.1,HF.2.2⟩,by rw[HU.out];rfl⟩
 ·go_wp2_with fail;exact up_fin HUP.out HC4.out.2 hne ((Kept.refl (fun k=>k=g) w4).setCell (p:=⟨g,3,none⟩) (fun _=>rfl) (.int .u32 0)) rfl (fun W y0 y1 y2 y3 y4=>by simp[results,results74,go_sem,y0,y1,y2,y3,y4]) fun W HF=>⟨HF.1,⟨⟨An,recN k,cn⟩,((recT k:Nat):Int),1,0,⟨Ad,recD k,cd⟩⟩,rfl,⟨HF.2.1,HF.2.2⟩,by rw[HU.out];rfl⟩
 ·go_wp2_with fail
  exact up_fin HUP.out HC4.out.2 hne ((((Kept.refl (fun k=>k=g) w4).setCell (p:=⟨g,2,none⟩) (fun _=>rfl) (.int .u16 255)).setCell (p:=⟨g,3,none⟩) (fun _=>rfl) (.int .u32 0)).setCell (p:=⟨g,4,none⟩) (fun _=>rfl) (.slice none 0 0)) rfl (fun W y0 y1 y2 y3 y4=>by simp[results,results74,go_sem,y0,y1,y2,y3,y4]) fun W HF=>⟨HF.1,⟨⟨An,recN k,cn⟩,((recT k:Nat):Int),255,0,⟨none,[],0⟩⟩,rfl,⟨HF.2.1,own_nil _ _⟩,by rw[HU.out];rfl⟩
 ·go_wp2_with fail
  exact up_fin HUP.out HC4.out.2 hne ((((Kept.refl (fun k=>k=g) w4).setCell (p:=⟨g,2,none⟩) (fun _=>rfl) (.int .u16 255)).setCell (p:=⟨g,3,none⟩) (fun _=>rfl) (.int .u32 0)).setCell (p:=⟨g,4,none⟩) (fun _=>rfl) (.slice none 0 0)) rfl (fun W y0 y1 y2 y3 y4=>by simp[results,results74,go_sem,y0,y1,y2,y3,y4]) fun W HF=>⟨HF.1,⟨⟨An,recN k,cn⟩,((recT k:Nat):Int),255,0,⟨none,[],0⟩⟩,rfl,⟨HF.2.1,own_nil _ _⟩,by rw[HU.out];rfl⟩
 ·go_wp2_with fail
  exact up_fin HUP.out HC4.out.2 hne (((((Kept.refl (fun k=>k=g) w4).setCell (p:=⟨g,2,none⟩) (fun _=>rfl) (.int .u16 255)).setCell (p:=⟨g,3,none⟩) (fun _=>rfl) (.int .u32 0)).setCell (p:=⟨g,4,none⟩) (fun _=>rfl) (.slice none 0 0)).setCell (p:=⟨g,1,none⟩) (fun _=>rfl) (.int .u16 255)) rfl (fun W y0 y1 y2 y3 y4=>by simp[results,results74,go_sem,y0,y1,y2,y3,y4]) fun W HF=>⟨HF.1,⟨⟨An,recN k,cn⟩,255,255,0,⟨none,[],0⟩⟩,rfl,⟨HF.2.1,own_nil _ _⟩,by rw[HU.out];rfl⟩
 ·go_wp2_with fail
  exact up_fin HUP.out HC4.out.2 hne (((((Kept.refl (fun k=>k=g) w4).setCell (p:=⟨g,2,none⟩) (fun _=>rfl) (.int .u16 255)).setCell (p:=⟨g,3,none⟩) (fun _=>rfl) (.int .u32 0)).setCell (p:=⟨g,4,none⟩) (fun _=>rfl) (.slice none 0 0)).setCell (p:=⟨g,1,none⟩) (fun _=>rfl) (.int .u16 255)) rfl (fun W y0 y1 y2 y3 y4=>by simp[results,results74,go_sem,y0,y1,y2,y3,y4]) fun W HF=>⟨HF.1,⟨⟨An,recN k,cn⟩,255,255,0,⟨none,[],0⟩⟩,rfl,⟨HF.2.1,own_nil _ _⟩,by rw[HU.out];rfl⟩
 ·go_wp2_with fail
  exact up_fin HUP.out HC4.out.2 hne (((Kept.refl (fun k=>k=g) w4).setCell (p:=⟨g,2,none⟩) (fun _=>rfl) (.int .u16 254)).setCell (p:=⟨g,3,none⟩) (fun _=>rfl) (.int .u32 0)) rfl (fun W y0 y1 y2 y3 y4=>by simp[results,results74,go_sem,y0,y1,y2,y3,y4]) fun W HF=>⟨HF.1,⟨⟨An,recN k,cn⟩,((recT k:Nat):Int),254,0,⟨Ad,recD k,cd⟩⟩,rfl,⟨HF.2.1,HF.2.2⟩,by rw[HU.out];rfl⟩
 ·go_wp2_with fail
  exact up_fin HUP.out HC4.out.2 hne ((((Kept.refl (fun k=>k=g) w4).setCell (p:=⟨g,2,none⟩) (fun _=>rfl) (.int .u16 254)).setCell (p:=⟨g,3,none⟩) (fun _=>rfl) (.int .u32 0)).setCell (p:=⟨g,4,none⟩) (fun _=>rfl) (.slice none 0 0)) rfl (fun W y0 y1 y2 y3 y4=>by simp[results,results74,go_sem,y0,y1,y2,y3,y4]) fun W HF=>⟨HF.1,⟨⟨An,recN k,cn⟩,((recT k:Nat):Int),254,0,⟨none,[],0⟩⟩,rfl,⟨HF.2.1,own_nil _ _⟩,by rw[HU.out];rfl⟩
 ·go_wp2_with fail
  exact up_fin HUP.out HC4.out.2 hne (((Kept.refl (fun k=>k=g) w4).setCell (p:=⟨g,2,none⟩) (fun _=>rfl) (.int .u16 254)).setCell (p:=⟨g,3,none⟩) (fun _=>rfl) (.int .u32 0)) rfl (fun W y0 y1 y2 y3 y4=>by simp[results,results74,go_sem,y0,y1,y2,y3,y4]) fun W HF=>⟨HF.1,⟨⟨An,recN k,cn⟩,((recT k:Nat):Int),254,0,⟨Ad,recD k,cd⟩⟩,rfl,⟨HF.2.1,HF.2.2⟩,by rw[HU.out];rfl⟩
 ·go_wp2_with fail
  exact up_fin HUP.out HC4.out.2 hne (((((Kept.refl (fun k=>k=g) w4).setCell (p:=⟨g,2,none⟩) (fun _=>rfl) (.int .u16 254)).setCell (p:=⟨g,3,none⟩) (fun _=>rfl) (.int .u32 0)).setCell (p:=⟨g,4,none⟩) (fun _=>rfl) (.slice none 0 0)).setCell (p:=⟨g,1,none⟩) (fun _=>rfl) (.int .u16 255)) rfl (fun W y0 y1 y2 y3 y4=>by simp[results,results74,go_sem,y0,y1,y2,y3,y4]) fun W HF=>⟨HF.1,⟨⟨An,recN k,cn⟩,255,254,0,⟨none,[],0⟩⟩,rfl,⟨HF.2.1,own_nil _ _⟩,by rw[HU.out];rfl⟩
end Nm
end Go.Proofs.YtmbdoacafhljkaaGreat
