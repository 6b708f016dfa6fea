/- Texts merged by a program: RelM3, ZCopy, ZTwice, Zo2, UpdP, Upd1. -/
import Derived.Shelf.SlMaps.Clone
import Derived.Test.YtmbdoacafhljkaaGreatUh1
import Derived.Test.YtmbdoacafhljkaaGreatUh7
import Derived.Test.YtmbdoacafhljkaaGreatUh9
import Derived.Test.YtmbdoacafhljkaaGreatUh10
set_option linter.unusedSimpArgs false
set_option linter.unusedVariables false
set_option maxRecDepth 1000000
set_option maxHeartbeats 20000000
open Go.Proofs.Tryz
namespace Go.Proofs.YtmbdoacafhljkaaGreat
open Go.RowKit
structure J3(ops:Array Oper)(w0:World)(fs:List Fact)(g:Nat→Value→Nat→Nat→Prop)(L:Nat→Bool)(vals:Nat→Value)(W:World)(lo hi:Nat→Nat):Prop where
 C:Ext w0 W
 f:∀j,L j=true→(factAt fs j).p (vals j) W
 t:∀j,L j=true→g j (vals j) (lo j) (hi j)∧lo j≤hi j∧w0.heap.size≤lo j∧hi j≤W.heap.size
 ap:∀i j,L i=true→L j=true→i≠j→hi i≤lo j∨hi j≤lo i
 down:∀j o,ops[j]? =some o→L j=true→∀e∈o.after,Region.binds .any e=true→L e.on=true
section
variable {P:Program} {ops:Array Oper}
theorem J3.put{w0 W W':World}{fs:List Fact}{g:Nat→Value→Nat→Nat→Prop}{L:Nat→Bool}{vals:Nat→Value}{lo hi:Nat→Nat}(h:J3 ops w0 fs g L vals W lo hi){i:Nat}{o:Oper}(ho:ops[i]? =some o)(hL:L i=false)(hd:∀e∈o.after,Region.binds .any e=true→L e.on=true)
 {v:Value} (hE:Ext W W') (hp:(factAt fs i).p v W') (hg:g i v W.heap.size W'.heap.size):
 J3 ops w0 fs g (fun k=>if k=i then true else L k) (fun k=>if k=i then v else vals k) W' (fun k=>if k=i then W.heap.size else lo k) (fun k=>if k=i then W'.heap.size else hi k):=by
 have hs:=hE.size;have hc:=h.C.size;have hold:∀j,(if j=i then true else L j)=true→j≠i→L j=true:=fun j hj hne=>by rw[if_neg hne]at hj;exact hj
 refine⟨Ext.trans h.C hE,fun j hj=> ?_,fun j hj=> ?_,fun a b ha hb hne=> ?_,fun j oj hoj hj e he hbe=> ?_⟩
 ·by_cases e:j=i
  ·subst e;simp only[if_true];exact hp
  ·simp only[if_neg e];exact(factAt fs j).st _ _ _ hE (h.f j (hold j hj e))
 ·by_cases e:j=i
  ·subst e;simp only[if_true];exact⟨hg,hs,hc,Nat.le_refl _⟩
  ·simp only[if_neg e];obtain⟨h1,h2,h3,h4⟩:=h.t j (hold j hj e);exact⟨h1,h2,h3,by omega⟩
 ·by_cases ea:a=i
  ·have eb:b≠i:=fun e=>hne (ea.trans e.symm);simp only[if_pos ea,if_neg eb];have:=(h.t b (hold b hb eb)).2.2.2;exact .inr this
  ·by_cases eb:b=i
   ·simp only[if_neg ea,if_pos eb];have:=(h.t a (hold a ha ea)).2.2.2;exact .inl this
   ·simp only[if_neg ea,if_neg eb];exact h.ap a b (hold a ha ea) (hold b hb eb) hne
 ·by_cases ee:e.on=i
  ·simp only[if_pos ee]
  ·simp only[if_neg ee];by_cases ej:j=i
   ·subst ej;rw[ho]at hoj;cases hoj;exact hd e he hbe
   ·exact h.down j oj hoj (hold j hj ej) e he hbe
theorem J3.start(w0:World)(fs:List Fact)(g:Nat→Value→Nat→Nat→Prop):J3 ops w0 fs g (fun _=>false) (fun _=>undef) {w0 with drawn:=w0.drawn+1} (fun _=>0) (fun _=>0):=
 ⟨⟨rfl,rfl,rfl,Nat.le_refl _,fun _ _=>rfl⟩,fun j h=>(by cases h),fun j h=>(by cases h),fun i j h=>(by cases h),fun j o _ h=>(by cases h)⟩
structure Done3(n:Nat)(w0:World)(fs:List Fact)(g:Nat→Value→Nat→Nat→Prop)(vals:Nat→Value)(W:World)(lo hi:Nat→Nat):Prop where
 C:Ext w0 W
 f:∀j,j < n→(factAt fs j).p (vals j) W
 t:∀j,j < n→g j (vals j) (lo j) (hi j)∧lo j≤hi j∧w0.heap.size≤lo j∧hi j≤W.heap.size
 ap:∀i j,i < n→j < n→i≠j→hi i≤lo j∨hi j≤lo i
theorem wp_region_m3{id:Nat}{Q:Exit→Act→World→Prop}{a0:Act}{w0:World}(hm:P.follows .mixedOrders=true)(hB:relB2 ops=true)(fs:List Fact)(g:Nat→Value→Nat→Nat→Prop)
 (step:∀i o,ops[i]? =some o→∀L vals W lo hi,J3 ops w0 fs g L vals W lo hi→(∀e∈o.after,Region.binds .any e=true→L e.on=true)→
   opYield P ops o (relAct ops a0 (fun _=>true) vals i) W (fun v W'=>Ext W W'∧(factAt fs i).p v W'∧g i v W.heap.size W'.heap.size))
 (hend:∀vals W lo hi,Done3 ops.size w0 fs g vals W lo hi→Q .normal (relAct ops a0 (fun _=>true) vals ops.size) W):
 (Code.region id ops true).wp P Q a0 w0:=by
 refine wp_region_j hm hB (fun L vals W=>∃lo hi,J3 ops w0 fs g L vals W lo hi) ⟨_,_,J3.start w0 fs g⟩ ?_ ?_
 ·rintro i o ho L vals W ⟨lo,hi,h⟩ hL hd;refine opYield_mono ?_ (step i o ho L vals W lo hi h hd);rintro v W' ⟨h1,h2,h3⟩;exact⟨_,_,h.put ho hL hd h1 h2 h3⟩
 ·rintro vals W ⟨lo,hi,h⟩;exact hend vals W lo hi ⟨h.C,fun j hj=>h.f j (decide_eq_true hj),fun j hj=>h.t j (decide_eq_true hj),fun i j h1 h2=>h.ap i j (decide_eq_true h1) (decide_eq_true h2)⟩
theorem ofFn_at(n:Nat)(L:Nat→Bool)(j:Nat):(Array.ofFn (n:=n) fun k=>L k).getD j false=true↔j < n∧L j=true:=by
 by_cases h:j < n
 ·simp[Array.getD,h]
 ·simp[Array.getD,h]
def tailB(ops:Array Oper)(n:Nat):Bool:=decide (ops.size=n+1)&&(List.range n).all fun k=>waitsT ops ops.size n k
theorem wp_region_m3t{id:Nat}{Q:Exit→Act→World→Prop}{a0:Act}{w0:World}(hm:P.follows .mixedOrders=true)(hB:relB2 ops=true)(n:Nat)(hT:tailB ops n=true)(fs:List Fact)(g:Nat→Value→Nat→Nat→Prop)(F:(Nat→Value)→World→Prop)
 (step:∀i o,ops[i]? =some o→i < n→∀L vals W lo hi,J3 ops w0 fs g L vals W lo hi→(∀e∈o.after,Region.binds .any e=true→L e.on=true)→
   opYield P ops o (relAct ops a0 (fun _=>true) vals i) W (fun v W'=>Ext W W'∧(factAt fs i).p v W'∧g i v W.heap.size W'.heap.size))
 (last:∀o,ops[n]? =some o→∀vals W lo hi,Done3 n w0 fs g vals W lo hi→opYield P ops o (relAct ops a0 (fun _=>true) vals n) W (fun v W'=>F (fun k=>if k=n then v else vals k) W'))
 (hend:∀vals W,F vals W→Q .normal (relAct ops a0 (fun _=>true) vals ops.size) W):
 (Code.region id ops true).wp P Q a0 w0:=by
 unfold tailB at hT;rw[Bool.and_eq_true,decide_eq_true_iff]at hT;obtain⟨hsz,hall⟩:=hT;refine wp_region_j hm hB (fun L vals W=>(L n=false∧∃lo hi,J3 ops w0 fs g L vals W lo hi)∨((∀k,k≤n→L k=true)∧F vals W)) (.inl ⟨rfl,_,_,J3.start w0 fs g⟩) ?_ ?_
 ·rintro i o ho L vals W hJ hL hd;have hlt:i < ops.size:=(Array.getElem?_eq_some_iff.1 ho).1;rcases hJ with⟨hn,lo,hi,h⟩|⟨h1,_⟩
  ·by_cases e:i=n
   ·subst e;have hk:∀k,k < i→L k=true:=fun k hk=>by
     have hw:=List.all_eq_true.1 hall k (List.mem_range.2 hk);rw[hsz]at hw;unfold waitsT at hw;rw[ho]at hw;simp only[]at hw;rw[Array.any_eq_true]at hw;obtain⟨x,hx,h9⟩:=hw;simp only[Bool.and_eq_true,Bool.or_eq_true,beq_iff_eq]at h9;have he:=hd _ (Array.getElem_mem hx) h9.1;rcases h9.2 with h6|h6
     ·rw[←h6];exact he
     ·have hdn:∀j o,ops[j]? =some o→(Array.ofFn (n:=ops.size) fun k=>L k).getD j false=true→∀e∈o.after,Region.binds .any e=true→(Array.ofFn (n:=ops.size) fun k=>L k).getD e.on false=true:=by
       intro j oj hoj hj e' he' hb';have hjl:j < ops.size:=(Array.getElem?_eq_some_iff.1 hoj).1;have h7:=((ofFn_at ops.size L j).1 hj).2;have h8:=h.down j oj hoj h7 e' he' hb';exact(ofFn_at ops.size L _).2 ⟨by have:=(relB2_spec hB hoj).2.1 e' he' hb';omega,h8⟩
      have hol:(o.after[x]).on < ops.size:=by have:=(relB2_spec hB ho).2.1 _ (Array.getElem_mem hx) h9.1;omega
      exact((ofFn_at ops.size L k).1 (waitsT_listed hdn _ _ k ((ofFn_at ops.size L _).2 ⟨hol,he⟩) h6)).2
    refine opYield_mono ?_ (last o ho vals W lo hi ⟨h.C,fun j hj=>h.f j (hk j hj),fun j hj=>h.t j (hk j hj),fun a b h1 h2=>h.ap a b (hk a h1) (hk b h2)⟩);intro v W' hF;refine .inr ⟨fun k hk2=> ?_,hF⟩;by_cases e:k=i
    ·simp only[if_pos e]
    ·simp only[if_neg e];exact hk k (by omega)
   ·refine opYield_mono ?_ (step i o ho (by omega) L vals W lo hi h hd);rintro v W' ⟨h1,h2,h3⟩;refine .inl ⟨?_,_,_,h.put ho hL hd h1 h2 h3⟩;simp only[if_neg (fun e2=>e (Eq.symm e2):¬n=i)];exact hn
  ·rw[h1 i (by omega)]at hL;cases hL
 ·rintro vals W (⟨h1,_⟩|⟨_,hF⟩)
  ·exfalso;have:decide (n < ops.size)=true:=decide_eq_true (by omega);exact absurd (this.symm.trans h1) (by decide)
  ·exact hend vals W hF
theorem wp_region_jp{id:Nat}{Q:Exit→Act→World→Prop}{a0:Act}{w0:World}(hm:P.follows .mixedOrders=true)(hB:relB2 ops=true)
 (J:(Nat→Bool)→(Nat→Value)→World→Prop) (hJ0:J (fun _=>false) (fun _=>undef) {w0 with drawn:=w0.drawn+1})
 (n:Nat) (hsz:ops.size=n+1) (htl:∀k,k < n→waitsT ops ops.size n k=true) (hend:∀o,ops[n]? =some o→∀L vals W,J L vals W→(∀k,k < n→L k=true)→wpList P ops Q [o] (relAct ops a0 (fun _=>true) vals n) W)
 (step:∀i o,ops[i]? =some o→i < n→∀L vals W,J L vals W→L i=false→(∀e∈o.after,Region.binds .any e=true→L e.on=true)→
   opYield P ops o (relAct ops a0 (fun _=>true) vals i) W (fun v W'=>J (fun k=>if k=i then true else L k) (fun k=>if k=i then v else vals k) W')):
 (Code.region id ops true).wp P Q a0 w0:=by
 have main:∀(fuel:Nat) (listed:Array Bool) (vals:Nat→Value) (W:World),listed.size=ops.size→listed.toList.count false≤fuel→
  (∀j o,ops[j]? =some o→listed.getD j false=true→∀e∈o.after,Region.binds .any e=true→listed.getD e.on false=true)→J (fun j=>listed.getD j false) vals W→listed.getD n false=false→
  wpAny P .any ops Q fuel listed (relAct ops a0 (fun j=>listed.getD j false) vals ops.size) W:=by
  intro fuel;have notdone:∀(listed:Array Bool),listed.size=ops.size→listed.getD n false=false→Region.ready .any ops listed≠[]:=by
   intro listed hs hln hr;have all:∀m,∀j,j < m→j < ops.size→listed.getD j false=true:=by
    intro m
    induction m with
    |zero=>intro j h;omega
    |succ m ih=>
     intro j hj hlt;cases hl:listed.getD j false
     ·exfalso;have hop:ops[j]? =some ops[j]:=Array.getElem?_eq_getElem hlt;obtain⟨_,hb2,_⟩:=relB2_spec hB hop;have:j∈Region.ready .any ops listed:=by
       rw[mem_ready];refine⟨?_,ops[j],hop,fun e he hb=>ih e.on (by have:=hb2 e he hb;omega) (by have:=hb2 e he hb;omega)⟩;have hjs:j < listed.size:=by omega
       simp[hjs]at hl ⊢;exact hl
      rw[hr]at this;cases this
     ·rfl
   rw[all (n+1) n (by omega) (by omega)]at hln;cases hln
  induction fuel with
  |zero=>
   intro listed vals W hs hcount hdown hJW hln;have hr:Region.ready .any ops listed=[]:=by
    rw[List.eq_nil_iff_forall_not_mem];intro j hj;have h0:=(mem_ready.1 hj).1;obtain⟨_,o,ho,_⟩:=mem_ready.1 hj;have hjs:j < listed.size:=by have:=(Array.getElem?_eq_some_iff.1 ho).1;omega
    have hmem:false∈listed.toList:=by
     have:listed[j]=false:=by simpa[hjs]using h0
     rw[←this];simp
    have:=List.count_pos_iff.2 hmem;omega
   exact absurd hr (notdone listed hs hln)
  |succ fuel ih=>
   intro listed vals W hs hcount hdown hJW hln;refine⟨fun hr=>absurd hr (notdone listed hs hln),fun i hi=> ?_⟩;obtain⟨h0,o,ho,hall⟩:=mem_ready.1 hi;have hlt:i < ops.size:=(Array.getElem?_eq_some_iff.1 ho).1;have hli:listed.getD i false=false:=by simpa[show i < listed.size by omega]using h0
   have hli?:listed[i]? =some false:=by
    rw[Array.getElem?_eq_getElem (show i < listed.size by omega)];simpa[show i < listed.size by omega]using hli
   obtain⟨hsel,hb2,hb3⟩:=relB2_spec hB ho;have hdi:dstAt ops i=o.dst:=by unfold dstAt;rw[ho];rfl
   by_cases hin:i=n
   ·subst hin;have hk:∀k,k < i→listed.getD k false=true:=fun k hk=>by
     have hw:=htl k hk;rw[hsz]at hw;unfold waitsT at hw;rw[ho]at hw;simp only[]at hw;rw[Array.any_eq_true]at hw;obtain⟨x,hx,h9⟩:=hw;simp only[Bool.and_eq_true,Bool.or_eq_true,beq_iff_eq]at h9;have he:=hall _ (Array.getElem_mem hx) h9.1;rcases h9.2 with h6|h6
     ·rw[←h6];exact he
     ·exact waitsT_listed hdown _ _ k he h6
    have hl:=hend o ho (fun j=>listed.getD j false) vals W hJW hk;have ea:relAct ops a0 (fun j=>listed.getD j false) vals ops.size=relAct ops a0 (fun _=>true) vals i:=by
     rw[hsz];have e1:relAct ops a0 (fun j=>listed.getD j false) vals (i+1)=relAct ops a0 (fun j=>listed.getD j false) vals i:=by
      conv=>lhs;unfold relAct
      simp only[hln];rfl
     rw[e1];exact relAct_congr (ops:=ops) (a0:=a0) (L:=fun j=>listed.getD j false) (L':=fun _=>true) (vals:=vals) (vals':=vals) i (fun j hj=>⟨hk j hj,fun _=>rfl⟩)
    rw[ea];have hlast:wpOp P ops Q i (fun a w=>Q .normal a w) (relAct ops a0 (fun _=>true) vals i) W:=by
     unfold wpOp;simp only[ho];unfold wpList at hl;exact hl
    refine wpOp_mono (fun a w hq=> ?_) hlast;have hre:Region.ready .any ops (listed.setIfInBounds i true)=[]:=by
     rw[List.eq_nil_iff_forall_not_mem];intro j hj;have h0:=(mem_ready.1 hj).1;obtain⟨_,oj,hoj,_⟩:=mem_ready.1 hj;have hjl:j < ops.size:=(Array.getElem?_eq_some_iff.1 hoj).1;have hjs:j < (listed.setIfInBounds i true).size:=by simp;omega
     have h3:(listed.setIfInBounds i true).getD j false=true:=by
      by_cases e:j=i
      ·subst e;simp[show j < listed.size by omega]
      ·have hne:i≠j:=fun h=>e h.symm;simp only[Array.getD_eq_getD_getElem?,Array.getElem?_setIfInBounds_ne hne];have:=hk j (by omega);simpa[Array.getD_eq_getD_getElem?]using this
     have h4:(listed.setIfInBounds i true).getD j false=false:=by
      simp only[Array.getD_eq_getD_getElem?,Array.getElem?_eq_getElem hjs,Option.getD_some]at h0 ⊢;exact h0
     rw[h3]at h4;cases h4
    cases fuel with
    |zero=>exact⟨hre,hq⟩
    |succ fuel=>exact⟨fun _=>hq,fun k hk2=>by rw[hre]at hk2;cases hk2⟩
   have hst:=step i o ho (by omega) (fun j=>listed.getD j false) vals W hJW hli (fun e he hb=>hall e he hb);have hst2:opYield P ops o (relAct ops a0 (fun j=>listed.getD j false) vals ops.size) W (fun v W'=>J (fun k=>if k=i then true else listed.getD k false) (fun k=>if k=i then v else vals k) W'):=by
    refine opYield_congr hsel ?_ hst;intro t ht;by_cases hex:∃k,dstAt ops k=some t
    ·obtain⟨k,hk⟩:=hex;rcases(hb3 k t hk).2 ht with⟨hki,e,he,heq,hbe⟩|hkw
     rotate_left
     ·obtain⟨ok,hok,e,he,heq,hbe⟩:=waitsB_elim hkw;have hik:i < k:=by have:=(relB2_spec hB hok).2.1 e he hbe;omega
      have hlk:listed.getD k false=false:=by
       cases hlk:listed.getD k false
       ·rfl
       ·have:=hdown k ok hok hlk e he hbe;rw[heq,hli]at this;cases this
      have hu:∀j,dstAt ops j=some t→j=k:=by
       intro j hj;have hjl:j < ops.size:=by
        rcases Nat.lt_or_ge j ops.size with g|g
        ·exact g
        ·unfold dstAt at hj;rw[Array.getElem?_eq_none g]at hj;cases hj
       rcases Nat.lt_trichotomy j k with g|g|g
       ·exfalso;have:=((relB2_spec hB hok).2.2 j t hj).1 (by omega);apply this;unfold dstAt at hk;rw[hok]at hk;exact hk
       ·exact g
       ·exfalso;have hjop:ops[j]? =some ops[j]:=Array.getElem?_eq_getElem hjl;have:=((relB2_spec hB hjop).2.2 k t hk).1 (by omega);apply this;unfold dstAt at hj;rw[hjop]at hj;exact hj
      rw[relAct_free i (fun j hj _ h=>by have:=hu j h;omega),relAct_free ops.size (fun j _ hl h=>by
       have:=hu j h;rw[this,hlk]at hl;cases hl)]
     have hkl:listed.getD k false=true:=by rw[←heq];exact hall e he hbe
     have hu:∀j,dstAt ops j=some t→j=k:=by
      intro j hj;rcases Nat.lt_trichotomy j k with g|g|g
      ·exfalso;have hkop:ops[k]? =some ops[k]:=Array.getElem?_eq_getElem (by omega);have:=((relB2_spec hB hkop).2.2 j t hj).1 (by omega);apply this;unfold dstAt at hk;rw[hkop]at hk;exact hk
      ·exact g
      ·exfalso;have hjl:j < ops.size:=by
        rcases Nat.lt_or_ge j ops.size with g|g
        ·exact g
        ·unfold dstAt at hj;rw[Array.getElem?_eq_none g]at hj;cases hj
       have hjop:ops[j]? =some ops[j]:=Array.getElem?_eq_getElem hjl;have:=((relB2_spec hB hjop).2.2 k t hk).1 (by omega);apply this;unfold dstAt at hj;rw[hjop]at hj;exact hj
     rw[relAct_at hk hu i hki rfl,relAct_at hk hu ops.size (by omega) hkl]
    ·have hno:∀j,dstAt ops j≠some t:=fun j hj=>hex ⟨j,hj⟩;rw[relAct_free i (fun j _ _=>hno j),relAct_free ops.size (fun j _ _=>hno j)]
   refine wpOp_of_yield ho hst2 fun v W' hJ'=> ?_;rw[←hdi,put_relAct hli (fun j d hne hj=>by
    intro hid;rw[hdi]at hid;exact(hb3 j d hj).1 hne hid) ops.size hlt]
   have hget:∀j,(listed.setIfInBounds i true).getD j false=if j=i then true else listed.getD j false:=by
    intro j;by_cases e:j=i
    ·subst e;rw[if_pos rfl];simp[show j < listed.size by omega]
    ·rw[if_neg e];have hne:i≠j:=fun h=>e h.symm;simp only[Array.getD_eq_getD_getElem?,Array.getElem?_setIfInBounds_ne hne]
   have hcg:=relAct_congr (ops:=ops) (a0:=a0) (L:=fun j=>if j=i then true else listed.getD j false) (L':=fun j=>(listed.setIfInBounds i true).getD j false) (vals:=fun j=>if j=i then v else vals j) (vals':=fun j=>if j=i then v else vals j) ops.size (fun j _=>⟨(hget j).symm,fun _=>rfl⟩);rw[hcg];refine ih _ _ W' (by simpa using hs) ?_ ?_ ?_ (by rw[hget,if_neg (fun e=>hin e.symm)];exact hln)
   ·have:=count_set listed i hli?;omega
   ·intro j oj hj hlj e he hb;rw[hget];by_cases ee:e.on=i
    ·rw[if_pos ee]
    ·rw[if_neg ee];rw[hget]at hlj;by_cases ej:j=i
     ·subst ej;rw[ho]at hj;cases hj;exact hall e he hb
     ·rw[if_neg ej]at hlj;exact hdown j oj hj hlj e he hb
   ·have eL:(fun j=>(listed.setIfInBounds i true).getD j false)=fun k=>if k=i then true else listed.getD k false:=funext hget
    rw[eL];exact hJ'
 refine wp_region_any hm ?_;have eN:(fun j=>(Array.replicate ops.size false).getD j false)=fun _=>false:=funext fun j=>none_listed _ _;have h:=main ops.size (Array.replicate ops.size false) (fun _=>undef) {w0 with drawn:=w0.drawn+1} (by simp) (by simp) (fun j o _ hl=>by rw[none_listed]at hl;cases hl) (by rw[eN];exact hJ0) (none_listed _ _)
 have e:relAct ops a0 (fun j=>(Array.replicate ops.size false).getD j false) (fun _=>undef) ops.size=a0:=by
  have:∀n,relAct ops a0 (fun j=>(Array.replicate ops.size false).getD j false) (fun _=>undef) n=a0:=by
   intro n
   induction n with
   |zero=>rfl
   |succ n ih=>
    unfold relAct;rw[ih,if_neg (by rw[none_listed];exact Bool.false_ne_true)]
  exact this _
 rw[e]at h;exact h
theorem wp_region_m3p{id:Nat}{Q:Exit→Act→World→Prop}{a0:Act}{w0:World}(hm:P.follows .mixedOrders=true)(hB:relB2 ops=true)(n:Nat)(hT:tailB ops n=true)(fs:List Fact)(g:Nat→Value→Nat→Nat→Prop)
 (step:∀i o,ops[i]? =some o→i < n→∀L vals W lo hi,J3 ops w0 fs g L vals W lo hi→(∀e∈o.after,Region.binds .any e=true→L e.on=true)→
   opYield P ops o (relAct ops a0 (fun _=>true) vals i) W (fun v W'=>Ext W W'∧(factAt fs i).p v W'∧g i v W.heap.size W'.heap.size))
 (last:∀o,ops[n]? =some o→∀vals W lo hi,Done3 n w0 fs g vals W lo hi→wpList P ops Q [o] (relAct ops a0 (fun _=>true) vals n) W):
 (Code.region id ops true).wp P Q a0 w0:=by
 unfold tailB at hT;rw[Bool.and_eq_true,decide_eq_true_iff]at hT;obtain⟨hsz,hall⟩:=hT;refine wp_region_jp hm hB (fun L vals W=>∃lo hi,J3 ops w0 fs g L vals W lo hi) ⟨_,_,J3.start w0 fs g⟩ n hsz (fun k hk=>List.all_eq_true.1 hall k (List.mem_range.2 hk)) ?_ ?_
 ·rintro o ho L vals W ⟨lo,hi,h⟩ hL;exact last o ho vals W lo hi ⟨h.C,fun j hj=>h.f j (hL j hj),fun j hj=>h.t j (hL j hj),fun i j h1 h2=>h.ap i j (hL i h1) (hL j h2)⟩
 ·rintro i o ho hi L vals W ⟨lo,hi',h⟩ hL hd;refine opYield_mono ?_ (step i o ho hi L vals W lo hi' h hd);rintro v W' ⟨h1,h2,h3⟩;exact⟨_,_,h.put ho hL hd h1 h2 h3⟩
end
end Go.Proofs.YtmbdoacafhljkaaGreat
namespace Go.Proofs.YtmbdoacafhljkaaGreat
open Go.RowKit
namespace Nm
def emptyF(B:Nat):Fact:=⟨fun v W=>∃b,v=.map (some b)∧W.heap[b]? =some (.map #[] 0)∧B≤b∧b < W.heap.size,by
 rintro v W W' hE ⟨b,h1,h2,h3,h4⟩;exact⟨b,h1,(hE.block b h4).trans h2,h3,Nat.lt_of_lt_of_le h4 hE.size⟩⟩
def numsF(B N:Nat)(E:DataW Unit):Fact:=⟨fun v W=>∃b,v=.map (some b)∧W.ownsMap prog 9 (plainElem prog 3) b N E∧B≤b,by
 rintro v W W' hE ⟨b,h1,h2,h3⟩;exact⟨b,h1,ownsMap_block h2 (hE.block b h2.lt),h3⟩⟩
structure NewMaps(B N:Nat)(E:DataW Unit)(W:World)(b1 b2:Nat):Prop where
 a:W.heap[b1]? =some (.map #[] 0)
 b:W.ownsMap prog 9 (plainElem prog 3) b2 N E
 ne:b1≠b2
 h1:B≤b1
 h2:B≤b2
theorem lt_map{W:World}{b:Nat}{o:Obj}(h:W.heap[b]? =some o):b < W.heap.size:=(Array.getElem?_eq_some_iff.1 h).1
theorem NewMaps.ext{B N:Nat}{E:DataW Unit}{W W':World}{b1 b2:Nat}(h:NewMaps B N E W b1 b2)(hE:Ext W W'):NewMaps B N E W' b1 b2:=
 ⟨(hE.block _ (lt_map h.a)).trans h.a,ownsMap_block h.b (hE.block _ h.b.lt),h.ne,h.h1,h.h2⟩
def aggZ(B N:Nat)(E:DataW Unit)(u t:Value):Fact:=⟨fun v W=>∃b1 b2,v=.agg #[u,.map (some b1),.map (some b2),t]∧NewMaps B N E W b1 b2,by
 rintro v W W' hE ⟨b1,b2,h1,h2⟩;exact⟨b1,b2,h1,h2.ext hE⟩⟩
def boxZ(B N:Nat)(E:DataW Unit)(u t:Value):Fact:=⟨fun v W=>∃c b1 b2,v=.pointer (some ⟨c,0,none⟩)∧W.heap[c]? =some (.cells #[u,.map (some b1),.map (some b2),t] 103 (0,0))∧NewMaps B N E W b1 b2∧B≤c,by
 rintro v W W' hE ⟨c,b1,b2,h1,h2,h3,h4⟩;exact⟨c,b1,b2,h1,(hE.block _ (lt_block h2)).trans h2,h3.ext hE,h4⟩⟩
theorem ownsMap_empty{W:World}{b:Nat}(h:W.heap[b]? =some (.map #[] 0))(k:TypeId)(R:Value→Option (DataW Unit×List MemPlace)):W.ownsMap prog k R b 0 (.map []):=by
 obtain⟨es,clock,h1,h2,h3,h4⟩:=World.ownsMap_made (w:=W) (P:=prog) (k:=k) (R:=R);have h5:=heap_alloc_new W (.map #[] 0);rw[h5]at h1;cases h1;exact⟨#[],0,h,h2,h3,h4⟩
theorem perm_sum{a b:List Int}(h:a.Perm b):a.sum=b.sum:=by
 induction h with
 |nil=>rfl
 |cons _ _ ih=>simp[ih]
 |swap x y l=>simp;omega
 |trans _ _ h1 h2=>exact h1.trans h2
theorem cntP_perm{ap:List Lab}{P PP:List Nq}(h:(PP.map (·.n)).Perm (P.map (·.n))):cntP ap PP=cntP ap P:=by
 funext m;have h1:=(h.map fun n=>occ n (n.length - ap.length+1) m)
 rw[List.map_map,List.map_map]at h1;unfold cntP;exact perm_sum h1
theorem ranges_k{S:Nat→Prop}{w w':World}{k:TypeId}{R:Value→Option (DataW Unit×List MemPlace)}{b r n:Nat}{D:DataW Unit}{left:Lit→Bool}{cnt:Nat}(h:w.ranges prog k R b r n D left cnt)(hk:Kept S w w')(hb':¬S b)(hr':¬S r):w'.ranges prog k R b r n D left cnt:=by
 have h1:=h.owns.lt;have h2:=h.lt;obtain⟨es,clock,since,seen,c0,hb,F,hs,hD,hr,rest⟩:=h;exact⟨es,clock,since,seen,c0,(hk.block b h1 hb').trans hb,F,hs,hD,(hk.block r h2 hr').trans hr,rest⟩
def setA(lo:Nat)(ttl:Int)(ds:List (Blob×Blob)):Fact:=⟨fun v W=>∃v2,v=.agg #[.int .u32 ttl,v2]∧W.ownsRow lo 121 2 v2 ds.length (datC ds),by
 rintro v W W' hE ⟨v2,h1,h2⟩;exact⟨v2,h1,own_below h2 hE⟩⟩
def setB(lo:Nat)(ttl:Int)(ds:List (Blob×Blob)):Fact:=⟨fun v W=>∃s2 v2,v=.pointer (some ⟨s2,0,none⟩)∧W.heap[s2]? =some (.cells #[.int .u32 ttl,v2] 119 (0,0))∧W.ownsRow lo 121 2 v2 ds.length (datC ds)∧lo≤s2,by
 rintro v W W' hE ⟨s2,v2,h1,h2,h3,h4⟩;exact⟨s2,v2,h1,(hE.block _ (lt_block h2)).trans h2,own_below h3 hE,h4⟩⟩
def keyQ(q:Sq):Lit:=key16 q.t
theorem elem_ofS{D2:DataW Unit}{qs:List Sq}(hE:Ents D2 (qs.map Sq.ent))(ha:KApart (qs.map Sq.ent)){q:Sq}(hq:q∈qs){c:Option Nat}{y:DataW Unit×List MemPlace}(hR:ptrR (ptrV c)=some y)(hat:∀zd,D2.atKey (keyQ q) zd=y.1):c=some q.s:=by
 have h1:=hat .nil;have h0:D2.atKey (keyQ q) .nil=.lit (.int .i64 (q.s:Int)):=hE.at_mem ha (key_int _ _) (List.mem_map.2 ⟨q,hq,rfl⟩) _;rw[h0]at h1;obtain⟨y1,y2⟩:=y;simp only at h1;subst h1;have h2:=ptr_of (o:=some q.s) hR;cases c with
 |none=>cases h2
 |some b=>cases h2;rfl
structure CopyR(w w0:World)(B M N bn r nb:Nat)(D:DataW Unit)(P:List Nq)(Q:List Sq)(wr:World)(left:Lit→Bool)(cnt:Nat)(V R PP:List Nq)(QQ:List Sq)(Dn:DataW Unit):Prop where
 rg:wr.ranges prog 9 ptrR bn r N D left cnt
 st:Rng keyP P V R left
 kp:Kept (fun k=>k=r∨k=nb) w0 wr
 mp:wr.ownsMap prog 9 ptrR nb PP.length Dn
 en:Ents Dn (PP.map Nq.ent)
 ns:CpS w0.heap.size wr QQ
 nn:CpN w0.heap.size B M w wr PP QQ
 pn:PP.map (·.n)=V.map (·.n)
 qc:(QQ.map Sq.core).Perm ((V.flatMap fun p=>setsOf Q p.n).map Sq.core)
structure CopyI(w6:World)(N bs r2 b2:Nat)(D2:DataW Unit)(qs:List Sq)(wr:World)(left:Lit→Bool)(cnt:Nat)(V R QI:List Sq)(Dn:DataW Unit):Prop where
 rg:wr.ranges prog 36 ptrR bs r2 N D2 left cnt
 st:Rng keyQ qs V R left
 kp:Kept (fun k=>k=r2∨k=b2) w6 wr
 mp:wr.ownsMap prog 36 ptrR b2 QI.length Dn
 en:Ents Dn (QI.map Sq.ent)
 ns:CpS w6.heap.size wr QI
 qc:QI.map Sq.core=V.map Sq.core
theorem CopyR.below{w W w0 wr:World}{B M N bn nb:Nat}{D:DataW Unit}{P:List Nq}{Q:List Sq}{left:Lit→Bool}{cnt:Nat}{V R PP:List Nq}{QQ:List Sq}{Dn:DataW Unit}(h:CopyR w w0 B M N bn W.heap.size nb D P Q wr left cnt V R PP QQ Dn)(hW:Below w.heap.size w W)(h0:Below W.heap.size W w0)(hnb:w.heap.size≤nb):Below w.heap.size w wr:=
 (hW.trans (h0.mono hW.size)).trans (h.kp.below (Nat.le_trans hW.size h0.size) fun k hk e=>by
   have:=hW.size;rcases e with e|e <;> omega)
theorem copy_zg{w W w0 wr:World}{B M N bn b1 b2 c:Nat}{ap:List Lab}{D E:DataW Unit}{P:List Nq}{Q:List Sq}{left:Lit→Bool}{cnt:Nat}{V R PP:List Nq}{QQ:List Sq}{Dn:DataW Unit}{Aa:Option Addr}{ca:Nat}
 (hC:CopyR w w0 B M N bn W.heap.size b1 D P Q wr left cnt V R PP QQ Dn) (hV:V.Perm P) (hw:Wf ap P Q) (hza:w.ownsRow B 9 1 (.slice Aa ap.length ca) ap.length (ap.map strV)) (hseen:Seen E (cntP ap P)) (hbw:Below w.heap.size w W) (hb0:Below W.heap.size W w0)
 (hcb:W.heap[c]? =some (.cells #[.slice Aa ap.length ca,.map (some b1),.map (some b2),.int .i64 ((total Q:Nat):Int)] 103 (0,0))) (hnm:NewMaps w.heap.size N E W b1 b2) (hcB:w.heap.size≤c) (hBw:B≤w.heap.size) (hN:N≤M) (hPM:P.length≤M) (hs0:w0.heap.size=W.heap.size+1)
 (hSD:∀q∈Q,SdG w B q.s q.ttl q.v q.ds∧(Lit.int .u16 q.t).wf=true):
 Below w.heap.size w wr∧ZG wr B c b1 b2 ap PP QQ M∧(PP.map (·.n)).Perm (P.map (·.n))∧(QQ.map Sq.core).Perm (Q.map Sq.core)∧(∀k,zblk c b1 b2 PP QQ k→w.heap.size≤k):=by
 have hQ:(QQ.map Sq.core).Perm (Q.map Sq.core):=hC.qc.trans ((by_names hw hV).map _);have hPn:(PP.map (·.n)).Perm (P.map (·.n)):=by rw[hC.pn];exact hV.map _
 have hbr:=hC.below hbw hb0 hnm.h1;have hcl:=lt_block hcb;have hc1:c≠b1:=fun e=>by
  have:=hnm.a;rw[←e,hcb]at this;cases this
 have hb1l:=lt_map hnm.a;have hb2l:=hnm.b.lt;have hws:=hbw.size;have hcr:=(hC.kp.block c (Nat.lt_of_lt_of_le hcl hb0.size) (fun e=>by rcases e with e|e <;> omega)).trans ((hb0.block c hcl).trans hcb);have hb2r:=ownsMap_block hnm.b ((hC.kp.block b2 (Nat.lt_of_lt_of_le hb2l hb0.size) (fun e=>by
  rcases e with e|e
  ·omega
  ·exact hnm.ne e.symm)).trans (hb0.block b2 hb2l))
 have hPPl:PP.length≤M:=by
  have:=hPn.length_eq;rw[List.length_map,List.length_map]at this;omega
 have g1:=hnm.h1;have g2:=hnm.h2;refine⟨hbr,⟨⟨Dn,⟨⟨Aa,ca,by rw[total_core hQ];exact hcr,own_below hza hbr⟩,hC.mp.mono hPPl,⟨E,hb2r.mono hN,by rw[cntP_perm hPn];exact hseen⟩,hnm.ne,by omega,by omega,by omega⟩,hC.en⟩,fun p hp=> ?_,fun q hq=> ?_, ?_,hC.ns.ds,hC.ns.dv⟩,hPn,hQ, ?_⟩
 ·obtain⟨⟨A,c',h1,h2⟩,⟨D2,h3,h4⟩,h5,h6⟩:=hC.nn.nd p hp;exact⟨D2,⟨⟨A,c',h1,own_below h2 hbr⟩,h3,by omega⟩,h4⟩
 ·obtain⟨h1,h2,h3⟩:=hC.ns.sd q hq;obtain⟨r,hr,_,_,_,e⟩:=core_mem hQ hq;have hd:=(hSD r hr).1.dat;rw[←e]at hd;exact⟨h1,own_base h2 (by omega),fun d hdm=>⟨own_below (hd d hdm).1 hbr,own_below (hd d hdm).2 hbr⟩,by omega⟩
 ·have hlo:∀k∈PP.map (·.bs),w0.heap.size≤k:=fun k hk=>by
   obtain⟨p,hp,rfl⟩:=List.mem_map.1 hk;exact(hC.nn.nd p hp).2.2.2
  refine List.nodup_cons.2 ⟨fun hm=> ?_,List.nodup_cons.2 ⟨fun hm=> ?_,hC.nn.dbs⟩⟩
  ·rcases List.mem_cons.1 hm with e|e
   ·exact hnm.ne e
   ·have:=hlo _ e;omega
  ·have:=hlo _ hm;omega
 ·rintro k (e|e|e|⟨p,hp,e⟩|⟨q,hq,e|e⟩)
  ·omega
  ·omega
  ·omega
  ·have:=(hC.nn.nd p hp).2.2.2;omega
  ·have:=(hC.ns.sd q hq).2.2;omega
  ·have:=((hC.ns.sd q hq).2.1.lt k e.symm).1;omega
theorem ZCopy(w:World)(B z bn bb:Nat)(ap:List Lab)(P:List Nq)(Q:List Sq)(N:Nat)(h:ZG w B z bn bb ap P Q N)(hw:Wf ap P Q)(hPl:P.length≤100000)(hQl:Q.length≤100000)(hql:∀q∈Q,q.ds.length≤100000):
 Calls prog 35 #[.pointer (some ⟨z,0,none⟩)] w fun e w'=>Below w.heap.size w w'∧∃c bn' bb' P' Q',e=.returned (.pointer (some ⟨c,0,none⟩))∧ZG w' B c bn' bb' ap P' Q' (N+P.length+Q.length)∧(P'.map (·.n)).Perm (P.map (·.n))∧(Q'.map Sq.core).Perm (Q.map Sq.core)∧(∀k,zblk c bn' bb' P' Q' k→w.heap.size≤k):=by
 obtain⟨D,hzn,hE⟩:=h.zn;obtain⟨Aa,ca,hzb,hza⟩:=hzn.blk;obtain⟨z0,z1,z2,z3,_⟩:=cells4 hzb;obtain⟨E,hbel,hseen⟩:=hzn.below;have hzl:=lt_block hzb;have hM:=hzn.nodes;have hml:=hM.lt;have HBL:=hid (And.intro hbel hseen)
 have HND:Hid (∀p∈P,∃A c,w.heap[p.x]? =some (.cells #[.slice A p.n.length c,.map (some p.bs)] 112 (0,0))∧w.ownsRow B 9 1 (.slice A p.n.length c) p.n.length ((lower p.n).map strV)):=hid fun p hp=>by
  obtain⟨D2,h3,_⟩:=h.nd p hp;exact h3.node
 have HMD:Hid (∀p∈P,∃D2,w.ownsMap prog 36 ptrR p.bs N D2∧Rng keyQ (setsOf Q p.n) [] (setsOf Q p.n) (Maps.has D2)∧∀q∈setsOf Q p.n,∀(c:Option Nat) (y:DataW Unit×List MemPlace),ptrR (ptrV c)=some y→(∀zd,D2.atKey (keyQ q) zd=y.1)→c=some q.s):=hid fun p hp=>by
  obtain⟨D2,h3,h4⟩:=h.nd p hp;exact⟨D2,h3.sets,Rng.start (key:=keyQ) (fun _=>rfl) h4 (hw.apartQ p.n) (fun a _=>key_int _ _),fun q hq c y hR hat=>elem_ofS h4 (hw.apartQ p.n) hq hR hat⟩
 have HSD:Hid (∀q∈Q,SdG w B q.s q.ttl q.v q.ds∧(Lit.int .u16 q.t).wf=true):=hid fun q hq=>⟨h.sd q hq,hw.wt q hq⟩
 have HEL:Hid (∀p∈P,∀(c:Option Nat) (y:DataW Unit×List MemPlace),ptrR (ptrV c)=some y→(∀zd,D.atKey (keyP p) zd=y.1)→c=some p.x):=hid fun p hp c y hR hat=>elem_of hE hw.apartP hp hR hat;have HST:Hid (Rng keyP P [] P (Maps.has D)):=hid (Rng.start (key:=keyP) (fun _=>rfl) hE hw.apartP (fun a _=>key_lit _));have HZ:=hid (And.intro hzn (And.intro hza hw))
 clear hbel hseen h hw hzn hza hE;have hmm:= @run_makeMap prog;go_enter func35,ntmps35;go_wp2_with fail
 refine wp_region_m3 mixed0 (by kernel_rfl) [.is (.pointer (some ⟨z,0,none⟩)),.is (.pointer (some ⟨z,0,none⟩)),.is (.pointer (some ⟨z,0,none⟩)),.is (.slice Aa ap.length ca),emptyF w.heap.size,.is (.pointer (some ⟨z,0,none⟩)),.is (.pointer (some ⟨z,0,none⟩)),.is (.pointer (some ⟨z,2,none⟩)),.is (.map (some bb)),numsF w.heap.size N E,.is (.pointer (some ⟨z,0,none⟩)),.is (.pointer (some ⟨z,0,none⟩)),.is (.pointer (some ⟨z,3,none⟩)),.is (.int .i64 ((total Q:Nat):Int)),aggZ w.heap.size N E (.slice Aa ap.length ca) (.int .i64 ((total Q:Nat):Int)),boxZ w.heap.size N E (.slice Aa ap.length ca) (.int .i64 ((total Q:Nat):Int)),boxZ w.heap.size N E (.slice Aa ap.length ca) (.int .i64 ((total Q:Nat):Int))] (fun i v lo hi=>(i=4∨i=9)→∀b,v=.map (some b)→lo≤b∧b < hi) ?_ ?_
 ·intro i o hio L vals W lo hi hJ hd;have hE:=hJ.C;have haf:=fun(e:Edge) (he:e∈o.after) (hb:Region.binds .any e=true)=>hJ.f e.on (hd e he hb);have e0:=(bcl (o:=0) hE hzl).trans z0;have e2:=(bcl (o:=2) hE hzl).trans z2;have e3:=(bcl (o:=3) hE hzl).trans z3;rcases i with _|_|_|_|_|_|_|_|_|_|_|_|_|_|_|_|_|i
  all_goals first
   |(exfalso;simp at hio;done)
   |(simp at hio;subst hio;simp[Region.binds,factAt]at haf;simp[opU,go_sem,haf,e0,e2,e3,Ext.refl,factAt];done)
   |skip
  all_goals
   simp at hio;subst hio;simp[Region.binds,factAt]at haf
  ·simp[opU,go_sem,haf,e0,e2,e3,Ext.refl,factAt,hmm];exact⟨bAl,⟨_,rfl,heap_alloc_new W _,hE.size,by simp⟩⟩
  ·simp[opU,go_sem,haf,e0,e2,e3,Ext.refl,factAt];refine(AnyW.maps_Clone_owns Tryz.cloneM 9 (plainElem prog 3) bb N E W (ownsMap_block HBL.out.1 (hE.block _ HBL.out.1.lt))).mono fun e W' h=> ?_;obtain⟨rfl,h1,h2,h3⟩:=h;exact⟨_,rfl,h3,⟨_,rfl,h1,hE.size⟩,fun b hb=>by cases hb;exact⟨Nat.le_refl _,h1.lt⟩⟩
  ·obtain⟨h3,⟨b1,h4,g1,g2,g3⟩,⟨b2,h9,g4,g5⟩,h13⟩:=haf;have L4:L 4=true:=hd ⟨4,.data⟩ (by simp) rfl;have L9:L 9=true:=hd ⟨9,.data⟩ (by simp) rfl;have ha:=hJ.ap 4 9 L4 L9 (by decide);have t4:=(hJ.t 4 L4).1 (.inl rfl) b1 h4;have t9:=(hJ.t 9 L9).1 (.inr rfl) b2 h9;simp[opU,go_sem,h3,h4,h9,h13,factAt,Ext.refl]
   exact⟨_,_,rfl,g1,g4,by omega,g2,g5⟩
  ·obtain⟨b1,b2,h14,hn⟩:=haf;simp[opU,go_sem,h14,factAt];have hE2:Ext W (W.alloc (.cells #[.slice Aa ap.length ca,.map (some b1),.map (some b2),.int .i64 ((total Q:Nat):Int)] 103)):=bAl;exact⟨hE2,⟨_,_,_,rfl,heap_alloc_new W _,hn.ext hE2,hE.size⟩⟩
 ·intro vals W lo hi hD;obtain⟨c,b1,b2,hv,hcb,hnm,hcB⟩:=hD.f 16 (by decide);have hE:Below w.heap.size w W:=hD.C;simp[relAct,dstAt,Act.put];rw[hv];clear hD hv;have hMW:=ownsMap_block hM (hE.block _ hml);have hz1W:=(bcl (o:=1) hE hzl).trans z1;have hzlW:=Nat.lt_of_lt_of_le hzl hE.size;obtain⟨q0,q1,q2,q3,_⟩:=cells4 hcb;have hcl:=lt_block hcb;have HCB:=hid hcb;have HNM:=hid hnm
  have HE:=hid hE;clear hcb hnm hE z0 z1 z2 z3 hzb hM
  go_wp2_with (first|(at_range;refine wpList_range_own _ rfl _ 100 rfl 9 109 keyS underlying100 ptrR bn N _ rfl hMW ?_;intro w0 hrg0 hg0 hs0))
  go_frame
  have hb0:Below W.heap.size W w0:=⟨hg0.os,hg0.tape,hg0.output,hg0.size,fun k hk=>hg0.block k hk (by simp)⟩
  have HRG:=hid hrg0;clear hrg0
  go_loopw [5] (fun _ wr=>∃left cnt V R PP QQ Dn,CopyR w w0 B (N+P.length+Q.length) N bn W.heap.size b1 D P Q wr left cnt V R PP QQ Dn) (fun _ wr=>wr.rangeLeft bn W.heap.size)
  case atStart=>
   have hb1:=(hb0.block b1 (lt_map HNM.out.a)).trans HNM.out.a;exact⟨_,_,[],P,[],[],.map [],HRG.out,HST.out,Kept.refl _ _,ownsMap_empty hb1 _ _,Ents.empty,CpS.nil _ _,CpN.nil _ _ _ _ _ _,rfl,List.Perm.refl _⟩
  case round=>
   obtain⟨left,cnt,V,R,PP,QQ,Dn,hC⟩:=hrel;have hrg:=hC.rg;have HC:=hid hC;clear hC
   go_wp2_with (first|(at_next;refine wpList_next_ranges _ rfl _ rfl 9 keyS ptrR Value.string ptrV keyS_inv ptrV_inv bn W.heap.size N _ _ _ rfl hrg ?_ ?_))
   ·intro hc0 hl0;have HP:=hid (HC.out.st.done hl0);go_wp2_with fail;go_ret;obtain⟨k1,k2,k3,k4,k5⟩:=copy_zg HC.out HP.out HZ.out.2.2 HZ.out.2.1 HBL.out.2 HE.out hb0 HCB.out HNM.out hcB (Nat.le_trans HZ.out.1.h1 (Nat.le_of_lt hzl)) (M:=N+P.length+Q.length) (by omega) (by omega) hs0 HSD.out;exact⟨k1,c,b1,b2,PP,QQ,rfl,k2,k3,k4,k5⟩
   ·intro kk cc kl ya yb w1 cnt1 hkey hlk hR hat hrg1 hlt hg1 hs1 hen;obtain⟨p,hp,hkp,R',hst2,hlen⟩:=HC.out.st.step hlk;have hc:=HEL.out p hp cc (ya,yb) hR (fun zd=>by rw[hkp];exact hat zd);subst hc;obtain⟨m,hm⟩:∃m,wr.heap.size=m:=⟨_,rfl⟩
    rw[hm]at hs1;have hbr:=HC.out.below HE.out hb0 HNM.out.h1;have hWs:=HE.out.size;have hb1:Below w.heap.size w w1:=hbr.trans ⟨hg1.os,hg1.tape,hg1.output,by omega,fun k hk=>hg1.block k (by have:=hbr.size;omega) (by intro e;cases e;omega)⟩;have hmw:w.heap.size≤m:=by have:=hb1.size;omega
    obtain⟨Ap,cp,hpb,hpr⟩:=HND.out p hp;obtain⟨D2,hset,hrq,hel⟩:=HMD.out p hp;have hx:=(hb1.block p.x (lt_block hpb)).trans hpb;have hxl:=lt_block hx;obtain⟨x0,x1,_⟩:=cells2 hx;have hset1:=ownsMap_block hset (hb1.block _ hset.lt);have hen2:(Instr.entry (.pointer (some ⟨W.heap.size,0,none⟩))).run prog w1=.ok (.tuple #[.string kk,.pointer (some ⟨p.x,0,none⟩)]) w1:=hen
    have HRG1:=hid hrg1;have HRGo:=hid hrg;have HST1:=hid hst2;have HKK:=hid (And.intro hkey hkp);have HSET:=hid hset1;have HRQ:=hid (And.intro hrq hel);have HPX:=hid (And.intro hpb (And.intro hpr hx));clear hrg1 hen hR hat hlk hkey hkp hrg hst2 hrq hel hset hset1 hpb hpr hx
    go_upto_region 6 with fail
    have hbA:Below w1.heap.size w1 (w1.alloc (.map #[] 0)):=bAl;have hmA:=heap_alloc_new w1 (.map #[] 0);have hsA:(w1.alloc (.map #[] 0)).heap.size=m+1:=by simp[hs1]
    rw[hs1]at hmA;generalize hwA:w1.alloc (.map #[] 0)=wA at *;have hbB:Below wA.heap.size wA (wA.alloc (.cells #[.slice Ap p.n.length cp,.map (some m)] 112)):=bAl;have hyB:=heap_alloc_new wA (.cells #[.slice Ap p.n.length cp,.map (some m)] 112);have hsB:(wA.alloc (.cells #[.slice Ap p.n.length cp,.map (some m)] 112)).heap.size=m+2:=by simp[hsA]
    have hmB:=(hbB.block _ (lt_map hmA)).trans hmA;rw[hsA]at hyB;have hsB1:(wA.alloc (.cells #[.slice Ap p.n.length cp,.map (some m)] 112)).heap.size≤m+2:=by omega
    have hsB2:m+2≤(wA.alloc (.cells #[.slice Ap p.n.length cp,.map (some m)] 112)).heap.size:=by omega
    clear hsB;generalize wA.alloc (.cells #[.slice Ap p.n.length cp,.map (some m)] 112)=w5 at *;have hb5:Below w1.heap.size w1 w5:=hbA.trans (hbB.mono hbA.size);have x15:=(bcl (o:=1) hb5 hxl).trans x1;have hxl5:=Nat.lt_of_lt_of_le hxl hb5.size;have hset5:=ownsMap_block HSET.out (hb5.block _ HSET.out.lt);obtain⟨y0,y1,_⟩:=cells2 hyB;have hyl:=lt_block hyB
    have HB5:=hid (And.intro hb5 (And.intro hmB hyB));clear hbA hbB hmA hmB hyB hwA hb5 x0 x1
    go_wp2_with (first|(at_range;refine wpList_range_own _ rfl _ 110 rfl 36 115 keyT underlying110 ptrR p.bs N _ rfl hset5 ?_;intro w6 hrg6 hg6 hs6))
    go_frame
    have hb6:Below w5.heap.size w5 w6:=⟨hg6.os,hg6.tape,hg6.output,hg6.size,fun k hk=>hg6.block k hk (by simp)⟩
    have hyB6:=(hb6.block _ hyl).trans HB5.out.2.2;have hmB6:=(hb6.block _ (lt_map HB5.out.2.1)).trans HB5.out.2.1;have hb16:Below w.heap.size w w6:=hb1.trans ((HB5.out.1.trans (hb6.mono HB5.out.1.size)).mono hb1.size);have hcm:c < m:=by have:=hb0.size;have:=HC.out.kp.size;omega
    have hb1m:b1 < m:=by have:=hb0.size;have:=HC.out.kp.size;have:=lt_map HNM.out.a;omega
    have hcb1:c≠b1:=fun e=>by
     have h1:=HNM.out.a;rw[←e,HCB.out]at h1;cases h1
    have hc0:=(hb0.block c hcl).trans HCB.out;have hcw:=(HC.out.kp.block c (lt_block hc0) (fun e=>by rcases e with e|e <;> omega)).trans hc0;have hcw1:=(hg1.block c (lt_block hcw) (by intro e;injection e with e;omega)).trans hcw;have hcw5:=(HB5.out.1.block c (lt_block hcw1)).trans hcw1;have hcw6:=(hb6.block c (lt_block hcw5)).trans hcw5
    have hmpw1:=ownsMap_block HC.out.mp (hg1.block b1 HC.out.mp.lt (by intro e;injection e with e;have:=lt_map HNM.out.a;omega));have hmpw5:=ownsMap_block hmpw1 (HB5.out.1.block b1 hmpw1.lt);have hmpw6:=ownsMap_block hmpw5 (hb6.block b1 hmpw5.lt);have HC6:=hid (And.intro hcw6 hmpw6);clear hc0 hcw hcw1 hcw5 hcw6 hmpw1 hmpw5 hmpw6;have HRG6:=hid hrg6
    have HB6:=hid (And.intro hb6 (And.intro hmB6 (And.intro hyB6 hb16)));clear hrg6 hg6 hb6 hyB6 hmB6 hset5 y0 y1 x15
    go_loopw [7] (fun _ wq=>∃left cnt VS RS QI Dn,CopyI w6 N p.bs w5.heap.size m D2 (setsOf Q p.n) wq left cnt VS RS QI Dn) (fun _ wq=>wq.rangeLeft p.bs w5.heap.size)
    case atStart=>
     exact⟨_,_,[],setsOf Q p.n,[],.map [],HRG6.out,HRQ.out.1,Kept.refl _ _,ownsMap_empty HB6.out.2.1 _ _,Ents.empty,CpS.nil _ _,rfl⟩
    case round=>
     obtain⟨leftS,cntS,VS,RS,QI,DnS,hI⟩:=hrel;have hrgq:=hI.rg;have HI:=hid hI;clear hI
     go_wp2_with (first|(at_next;refine wpList_next_ranges _ rfl _ rfl 36 keyT ptrR (fun x:Int=>Value.int .u16 x) ptrV keyT_inv ptrV_inv p.bs w5.heap.size N _ _ _ rfl hrgq ?_ ?_))
     ·intro hcs0 hls0;have HPS:=hid (HI.out.st.done hls0);have hI:=HI.out;have hcr:=(hI.kp.block c (lt_block HC6.out.1) (fun e=>by rcases e with e|e <;> omega)).trans HC6.out.1;have hmpr:=ownsMap_block HC6.out.2 (hI.kp.block b1 HC6.out.2.lt (fun e=>by rcases e with e|e <;> omega));obtain⟨_,c1r,_⟩:=cells4 hcr;have hPPl:PP.length≤P.length:=by
       have e1:=congrArg List.length HC.out.pn;have e2:=HC.out.st.perm.length_eq;simp at e1 e2;omega
      have hclr:=lt_block hcr;have HMPR:=hid hmpr;have HII:=hid hI;clear hcr hmpr hI
      go_wp2_with (first|(at_mapUpdate;refine wpList_mapUpdate_own _ rfl _ _ _ 100 rfl 9 109 keyS underlying100 ptrR b1 PP.length Dn rfl HMPR.out (by unfold maxLen;omega) (.string kk) (.pointer (some ⟨m+1,0,none⟩)) kl rfl rfl HKK.out.1 (.lit (.int .i64 ((m+1:Nat):Int))) [] (ptrR_at (m+1)) ?_;intro w9 hmp9 hgr9))
      have hI:=HII.out;have hk69:Kept (fun k=>k=w5.heap.size∨k=m∨k=b1) w6 w9:=(hI.kp.mono (fun k _ e=>by rcases e with e|e;exact .inl e;exact .inr (.inl e))).trans ((Kept.of_grown hgr9).mono fun k _ e=>by injection e with e;exact .inr (.inr e))
      have hk19:Kept (fun k=>k=b1) w1 w9:=((Kept.of_ext (HB5.out.1.trans (HB6.out.1.mono HB5.out.1.size))).mono (fun _ _ h=>h.elim)).then hk69 (fun k hk e=>by rcases e with e|e|e <;> omega)
      have hkr9:Kept (fun k=>k=b1) wr w9:=(Kept.of_grown hgr9).mono fun k _ e=>by injection e
      have hb1lt:=lt_map HNM.out.a;have hrg9:=ranges_k HRG1.out hk19 (fun e=>by have:=HNM.out.h1;omega) (fun e=>by omega);have hkp9:Kept (fun k=>k=W.heap.size∨k=b1) w0 w9:=(HC.out.kp.trans ((Kept.of_grown hg1).mono fun k _ e=>by injection e with e;exact .inl e)).trans (hk19.mono fun k _ e=>.inr e);have hVne:∀v∈V,v.n≠p.n:=fun v hv e=>by
       have hn:=HST1.out.nd;rw[List.map_append,List.map_append]at hn;have h1:=(List.nodup_append.1 (List.nodup_append.1 hn).1).2.2 (keyP v) (List.mem_map.2 ⟨v,hv,rfl⟩) (keyP p) (by simp);exact h1 (by unfold keyP;rw[e])
      have hPne:∀v∈PP,v.n≠p.n:=fun v hv e=>by
       have h1:v.n∈V.map (·.n):=by rw[←HC.out.pn];exact List.mem_map.2 ⟨v,hv,rfl⟩
       obtain⟨u,hu,e2⟩:=List.mem_map.1 h1;exact hVne u hu (e2.trans e)
      have hent:∀e∈PP.map Nq.ent,e.1≠kl:=fun e he h1=>by
       obtain⟨r,hr,rfl⟩:=List.mem_map.1 he;have h2:r.n∈V.map (·.n):=by rw[←HC.out.pn];exact List.mem_map.2 ⟨r,hr,rfl⟩
       obtain⟨u,hu,e2⟩:=List.mem_map.1 h2;have hn:=HST1.out.nd;rw[List.map_append,List.map_append]at hn;have h3:=(List.nodup_append.1 (List.nodup_append.1 hn).1).2.2 (keyP u) (List.mem_map.2 ⟨u,hu,rfl⟩) (keyP p) (by simp);apply h3;rw[HKK.out.2,←h1];unfold keyP;rw[e2];rfl
      have hQI:∀q∈QI,q.n=p.n:=fun q hq=>by
       have h1:q.core∈VS.map Sq.core:=by rw[←hI.qc];exact List.mem_map.2 ⟨q,hq,rfl⟩
       obtain⟨v,hv,e⟩:=List.mem_map.1 h1;injection e with e _;rw[←e];exact(mem_setsOf.1 (HPS.out.mem_iff.1 hv)).2
      have hQQ:∀q∈QQ,q.n≠p.n:=fun q hq e1=>by
       obtain⟨r,hr,e2,_⟩:=core_mem HC.out.qc hq;obtain⟨v,hv,hr⟩:=List.mem_flatMap.1 hr;exact hVne v hv (by rw[←(mem_setsOf.1 hr).2,←e2,e1])
      have hy9:w9.heap[m+1]? =some (.cells #[.slice Ap p.n.length cp,.map (some m)] 112 (0,0)):=(hk69.block _ (lt_block HB6.out.2.2.1) (fun e=>by rcases e with e|e|e <;> omega)).trans HB6.out.2.2.1;have hQIl:QI.length≤Q.length:=by
       have e1:=congrArg List.length hI.qc;have e2:=HPS.out.length_eq;have e3:(setsOf Q p.n).length≤Q.length:=List.length_filter_le _ _;simp at e1;omega
      have hm9:w9.ownsMap prog 36 ptrR m (N+P.length+Q.length) DnS:=(ownsMap_block hI.mp (hkr9.block _ hI.mp.lt (fun e=>by omega))).mono (by omega);have hm0:w0.heap.size≤m:=by have:=HC.out.kp.size;omega
      have hko9:Kept (fun k=>k=W.heap.size∨k=b1) _ w9:=((Kept.of_grown hg1).mono fun k _ e=>by injection e with e;exact .inl e).trans (hk19.mono fun k _ e=>.inr e);have hns9:=(HC.out.ns.kept hko9 (fun k e hk=>by rcases e with e|e <;> omega)).add (m:=m) (fun r hr=>by
       have:=HC.out.ns.lt r hr;rw[hm]at this;exact this) ((hI.ns.kept hkr9 (fun k e hk=>by have:=HB6.out.2.2.2.size;omega)).base (by have:=lt_block HB6.out.2.2.1;omega)) hm0
      have hnn9:=(HC.out.nn.kept hko9 (fun k e hk=>by rcases e with e|e <;> omega)).add (p:=⟨p.n,m+1,m⟩) (QI:=QI) hPne hQI hQQ ⟨Ap,cp,hy9,HPX.out.2.1⟩ ⟨DnS,hm9,hI.en⟩ (show w0.heap.size≤m+1 by omega) hm0 (fun r hr e=>by
       obtain⟨_,⟨D3,h3,_⟩,_,_⟩:=HC.out.nn.nd r hr;have:=h3.lt;rw[hm]at this;have e:r.bs=m:=e;omega)
      have hrel:∃left cnt V R PP QQ Dn,CopyR w w0 B (N+P.length+Q.length) N bn W.heap.size b1 D P Q w9 left cnt V R PP QQ Dn:=by
       refine⟨_,cnt1,V++[p],R',PP++[⟨p.n,m+1,m⟩],QQ++QI,_,⟨hrg9,HST1.out,hkp9,by rw[List.length_append];exact hmp9, ?_,hns9,hnn9, ?_, ?_⟩⟩
       ·rw[List.map_append];have:=HC.out.en.put hent (.lit (.int .i64 ((m+1:Nat):Int)));have e1:Nq.ent ⟨p.n,m+1,m⟩=(kl,.lit (.int .i64 ((m+1:Nat):Int))):=by
         rw[←HKK.out.2];rfl
        simp only[List.map_cons,List.map_nil];rw[e1];exact this
       ·rw[List.map_append,List.map_append,HC.out.pn];rfl
       ·rw[List.map_append,List.flatMap_append,List.map_append];refine HC.out.qc.append ?_;rw[hI.qc];simp only[List.flatMap_cons,List.flatMap_nil,List.append_nil];exact HPS.out.map _
      have hme:=hrg9.left_eq;have hmo:=HRGo.out.left_eq;have HREL:=hid hrel;have HME:=hid (And.intro hme (And.intro hmo hlt));clear hrel hme hmo hlt hrg9 hkp9 hnn9 hns9 hent hQI hQQ hVne hPne hy9 hm9 hI hk69 hk19 hkr9 hko9 hmp9 hgr9;go_wp2_with fail
      go_roundw
      case rel=>(repeat apply Exists.intro);exact⟨HREL.out,rfl⟩
      case measure=>
       rw[HME.out.1,HME.out.2.1];exact HME.out.2.2
     ·intro tk ck kls yc yd w7 cnt7 hkey7 hlk7 hR7 hat7 hrg7 hlt7 hg7 hs7 hen7;obtain⟨q,hq,hkq,RS',hstS,hlenS⟩:=HI.out.st.step hlk7;have hcq:=HRQ.out.2 q hq ck (yc,yd) hR7 (fun zd=>by rw[hkq];exact hat7 zd);subst hcq;obtain⟨tk',ext,e2,_⟩:=Maps.keyOf_int_inv underlying36 hkey7;have htk:tk=q.t:=by
       cases ext;rw[←hkq]at e2;unfold keyQ key16 at e2;injection e2 with _ e2;exact e2.symm
      subst htk;have hqQ:=(mem_setsOf.1 hq).1;have hSq:=HSD.out q hqQ;have hw6s:=HB6.out.2.2.2.size;have hm6:=lt_map HB6.out.2.1;have hkI:=HI.out.kp;have hbq7:Below w.heap.size w w7:=(HB6.out.2.2.2.trans (hkI.below hw6s fun k hk e=>by rcases e with e|e <;> omega)).trans ⟨hg7.os,hg7.tape,hg7.output,by have:=hkI.size;omega,fun k hk=>hg7.block k (by have:=hkI.size;omega) (by intro e;cases e;omega)⟩
      obtain⟨s0,s1,_⟩:=cells2 ((hbq7.block _ (lt_block hSq.1.set)).trans hSq.1.set);have hsl7:=Nat.lt_of_lt_of_le (lt_block hSq.1.set) hbq7.size;have hrow7:=own_below hSq.1.row hbq7;obtain⟨Aq,cq,hqv,_⟩:=own_form hrow7;have hcs7:=cs_own2 (hqv▸hrow7);rw[hqv]at s1;have hy7:w7.cell? ⟨m+1,1,none⟩=some (.map (some m)):=by
       have h1:=(hkI.block (m+1) (by have:=lt_block HB6.out.2.2.1;omega) (fun e=>by rcases e with e|e <;> omega)).trans HB6.out.2.2.1;have h2:=(hg7.block (m+1) (lt_block h1) (by intro e;injection e with e;omega)).trans h1;exact(cells2 h2).2.1
      have hyl7:m+1 < w7.heap.size:=by have:=hkI.size;have:=lt_block HB6.out.2.2.1;omega
      have hmp7:=ownsMap_block HI.out.mp (hg7.block m HI.out.mp.lt (by intro e;injection e with e;omega));have hen8:(Instr.entry (.pointer (some ⟨w5.heap.size,0,none⟩))).run prog w7=.ok (.tuple #[.int .u16 q.t,.pointer (some ⟨q.s,0,none⟩)]) w7:=hen7;have HRG7:=hid hrg7;have HS7:=hid (And.intro hSq (And.intro hkq (And.intro hkey7 hstS)));have HMP7:=hid hmp7;have hdl:=hql q hqQ
      have hQIl:QI.length≤100000:=by
       have e1:=congrArg List.length HI.out.qc;have e2:=HI.out.st.perm.length_eq;have e3:(setsOf Q p.n).length≤Q.length:=List.length_filter_le _ _;simp at e1 e2;omega
      have HCS7:=hid hcs7;clear hrg7 hSq hstS hmp7 hrow7 hcs7 hR7 hat7 hlk7 hkey7 hen7 e2 ext hkq hkI;go_wp2_with fail
      refine wp_region_m3t mixed0 (by kernel_rfl) 16 (by kernel_rfl) [.is (.pointer (some ⟨m+1,0,none⟩)),.is (.pointer (some ⟨m+1,0,none⟩)),.is (.pointer (some ⟨m+1,1,none⟩)),.is (.map (some m)),.is (.int .u16 q.t),.is (.pointer (some ⟨q.s,0,none⟩)),.is (.pointer (some ⟨q.s,0,none⟩)),.is (.pointer (some ⟨q.s,0,none⟩)),.is (.int .u32 q.ttl),.is (.pointer (some ⟨q.s,0,none⟩)),.is (.pointer (some ⟨q.s,0,none⟩)),.is (.pointer (some ⟨q.s,1,none⟩)),.is (.slice Aq q.ds.length cq),.own w7.heap.size 121 2 q.ds.length (datC q.ds),setA w7.heap.size q.ttl q.ds,setB w7.heap.size q.ttl q.ds] (fun _ _ _ _=>True) (fun _ W'=>∃s2 v2 W0,Ext w7 W0∧W0.heap[s2]? =some (.cells #[.int .u32 q.ttl,v2] 119 (0,0))∧W0.ownsRow w7.heap.size 121 2 v2 q.ds.length (datC q.ds)∧w7.heap.size≤s2∧W'.ownsMap prog 36 ptrR m (QI.length+1) (DnS.put (.int .u16 q.t) (.lit (.int .i64 (s2:Int))))∧W0.grownBy W' (some m)) ?_ ?_ ?_
      ·intro i o hio hil L vals W lo hi hJ hd;have hE:=hJ.C;have haf:=fun(e:Edge) (he:e∈o.after) (hb:Region.binds .any e=true)=>hJ.f e.on (hd e he hb);have e0:=(bcl (o:=1) hE hyl7).trans hy7;have e1:=(bcl (o:=0) hE hsl7).trans s0;have e2:=(bcl (o:=1) hE hsl7).trans s1;rcases i with _|_|_|_|_|_|_|_|_|_|_|_|_|_|_|_|_|i
       all_goals first
        |(exfalso;omega)
        |(exfalso;simp at hio;done)
        |(simp at hio;subst hio;simp[Region.binds,factAt]at haf;simp[opU,go_sem,haf,e0,e1,e2,Ext.refl,factAt];done)
        |skip
       all_goals
        simp at hio;subst hio;simp[Region.binds,factAt]at haf
       ·simp[opU,go_sem,haf,e0,e1,e2,Ext.refl,factAt];refine(CloneD Aq q.ds cq W (HCS7.out.below hE) (by omega)).mono fun e W' h=> ?_;obtain⟨v,rfl,h1,h2⟩:=h;exact⟨v,rfl,h2,own_base h1 hE.size⟩
       ·obtain⟨h8,h13⟩:=haf;obtain⟨A13,c13,e13,_⟩:=own_form h13;simp[opU,go_sem,h8,e13,factAt,Ext.refl];exact⟨_,rfl,e13▸h13⟩
       ·obtain⟨v2,h14,hr⟩:=haf;simp[opU,go_sem,h14,factAt];have hE2:Ext W (W.alloc (.cells #[.int .u32 q.ttl,v2] 119)):=bAl;exact⟨hE2,⟨_,_,rfl,heap_alloc_new W _,own_below hr hE2,hE.size⟩⟩
      ·intro o hio vals W lo hi hD;simp at hio;subst hio;have f3:vals 3=.map (some m):=hD.f 3 (by decide);have f4:vals 4=.int .u16 q.t:=hD.f 4 (by decide);obtain⟨s2,v2,f15,g1,g2,g3⟩:=hD.f 15 (by decide);have hE:Below w7.heap.size w7 W:=hD.C
       obtain⟨w',hrun,hown',hgr'⟩:=(ownsMap_block HMP7.out (hE.block m HMP7.out.lt)).update (t:=110) keyT underlying110 (by unfold maxLen;omega) (keyOf_u16 q.t HS7.out.1.2) (ptrR_at s2);simp[opU,go_sem,f3,f4,f15,hrun];exact⟨s2,v2,W,hE,g1,g2,g3,hown',hgr'⟩
      ·intro vals w' hF;obtain⟨s2,v2,W0,hE0,hs20,hr20,hlo2,hmp2,hgr2⟩:=hF;simp[relAct,dstAt,Act.put];have hk20:Kept (fun k=>k=m) w7 w':=(Kept.of_ext hE0).mono (fun _ _ h=>h.elim) |>.trans ((Kept.of_grown hgr2).mono fun k _ e=>by injection e);have hs7':=hs7;have hI:=HI.out;have hw6s:=hI.kp.size
       have hkrw:Kept (fun k=>k=w5.heap.size∨k=m) wr w':=((Kept.of_grown hg7).mono fun k _ e=>by injection e with e;exact .inl e).trans (hk20.mono fun k _ e=>.inr e);have hm7:m < w7.heap.size:=HMP7.out.lt;have hbs:p.bs < m:=by have:=HSET.out.lt;omega
       have hrg8:=ranges_k HRG7.out hk20 (fun e=>by omega) (fun e=>by omega);have hfresh:∀v∈VS,v.t≠q.t:=fun v hv e=>by
        have hn:=HS7.out.2.2.2.nd;rw[List.map_append,List.map_append]at hn;have h1:=(List.nodup_append.1 (List.nodup_append.1 hn).1).2.2 (keyQ v) (List.mem_map.2 ⟨v,hv,rfl⟩) (keyQ q) (by simp);exact h1 (by unfold keyQ;rw[e])
       have hent:∀e∈QI.map Sq.ent,e.1≠Lit.int .u16 q.t:=fun e he h1=>by
        obtain⟨r,hr,rfl⟩:=List.mem_map.1 he;have h2:Lit.int .u16 r.t=Lit.int .u16 q.t:=h1;injection h2 with _ h2;have h3:r.core∈VS.map Sq.core:=by rw[←hI.qc];exact List.mem_map.2 ⟨r,hr,rfl⟩
        obtain⟨v,hv,e3⟩:=List.mem_map.1 h3;injection e3 with _ e3;injection e3 with e3 _;exact hfresh v hv (e3.trans h2)
       have hs2b:w'.heap[s2]? =some (.cells #[.int .u32 q.ttl,v2] 119 (0,0)):=(hgr2.block s2 (lt_block hs20) (by intro e;injection e with e;omega)).trans hs20;have hr2b:w'.ownsRow w7.heap.size 121 2 v2 q.ds.length (datC q.ds):=Kept.row hr20 (Kept.of_grown hgr2) fun k hk e=>by
        have:=(hr20.lt k hk).1;injection e with e;omega
       have hone:CpS w7.heap.size w' [⟨q.n,q.t,q.ttl,s2,v2,q.ds⟩]:=CpS.one hs2b hr2b hlo2;have hold:=hI.ns.kept hkrw (fun k e hk=>by rcases e with e|e <;> omega);have hadd:=hold.add (m:=w7.heap.size) (fun r hr=>by
        have:=hI.ns.lt r hr;exact⟨by omega,fun k hk=>by have:=this.2 k hk;omega⟩) hone (by omega)
       have hrel:∃left cnt VS' RS' QI' Dn,CopyI w6 N p.bs w5.heap.size m D2 (setsOf Q p.n) w' left cnt VS' RS' QI' Dn:=by
        refine⟨_,cnt7,VS++[q],RS',QI++[⟨q.n,q.t,q.ttl,s2,v2,q.ds⟩],_,⟨hrg8,HS7.out.2.2.2,hI.kp.trans hkrw,by rw[List.length_append];exact hmp2, ?_,hadd, ?_⟩⟩
        ·rw[List.map_append];exact hI.en.put hent _
        ·rw[List.map_append,List.map_append,hI.qc];rfl
       have hme:w'.rangeLeft p.bs w5.heap.size < wr.rangeLeft p.bs w5.heap.size:=by
        rw[hrg8.left_eq,hI.rg.left_eq];exact hlt7
       have HREL:=hid (And.intro hrel hme);clear hrel hme hI hrg8 hfresh hent hs2b hr2b hone hold hadd;go_wp2_with fail
       go_roundw
       case rel=>exact HREL.out.1
       case measure=>exact HREL.out.2
theorem row_ty{w w':World}{B:Nat}{e e':TypeId}{size:Nat}{v:Value}{n:Nat}{xs:List Value}{g:Nat}{cs:Array Value}(he:e≠e')(h:w.ownsRow B e size v n xs)
 (hg:w.heap[g]? =some (.cells cs e' (0,0))) (hk:Kept (fun k=>k=g) w w'):w'.ownsRow B e size v n xs:=
 Kept.row h hk (fun k hk2 hkg=>by
  obtain⟨cs2,h1,_⟩:=row_block h hk2;subst hkg;rw[hg]at h1;cases h1;exact he rfl)
theorem One.other{w w':World}{B z bn bb x bs s:Nat}{ap n:List Lab}{t ttl:Int}{v:Value}{ds:List (Blob×Blob)}{f:Lab→Int}{N:Nat}{r:Nat}{cs:Array Value}(h:One w B z bn bb x bs s ap n t ttl v ds f N)
 (hr:w.heap[r]? =some (.cells cs 39 (0,0))) (hk:Kept (fun k=>k=r) w w'):One w' B z bn bb x bs s ap n t ttl v ds f N:=by
 obtain⟨A,ca,g1,g2⟩:=h.zn.blk;obtain⟨A',c',g5,g6⟩:=h.st.node;obtain⟨E,g3,g4⟩:=h.zn.below;exact⟨⟨⟨A,ca,(hk.block _ (lt_block g1) (ne_cells g1 hr (by decide))).trans g1,row_ty (by decide) g2 hr hk⟩,ownsMap_block h.zn.nodes (hk.block _ h.zn.nodes.lt (ne_map h.zn.nodes hr)),⟨E,ownsMap_block g3 (hk.block _ g3.lt (ne_map g3 hr)),g4⟩,h.zn.ne,h.zn.h1,h.zn.h2,h.zn.h3⟩,
  ⟨⟨A',c',(hk.block _ (lt_block g5) (ne_cells g5 hr (by decide))).trans g5,row_ty (by decide) g6 hr hk⟩,ownsMap_block h.st.sets (hk.block _ h.st.sets.lt (ne_map h.st.sets hr)),(hk.block _ (lt_block h.st.set) (ne_cells h.st.set hr (by decide))).trans h.st.set,row_ty (by decide) h.st.row hr hk,
   fun d hd=>⟨row_ty (by decide) (h.st.dat d hd).1 hr hk,row_ty (by decide) (h.st.dat d hd).2 hr hk⟩,h.st.h1,h.st.h2⟩,h.n1,h.n2⟩
theorem ZG.mono{w:World}{B z bn bb:Nat}{ap:List Lab}{P:List Nq}{Q:List Sq}{N N':Nat}(h:ZG w B z bn bb ap P Q N)(hN:N≤N'):ZG w B z bn bb ap P Q N':=by
 obtain⟨D,h1,h2⟩:=h.zn;refine⟨⟨D,h1.mono hN,h2⟩,fun p hp=> ?_,h.sd,h.dbs,h.ds,h.dv⟩;obtain⟨D2,h3,h4⟩:=h.nd p hp;exact⟨D2,h3.mono hN,h4⟩
theorem Zo.mono{w:World}{B z:Nat}{S:Nat→Prop}{ap:List Lab}{F:Cont}{N N' T:Nat}(h:Zo w B z S ap F N T)(hN:N≤N'):Zo w B z S ap F N' T:=by
 obtain⟨bn,bb,P,Q,h1,h2⟩:=h.ex;exact⟨bn,bb,P,Q,h1.mono hN,h2⟩
theorem sets_total{Q:List Sq}(h:∀q∈Q,q.ds≠[]):Q.length≤total Q:=by
 induction Q with
 |nil=>exact Nat.zero_le _
 |cons q Q ih=>
  have h1:=ih fun r hr=>h r (by simp[hr]);have h2:=List.length_pos_iff.2 (h q (by simp));have e:total (q::Q)=q.ds.length+total Q:=by simp[total]
  rw[e,List.length_cons];omega
theorem Zo.copy{w:World}{B z:Nat}{S:Nat→Prop}{ap:List Lab}{F:Cont}{N T:Nat}(h:Zo w B z S ap F N T)(hT:T≤900):
 Calls prog 35 #[.pointer (some ⟨z,0,none⟩)] w fun e w'=>Below w.heap.size w w'∧∃c S',e=.returned (.pointer (some ⟨c,0,none⟩))∧Zo w' B c S' ap F (N+2000) T∧(∀k,S' k→w.heap.size≤k):=by
 obtain⟨bn,bb,P,Q,h1,h2,rfl,rfl,rfl⟩:=h.ex;have hPl:=h2.len_le;have hQl:=sets_total h2.full;refine(ZCopy w B z bn bb ap P Q N h1 h2 (by omega) (by omega) (fun q hq=>by have:=len_total hq;omega)).mono ?_;rintro e w' ⟨hb,c,bn',bb',P',Q',rfl,hz,hP,hQ,hS⟩;exact⟨hb,c,_,rfl,⟨bn',bb',P',Q',hz.mono (by omega),h2.core hP hQ,contQ_core h2.kQ hQ,total_core hQ,rfl⟩,hS⟩
theorem Zo.apex{w:World}{B z:Nat}{S:Nat→Prop}{ap:List Lab}{F:Cont}{N T:Nat}(h:Zo w B z S ap F N T)(hap:ap.length≤100000):
 Calls prog 78 #[.pointer (some ⟨z,0,none⟩)] w fun e w'=>∃v,e=.returned v∧w'.ownsRow w.heap.size 9 1 v ap.length (ap.map strV)∧Below w.heap.size w w':=by
 obtain⟨bn,bb,P,Q,h1,h2,rfl,rfl,rfl⟩:=h.ex;obtain⟨D,hz,_⟩:=h1.zn;obtain⟨A,ca,g1,g2⟩:=hz.blk;obtain⟨z0,_⟩:=cells4 g1;have HC:=hid (CloneN A ap ca w (cs_own g2).2 (by omega));clear h1 h2 hz g1 g2;go_enter func78,ntmps78;go_wp2_with fail;refine HC.out.mono ?_;rintro e w1 ⟨v,rfl,h1,h2⟩;obtain⟨A1,c1,rfl,_⟩:=own_form h1;go_wp2_with fail;go_ret;exact⟨_,rfl,h1,h2⟩
def farT(T:TypeId):Prop:=T≠103∧T≠119∧T≠121∧T≠112∧T≠9∧T≠5
theorem row_far{w w':World}{B:Nat}{e:TypeId}{size:Nat}{v:Value}{n:Nat}{xs:List Value}{g:Nat}{cs:Array Value}{T:TypeId}(h:w.ownsRow B e size v n xs)(hg:w.heap[g]? =some (.cells cs T (0,0)))(he:e≠T)(hk:Kept (fun k=>k=g) w w'):w'.ownsRow B e size v n xs:=by
 refine Kept.row h hk fun k hkb e1=> ?_;obtain⟨cs2,g1,_⟩:=row_block h hkb;exact ne_cells g1 hg he e1
theorem ZG.otherT{w w':World}{B z bn bb:Nat}{ap:List Lab}{P:List Nq}{Q:List Sq}{N:Nat}(h:ZG w B z bn bb ap P Q N){g:Nat}{cs:Array Value}{T:TypeId}(hg:w.heap[g]? =some (.cells cs T (0,0)))(hT:farT T)(hk:Kept (fun k=>k=g) w w'):ZG w' B z bn bb ap P Q N:=by
 obtain⟨t1,t2,t3,t4,t5,t6⟩:=hT;obtain⟨D,hz,hE⟩:=h.zn;obtain⟨A,ca,g1,g2⟩:=hz.blk;obtain⟨E,g3,g4⟩:=hz.below
 refine⟨⟨D,⟨⟨A,ca,(hk.block _ (lt_block g1) (ne_cells g1 hg (Ne.symm t1))).trans g1,row_far g2 hg (Ne.symm t5) hk⟩,ownsMap_block hz.nodes (hk.block _ hz.nodes.lt (ne_map hz.nodes hg)),⟨E,ownsMap_block g3 (hk.block _ g3.lt (ne_map g3 hg)),g4⟩,hz.ne,hz.h1,hz.h2,hz.h3⟩,hE⟩,fun p hp=> ?_,fun q hq=> ?_,h.dbs,h.ds,h.dv⟩
 ·obtain⟨D2,h3,h4⟩:=h.nd p hp;obtain⟨A',c',g5,g6⟩:=h3.node;exact⟨D2,⟨⟨A',c',(hk.block _ (lt_block g5) (ne_cells g5 hg (Ne.symm t4))).trans g5,row_far g6 hg (Ne.symm t5) hk⟩,ownsMap_block h3.sets (hk.block _ h3.sets.lt (ne_map h3.sets hg)),h3.h1⟩,h4⟩
 ·have h3:=h.sd q hq;exact⟨(hk.block _ (lt_block h3.set) (ne_cells h3.set hg (Ne.symm t2))).trans h3.set,row_far h3.row hg (Ne.symm t3) hk,fun d hd=>⟨row_far (h3.dat d hd).1 hg (Ne.symm t6) hk,row_far (h3.dat d hd).2 hg (Ne.symm t6) hk⟩,h3.h2⟩
theorem Zo.other{w w':World}{B z:Nat}{S:Nat→Prop}{ap:List Lab}{F:Cont}{N T:Nat}(h:Zo w B z S ap F N T){g:Nat}{cs:Array Value}{t:TypeId}(hg:w.heap[g]? =some (.cells cs t (0,0)))(hT:farT t)(hk:Kept (fun k=>k=g) w w'):Zo w' B z S ap F N T:=by
 obtain⟨bn,bb,P,Q,h1,h2⟩:=h.ex;exact⟨bn,bb,P,Q,h1.otherT hg hT hk,h2⟩
structure UR where
 n:List Lab
 t:Int
 cl:Int
 ttl:Int
 d:Lab
structure UcB where
 nm:NmB
 t:Int
 cl:Int
 ttl:Int
 d:Blob
def UcB.cells(r:UcB):List Value:=[r.nm.v,.int .u16 r.t,.int .u16 r.cl,.int .u32 r.ttl,r.d.v]
def UcB.says(r:UcB):UR:=⟨r.nm.l,r.t,r.cl,r.ttl,r.d.l⟩
def UcB.own(w:World)(B:Nat)(r:UcB):Prop:=r.nm.own w B∧BlobOwn w B r.d
structure UcV(w:World)(B:Nat)(v:Value)(us:List UcB):Prop where
 row:w.ownsRow B 39 5 v us.length (us.flatMap UcB.cells)
 own:∀r∈us,r.own w B
theorem UcV.below{w w':World}{B:Nat}{v:Value}{us:List UcB}(h:UcV w B v us)(hb:Below w.heap.size w w'):UcV w' B v us:=⟨own_below h.row hb,fun r hr=>⟨own_below (h.own r hr).1 hb,own_below (h.own r hr).2 hb⟩⟩
theorem flatU(rs:List UcB)(i:Nat)(hi:i < rs.length)(k:Nat)(hk:k < 5):(rs.flatMap UcB.cells)[i *5+k]? =(rs[i].cells)[k]?:=by
 induction rs generalizing i with
 |nil=>simp at hi
 |cons r rs ih=>
  rw[List.flatMap_cons];have hl:r.cells.length=5:=rfl;cases i with
  |zero=>rw[List.getElem?_append_left (by omega)];simp
  |succ i=>
   rw[List.getElem?_append_right (by omega),hl,show(i+1) *5+k - 5=i *5+k from by omega];simpa using ih i (by simpa using hi)
theorem UcV.at{w:World}{B:Nat}{A:Option Addr}{n c:Nat}{us:List UcB}(h:UcV w B (.slice A n c) us){k:Nat}(hk:k < us.length):∃b off,A=some ⟨b,off,none⟩∧b < w.heap.size∧
 w.cell? ⟨b,off+k *5,none⟩=some us[k].nm.v∧w.cell? ⟨b,off+k *5+1,none⟩=some (.int .u16 us[k].t)∧w.cell? ⟨b,off+k *5+2,none⟩=some (.int .u16 us[k].cl)∧w.cell? ⟨b,off+k *5+3,none⟩=some (.int .u32 us[k].ttl)∧w.cell? ⟨b,off+k *5+4,none⟩=some us[k].d.v:=by
 have hC:=cs_own2 h.row;obtain⟨b,off,rfl,hb,h0⟩:=hC (k *5+0) us[k].nm.v (by rw[flatU us k hk 0 (by omega)];rfl);obtain⟨_,_,e,_,h1⟩:=hC (k *5+1) (.int .u16 us[k].t) (by rw[flatU us k hk 1 (by omega)];rfl);cases e;obtain⟨_,_,e,_,h2⟩:=hC (k *5+2) (.int .u16 us[k].cl) (by rw[flatU us k hk 2 (by omega)];rfl);cases e
 obtain⟨_,_,e,_,h3⟩:=hC (k *5+3) (.int .u32 us[k].ttl) (by rw[flatU us k hk 3 (by omega)];rfl);cases e;obtain⟨_,_,e,_,h4⟩:=hC (k *5+4) us[k].d.v (by rw[flatU us k hk 4 (by omega)];rfl);cases e;rw[←Nat.add_assoc]at h0 h1 h2 h3 h4;exact⟨b,off,rfl,hb,h0,h1,h2,h3,h4⟩
structure UOk(r:UR):Prop where
 small:Small r.n
 name:nameE r.n=0
 easy:easyT r.t
 wf:(Lit.int .u16 r.t).wf=true
 wfc:(Lit.int .u16 r.cl).wf=true
 wft:(Lit.int .u32 r.ttl).wf=true
 len:r.d.length≤100000
def keptT(t:Int):Bool:=t==46||t==48||t==50||t==51
def scan1(ap:List Lab)(most:Int)(r:UR):Int:=
 if within r.n ap=false then 10
 else if r.cl=1 then
  (if(r.t !=255&&r.t !=41&&chk r.t r.d)=false then 1
  else if(decide (r.ttl≤most)&&(r.t !=43|| !same r.n ap)&&(r.t !=2|| !wild r.n))=false then 5
  else if keptT r.t then 5 else 0)
 else if r.cl=255 then
  (if(r.ttl==0&&r.d.length==0&&r.t !=41)=false then 1 else if keptT r.t then 5 else 0)
 else if r.cl=254 then
  (if(r.ttl==0&&r.t !=255&&r.t !=41)=false then 1 else if keptT r.t then 5 else 0)
 else 1
section
variable {ap n:List Lab} {most t ttl cl:Int} {d:Lab}
theorem scan1_in(hw:within n ap=true):scan1 ap most ⟨n,t,1,ttl,d⟩=if(t !=255&&t !=41&&chk t d)=false then 1 else if(decide (ttl≤most)&&(t !=43|| !same n ap)&&(t !=2|| !wild n))=false then 5 else if keptT t then 5 else 0:=by simp[scan1,hw]
theorem scan1_any(hw:within n ap=true):scan1 ap most ⟨n,t,255,ttl,d⟩=if(ttl==0&&d.length==0&&t !=41)=false then 1 else if keptT t then 5 else 0:=by simp[scan1,hw]
theorem scan1_none(hw:within n ap=true):scan1 ap most ⟨n,t,254,ttl,d⟩=if(ttl==0&&t !=255&&t !=41)=false then 1 else if keptT t then 5 else 0:=by simp[scan1,hw]
theorem scan1_odd(hw:within n ap=true)(h1:cl≠1)(h2:cl≠255)(h3:cl≠254):scan1 ap most ⟨n,t,cl,ttl,d⟩=1:=by simp[scan1,hw,h1,h2,h3]
end
def firstC(f:UR→Int):List UR→Int
 |[]=>0
 |r::l=>if f r=0 then firstC f l else f r
theorem firstC_zero{f:UR→Int}{l:List UR}(h:∀r∈l,f r=0):firstC f l=0:=by
 induction l with
 |nil=>rfl
 |cons r l ih=>
  unfold firstC;rw[if_pos (h r (by simp))];exact ih fun x hx=>h x (by simp[hx])
theorem firstC_at{f:UR→Int}:∀{l:List UR} {k:Nat} (hk:k < l.length),(∀i (h:i < l.length),i < k→f l[i]=0)→f l[k]≠0→firstC f l=f l[k]
 |r::l,0,hk,h,h0=>by
  unfold firstC;have h1:¬f r=0:=h0;rw[if_neg h1];rfl
 |r::l,k+1,hk,h,h0=>by
  unfold firstC;have h1:f r=0:=h 0 (by simp) (by omega);rw[if_pos h1];exact firstC_at (by simpa using hk) (fun i hi hik=>h (i+1) (by simpa using hi) (by omega)) h0
end Nm
namespace Nm
def refP(c:Int):List PanicEntry:=[{v:=.iface 185 (.agg #[.int .i64 c]),recovered:=false}]
theorem umust_yes(c:Int)(w:World):Calls prog 77 #[.bool true,.int .i64 c] w fun r w'=>r=.returned (.tuple #[])∧w=w':=by
 go_enter func77,ntmps77;go_wp2_with fail
 go_end0
 exact⟨rfl,rfl⟩
theorem umust_no(c:Int)(w:World):Calls prog 77 #[.bool false,.int .i64 c] w fun r w'=>r=.panicked (refP c)∧w=w':=by
 go_enter func77,ntmps77;go_wp2_with fail;exact⟨rfl,rfl,rfl⟩
theorem ukept(t:Int)(w:World):Calls prog 90 #[.int .u16 t] w fun r w'=>r=.returned (.bool (t==46||t==48||t==50||t==51))∧w=w':=by
 go_enter func90,ntmps90;by_cases h1:t=46
 ·subst h1;go_wp2_with fail;go_ret;exact⟨rfl,rfl⟩
 by_cases h2:t=48
 ·subst h2;go_wp2_with fail;go_ret;exact⟨rfl,rfl⟩
 by_cases h3:t=50
 ·subst h3;go_wp2_with fail;go_ret;exact⟨rfl,rfl⟩
 by_cases h4:t=51
 ·subst h4;go_wp2_with fail;go_ret;exact⟨rfl,rfl⟩
 ·have b1:(t==46)=false:=by simpa using h1
  have b2:(t==48)=false:=by simpa using h2
  have b3:(t==50)=false:=by simpa using h3
  have b4:(t==51)=false:=by simpa using h4
  go_wp2_with fail;go_ret;exact⟨by rw[b1,b2,b3,b4];rfl,rfl⟩
theorem cells1{w:World}{g:Nat}{c0:Value}{T:TypeId}(h:w.heap[g]? =some (.cells #[c0] T (0,0))):w.cell? ⟨g,0,none⟩=some c0∧∀i,w.frozen? ⟨g,i,none⟩=false:=by
 refine⟨?_,fun i=>by simp[World.frozen?,h]⟩;rw[cell_of_row _ _ _ _ _ _ h];rfl
theorem asserted_ref(c:Int)(W:World):(Instr.typeAssert (.iface 185 (.agg #[.int .i64 c])) 20 185 true).run prog W=.ok (.tuple #[.agg #[.int .i64 c],.bool true]) W:=by kernel_rfl
theorem ucaught1_panic(a:Nat)(x0:Value)(c:Int)(w:World)(h0:w.heap[a]? =some (.cells #[x0] 3 (0,0))):
 CallsD prog 123 #[.pointer (some ⟨a,0,none⟩)] (.panicking (refP c)) w fun e u' w'=>
  e=.returned (.tuple #[])∧u'=.panicking [{v:=.iface 185 (.agg #[.int .i64 c]),recovered:=true}]∧
  w'.heap[a]? =some (.cells #[.int .i64 c] 3 (0,0))∧Kept (fun k=>k=a) w w':=by
 have hta:=asserted_ref c;obtain⟨hc0,hf0⟩:=cells1 h0;have hal:=lt_block h0;refine callsD_of_wpS func123 rfl fun c₀ cs hu=> ?_;apply wpS_seq;apply wpS_region;simp[wpOpsS,go_sem,recoverD,refP,hu,ntmps123,Exit.thenS];refine wpS_of_wp ?_
 simp only[Array.replicate_succ,Array.replicate_zero,List.push_toArray,List.append_toArray,List.nil_append,List.cons_append,List.setIfInBounds_toArray,List.set_cons_succ,List.set_cons_zero];go_wp2_with fail;have h1:(w.setCell ⟨a,0,none⟩ (.int .i64 c)).heap[a]? =some (.cells #[.int .i64 c] 3 (0,0)):=by simpa using heap_set (i:=0) (v:=.int .i64 c) h0
 have hE:Below (w.setCell ⟨a,0,none⟩ (.int .i64 c)).heap.size (w.setCell ⟨a,0,none⟩ (.int .i64 c)) ((w.setCell ⟨a,0,none⟩ (.int .i64 c)).alloc (.cells #[.int .i64 c] 185)):=bAl
 have hk:Kept (fun k=>k=a) w ((w.setCell ⟨a,0,none⟩ (.int .i64 c)).alloc (.cells #[.int .i64 c] 185)):=((Kept.refl (fun k=>k=a) w).setCell (p:=⟨a,0,none⟩) (fun _=>rfl) _).alloc _;exact⟨rfl,_,rfl,_,results_none rfl _ _ _,rfl,rfl,(hE.block a (lt_block h1)).trans h1,hk⟩
theorem ucaught1_idle(a:Addr)(w:World):CallsD prog 123 #[.pointer (some a)] .returning w fun e u' w'=>e=.returned (.tuple #[])∧u'=.returning∧w'=w:=by
 refine callsD_of_wpS func123 rfl fun c₀ cs hu=> ?_;apply wpS_seq;apply wpS_region;simp[wpOpsS,go_sem,recoverD,hu,ntmps123,Exit.thenS];refine wpS_of_wp ?_;simp only[Array.replicate_succ,Array.replicate_zero,List.push_toArray,List.append_toArray,List.nil_append,List.cons_append,List.setIfInBounds_toArray,List.set_cons_succ,List.set_cons_zero];go_wp2_with fail
 exact⟨rfl,.returning,by cases c₀;simp_all,_,results_none rfl _ _ _,rfl,rfl,rfl⟩
theorem UCaughtP(v0 v1:Value)(w:World)(C:Int→World→World→Prop)
 (hf:∀W,Below w.heap.size w W→w.heap.size < W.heap.size→W.heap[w.heap.size]? =some (.cells #[.int .i64 0] 3 (0,0))→Calls prog 76 #[v0,v1] W fun e W'=>((e=.returned (.tuple #[])∧C 0 W W')∨∃c,e=.panicked (refP c)∧C c W W')∧W'.heap[w.heap.size]? =some (.cells #[.int .i64 0] 3 (0,0))):
 Calls prog 75 #[.func (.func 76) #[] #[v0,v1]] w fun e w'=>∃c W W' cs,e=.returned (.int .i64 c)∧Below w.heap.size w W∧w.heap.size < W.heap.size∧C c W W'∧W'.heap[w.heap.size]? =some (.cells cs 3 (0,0))∧Kept (fun k=>k=w.heap.size) W' w':=by
 have hmf:∀(fn:Fn) (first cap:Array Value) (w:World),(Instr.makeFunc fn first cap).run prog w=.ok (.func fn first cap) w:=fun _ _ _ _=>rfl;have hb1:Below w.heap.size w (w.alloc (.cells #[.int .i64 0] 3)):=bAl;have hc1:=heap_alloc_new w (.cells #[.int .i64 0] 3);have hs1:w.heap.size < (w.alloc (.cells #[.int .i64 0] 3)).heap.size:=by simp
 have HF:=hid (hf _ hb1 hs1 hc1);clear hf hc1
 go_enter_defers func75,ntmps75
 go_wp2_with fail;generalize w.alloc (Obj.cells #[Value.int IntKind.i64 0] 3)=W at *;refine HF.out.mono ?_;rintro e W' ⟨⟨rfl,hC⟩|⟨c,rfl,hC⟩,hW'⟩
 ·obtain⟨c0,f0⟩:=cells1 hW';have hWl:=lt_block hW';have HC:=hid (And.intro hC hW');clear hC hW' HF;go_wp2_with fail;have hk:Kept (fun k=>k=w.heap.size) W' (W'.setCell ⟨w.heap.size,0,none⟩ (.int .i64 0)):=(Kept.refl (fun k=>k=w.heap.size) W').setCell (p:=⟨w.heap.size,0,none⟩) (fun _=>rfl) _;have hh:=heap_set (i:=0) (v:=.int .i64 0) HC.out.2
  obtain⟨c1,_⟩:=cells1 (c0:=.int .i64 0) (T:=3) (by simpa using hh);refine leaves_cons (f:=123) (args:= #[.pointer (some ⟨w.heap.size,0,none⟩)]) (by simp) (by simp[go_sem]) ?_;refine(ucaught1_idle _ _).mono ?_;rintro e u' w9 ⟨rfl,rfl,rfl⟩;simp[Leaves,settle,results,results75,go_sem,c1];exact⟨W,hb1,hs1,W',HC.out.1,⟨_,HC.out.2⟩,hk⟩
 ·have HC:=hid (And.intro hC hW');clear hC hW' HF;go_wp2_with fail;refine leaves_cons (f:=123) (args:= #[.pointer (some ⟨w.heap.size,0,none⟩)]) (by simp) (by simp[go_sem]) ?_;refine(ucaught1_panic w.heap.size _ c W' HC.out.2).mono ?_;rintro e u' w9 ⟨rfl,rfl,z0,hk⟩;obtain⟨c1,_⟩:=cells1 z0;simp[Leaves,settle,results,results75,go_sem,c1]
  exact⟨W,hb1,hs1,W',HC.out.1,⟨_,HC.out.2⟩,hk⟩
theorem UCaughtS(v0 v1 v2:Value)(w:World)(C:Int→World→World→Prop)
 (hf:∀W,Below w.heap.size w W→w.heap.size < W.heap.size→W.heap[w.heap.size]? =some (.cells #[.int .i64 0] 3 (0,0))→Calls prog 88 #[v0,v1,v2] W fun e W'=>((e=.returned (.tuple #[])∧C 0 W W')∨∃c,e=.panicked (refP c)∧C c W W')∧W'.heap[w.heap.size]? =some (.cells #[.int .i64 0] 3 (0,0))):
 Calls prog 75 #[.func (.func 88) #[] #[v0,v1,v2]] w fun e w'=>∃c W W' cs,e=.returned (.int .i64 c)∧Below w.heap.size w W∧w.heap.size < W.heap.size∧C c W W'∧W'.heap[w.heap.size]? =some (.cells cs 3 (0,0))∧Kept (fun k=>k=w.heap.size) W' w':=by
 have hmf:∀(fn:Fn) (first cap:Array Value) (w:World),(Instr.makeFunc fn first cap).run prog w=.ok (.func fn first cap) w:=fun _ _ _ _=>rfl;have hb1:Below w.heap.size w (w.alloc (.cells #[.int .i64 0] 3)):=bAl;have hc1:=heap_alloc_new w (.cells #[.int .i64 0] 3);have hs1:w.heap.size < (w.alloc (.cells #[.int .i64 0] 3)).heap.size:=by simp
 have HF:=hid (hf _ hb1 hs1 hc1);clear hf hc1
 go_enter_defers func75,ntmps75
 go_wp2_with fail;generalize w.alloc (Obj.cells #[Value.int IntKind.i64 0] 3)=W at *;refine HF.out.mono ?_;rintro e W' ⟨⟨rfl,hC⟩|⟨c,rfl,hC⟩,hW'⟩
 ·obtain⟨c0,f0⟩:=cells1 hW';have hWl:=lt_block hW';have HC:=hid (And.intro hC hW');clear hC hW' HF;go_wp2_with fail;have hk:Kept (fun k=>k=w.heap.size) W' (W'.setCell ⟨w.heap.size,0,none⟩ (.int .i64 0)):=(Kept.refl (fun k=>k=w.heap.size) W').setCell (p:=⟨w.heap.size,0,none⟩) (fun _=>rfl) _;have hh:=heap_set (i:=0) (v:=.int .i64 0) HC.out.2
  obtain⟨c1,_⟩:=cells1 (c0:=.int .i64 0) (T:=3) (by simpa using hh);refine leaves_cons (f:=123) (args:= #[.pointer (some ⟨w.heap.size,0,none⟩)]) (by simp) (by simp[go_sem]) ?_;refine(ucaught1_idle _ _).mono ?_;rintro e u' w9 ⟨rfl,rfl,rfl⟩;simp[Leaves,settle,results,results75,go_sem,c1];exact⟨W,hb1,hs1,W',HC.out.1,⟨_,HC.out.2⟩,hk⟩
 ·have HC:=hid (And.intro hC hW');clear hC hW' HF;go_wp2_with fail;refine leaves_cons (f:=123) (args:= #[.pointer (some ⟨w.heap.size,0,none⟩)]) (by simp) (by simp[go_sem]) ?_;refine(ucaught1_panic w.heap.size _ c W' HC.out.2).mono ?_;rintro e u' w9 ⟨rfl,rfl,z0,hk⟩;obtain⟨c1,_⟩:=cells1 z0;simp[Leaves,settle,results,results75,go_sem,c1]
  exact⟨W,hb1,hs1,W',HC.out.1,⟨_,HC.out.2⟩,hk⟩
theorem UCaughtA(v0 v1 v2 v3:Value)(w:World)(C:Int→World→World→Prop)
 (hf:∀W,Below w.heap.size w W→w.heap.size < W.heap.size→W.heap[w.heap.size]? =some (.cells #[.int .i64 0] 3 (0,0))→Calls prog 93 #[v0,v1,v2,v3] W fun e W'=>((e=.returned (.tuple #[])∧C 0 W W')∨∃c,e=.panicked (refP c)∧C c W W')∧W'.heap[w.heap.size]? =some (.cells #[.int .i64 0] 3 (0,0))):
 Calls prog 75 #[.func (.func 93) #[] #[v0,v1,v2,v3]] w fun e w'=>∃c W W' cs,e=.returned (.int .i64 c)∧Below w.heap.size w W∧w.heap.size < W.heap.size∧C c W W'∧W'.heap[w.heap.size]? =some (.cells cs 3 (0,0))∧Kept (fun k=>k=w.heap.size) W' w':=by
 have hmf:∀(fn:Fn) (first cap:Array Value) (w:World),(Instr.makeFunc fn first cap).run prog w=.ok (.func fn first cap) w:=fun _ _ _ _=>rfl;have hb1:Below w.heap.size w (w.alloc (.cells #[.int .i64 0] 3)):=bAl;have hc1:=heap_alloc_new w (.cells #[.int .i64 0] 3);have hs1:w.heap.size < (w.alloc (.cells #[.int .i64 0] 3)).heap.size:=by simp
 have HF:=hid (hf _ hb1 hs1 hc1);clear hf hc1
 go_enter_defers func75,ntmps75
 go_wp2_with fail;generalize w.alloc (Obj.cells #[Value.int IntKind.i64 0] 3)=W at *;refine HF.out.mono ?_;rintro e W' ⟨⟨rfl,hC⟩|⟨c,rfl,hC⟩,hW'⟩
 ·obtain⟨c0,f0⟩:=cells1 hW';have hWl:=lt_block hW';have HC:=hid (And.intro hC hW');clear hC hW' HF;go_wp2_with fail;have hk:Kept (fun k=>k=w.heap.size) W' (W'.setCell ⟨w.heap.size,0,none⟩ (.int .i64 0)):=(Kept.refl (fun k=>k=w.heap.size) W').setCell (p:=⟨w.heap.size,0,none⟩) (fun _=>rfl) _;have hh:=heap_set (i:=0) (v:=.int .i64 0) HC.out.2
  obtain⟨c1,_⟩:=cells1 (c0:=.int .i64 0) (T:=3) (by simpa using hh);refine leaves_cons (f:=123) (args:= #[.pointer (some ⟨w.heap.size,0,none⟩)]) (by simp) (by simp[go_sem]) ?_;refine(ucaught1_idle _ _).mono ?_;rintro e u' w9 ⟨rfl,rfl,rfl⟩;simp[Leaves,settle,results,results75,go_sem,c1];exact⟨W,hb1,hs1,W',HC.out.1,⟨_,HC.out.2⟩,hk⟩
 ·have HC:=hid (And.intro hC hW');clear hC hW' HF;go_wp2_with fail;refine leaves_cons (f:=123) (args:= #[.pointer (some ⟨w.heap.size,0,none⟩)]) (by simp) (by simp[go_sem]) ?_;refine(ucaught1_panic w.heap.size _ c W' HC.out.2).mono ?_;rintro e u' w9 ⟨rfl,rfl,z0,hk⟩;obtain⟨c1,_⟩:=cells1 z0;simp[Leaves,settle,results,results75,go_sem,c1]
  exact⟨W,hb1,hs1,W',HC.out.1,⟨_,HC.out.2⟩,hk⟩
end Nm
end Go.Proofs.YtmbdoacafhljkaaGreat
