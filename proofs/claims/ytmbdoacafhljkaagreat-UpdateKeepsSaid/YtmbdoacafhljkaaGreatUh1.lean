/- Texts merged by a program: RelA, Rel, Mem, Quiet, Str, Kept, Rel2, Name, Name2, Parse, Check. -/
import Derived.Orders
import Derived.Below
import Derived.Laws.Tables
import Derived.Test.YtmbdoacafhljkaaGreatProg
import Derived.WalkKit
import Derived.WalkSpells
import Derived.WalkLawsBesides
import Derived.OpenShut
import Derived.Deep.QuietTactic
import Derived.BigQuiet
import Derived.StillTailTactics
import Derived.Lib.Hide
import Derived.Lib.SlBytesConst
import Derived.Lib.AppendStr
import Derived.Deep.RegionHeld
import Derived.Maps.AppendAt
set_option linter.unusedSimpArgs false
set_option linter.unusedVariables false
set_option maxRecDepth 1000000
set_option maxHeartbeats 20000000
open Go.Proofs.Tryz
theorem Go.Proofs.YtmbdoacafhljkaaGreat.hid{p:Prop}(h:p):Go.RowKit.Hid p:=Go.Lib.hid h
theorem Go.Proofs.YtmbdoacafhljkaaGreat.bAl{w:Go.World}{o:Go.Obj}:Go.RowKit.Below w.heap.size w (w.alloc o):=(Go.RowKit.Below.refl _ _).alloc (Nat.le_refl _) _
namespace Go.Proofs.YtmbdoacafhljkaaGreat
open Go.RowKit
section
variable {P:Program} {ops:Array Oper}
def dstAt(ops:Array Oper)(i:Nat):Option Tmp:=(ops[i]?).bind (·.dst)
def relAct(ops:Array Oper)(a0:Act)(L:Nat→Bool)(vals:Nat→Value):Nat→Act
 |0=>a0
 |n+1=>if L n then(relAct ops a0 L vals n).put (dstAt ops n) (vals n)else relAct ops a0 L vals n
theorem relAct_congr{a0:Act}{L L':Nat→Bool}{vals vals':Nat→Value}:∀n,(∀j,j < n→L j=L' j∧(L j=true→vals j=vals' j))→relAct ops a0 L vals n=relAct ops a0 L' vals' n
 |0,_=>rfl
 |n+1,h=>by
  have ih:=relAct_congr (a0:=a0) n (fun j hj=>h j (by omega));obtain⟨h1,h2⟩:=h n (by omega);unfold relAct;rw[ih,←h1];cases hl:L n
  ·rfl
  ·rw[h2 hl]
theorem put_other?{a:Act}{d:Option Tmp}{v:Value}{t:Tmp}(h:d≠some t):(a.put d v).tmps[t]? =a.tmps[t]?:=by
 cases d with
 |none=>rfl
 |some d=>
  have hne:d≠t:=fun e=>h (by rw[e]);simp[Act.put,Array.getElem?_setIfInBounds_ne hne]
theorem relAct_free{a0:Act}{L:Nat→Bool}{vals:Nat→Value}{t:Tmp}:∀n,(∀j,j < n→L j=true→dstAt ops j≠some t)→(relAct ops a0 L vals n).tmps[t]? =a0.tmps[t]?
 |0,_=>rfl
 |n+1,h=>by
  have ih:=relAct_free (a0:=a0) (vals:=vals) n (fun j hj=>h j (by omega));unfold relAct;cases hl:L n
  ·exact ih
  ·simp only[if_true];rw[put_other? (h n (by omega) hl),ih]
theorem relAct_size{a0:Act}{L:Nat→Bool}{vals:Nat→Value}:∀n,(relAct ops a0 L vals n).tmps.size=a0.tmps.size
 |0=>rfl
 |n+1=>by
  have ih:=relAct_size (a0:=a0) (L:=L) (vals:=vals) n;unfold relAct;cases hl:L n
  ·exact ih
  ·simp only[if_true];cases hd:dstAt ops n with
   |none=>exact ih
   |some d=>simp[Act.put,ih]
theorem relAct_at{a0:Act}{L:Nat→Bool}{vals:Nat→Value}{t:Tmp}{k:Nat}(hk:dstAt ops k=some t)(hu:∀j,dstAt ops j=some t→j=k):
 ∀n,k < n→L k=true→(relAct ops a0 L vals n).tmps[t]? =if t < a0.tmps.size then some (vals k)else none
 |0,h,_=>by omega
 |n+1,h,hl=>by
  unfold relAct;by_cases e:n=k
  ·subst e;rw[hl,hk];simp only[if_true,Act.put];rw[Array.getElem?_setIfInBounds_self,relAct_size]
  ·have ih:=relAct_at (a0:=a0) (vals:=vals) hk hu n (by omega) hl;cases hn:L n
   ·exact ih
   ·simp only[if_true];rw[put_other? (fun hd=>e (hu n hd)),ih]
def relAt(ops:Array Oper)(i:Nat)(o:Oper):Bool:=
 (match o.op with|.select _ _=>false|_=>true)&&
 (o.after.all fun e=> !Region.binds .any e||decide (e.on < i))&&
 ((List.range ops.size).all fun j=>match dstAt ops j with
   |none=>true
   |some d=>(j==i||o.dst !=some d)&&(!(o.looksAt ops).contains d||(decide (j < i)&&o.after.any fun e=>e.on==j&&Region.binds .any e)))
def relB(ops:Array Oper):Bool:=(List.range ops.size).all fun i=>match ops[i]? with
 |none=>true
 |some o=>relAt ops i o
def rdB(e:Edge):Bool:=match e.ground with
 |.data=>true
 |.guard=>true
 |_=>false
def bindD(e:Edge):Bool:=Region.binds .any e&&rdB e
theorem bindD_binds{e:Edge}(h:bindD e=true):Region.binds .any e=true:=by unfold bindD at h;rw[Bool.and_eq_true]at h;exact h.1
def killsB(ops:Array Oper)(kills:Nat→Nat→Bool):Bool:=(List.range ops.size).all fun i=>(List.range ops.size).all fun j=> !kills i j||(List.range ops.size).all fun k=>match ops[k]? with
 |none=>true
 |some o=>k==i||o.after.all fun e=> !(bindD e)||e.on !=j
def yieldUpon(P:Program)(R:Value→World→Prop):Result Next→Prop
 |.ok (.value u) W=>R u W
 |.ok .skip W=>R undef W
 |.ok (.enter f args) W=>Calls P f args W fun e W'=>∃v,e=.returned v∧R v W'
 |_=>False
structure opYield(P:Program)(ops:Array Oper)(o:Oper)(a:Act)(W:World)(R:Value→World→Prop):Prop where
 out:if Region.wanted o (yielded ops a.tmps)=true then yieldUpon P R ((execOp a.eval o).run P W)else R undef W
theorem opYield_def(P:Program)(ops:Array Oper)(o:Oper)(a:Act)(W:World)(R:Value→World→Prop):opYield P ops o a W R=(if Region.wanted o (yielded ops a.tmps)=true then yieldUpon P R ((execOp a.eval o).run P W)else R undef W):=
 propext ⟨fun h=>h.out,fun h=>⟨h⟩⟩
theorem opU:(∀(P:Program)(ops:Array Oper)(o:Oper)(a:Act)(W:World)(R:Value→World→Prop),opYield P ops o a W R=if Region.wanted o (yielded ops a.tmps)=true then yieldUpon P R (Sem.run P (execOp a.eval o) W) else R undef W)∧(∀(P:Program)(R:Value→World→Prop)(u:Value)(W:World),yieldUpon P R (.ok (.value u) W)=R u W)∧(∀(P:Program)(R:Value→World→Prop)(W:World),yieldUpon P R (.ok .skip W)=R undef W)∧(∀(P:Program)(R:Value→World→Prop)(f:FuncId)(args:Array Value)(W:World),yieldUpon P R (.ok (.enter f args) W)=Calls P f args W fun e W'=>∃v,e=.returned v∧R v W')∧(∀(ops:Array Oper)(tmps:Array Value)(j:Nat),yielded ops tmps j=match(ops[j]?.bind fun x=>x.dst).bind fun x=>tmps[x]? with|some (.bool b)=>some b|_=>none)∧(∀(ops:Array Oper)(a0:Act)(L:Nat→Bool)(vals:Nat→Value),relAct ops a0 L vals 0=a0)∧(∀(ops:Array Oper)(a0:Act)(L:Nat→Bool)(vals:Nat→Value)(n:Nat),relAct ops a0 L vals n.succ=if L n=true then(relAct ops a0 L vals n).put (dstAt ops n) (vals n)else relAct ops a0 L vals n)∧(∀(ops:Array Oper)(i:Nat),dstAt ops i=ops[i]?.bind fun x=>x.dst)∧(∀(a:Act)(v:Value)(d:Tmp),a.put (some d) v={tmps:=a.tmps.setIfInBounds d v,defers:=a.defers})∧(∀(a:Act)(v:Value),a.put none v=a)∧∀(o:Oper)(y:Nat→Option Bool),Region.wanted o y=match o.guard with|none=>true|some (j,want)=>y j==some want:=
 ⟨@opYield_def,@yieldUpon.eq_1,@yieldUpon.eq_2,@yieldUpon.eq_3,@yielded.eq_1,@relAct.eq_1,@relAct.eq_2,@dstAt.eq_1,@Act.put.eq_1,@Act.put.eq_2,@Region.wanted.eq_1⟩
theorem wpOp_of_yield{i:Nat}{o:Oper}{a:Act}{W:World}{R:Value→World→Prop}{K:Act→World→Prop}{Q:Exit→Act→World→Prop}(hi:ops[i]? =some o)
 (h:opYield P ops o a W R) (hK:∀v W',R v W'→K (a.put o.dst v) W'):wpOp P ops Q i K a W:=by
 rw[opYield_def]at h;unfold wpOp;simp only[hi];split
 ·rename_i hw;rw[if_pos hw]at h;refine .inl ?_;unfold Oper.wp;generalize(execOp a.eval o).run P W=r at *;cases r with
  |ok n w'=>
   cases n <;> simp only[yieldUpon]at h <;> simp only[Oper.upon]
   case value u=>exact hK _ _ h
   case skip=>exact hK _ _ h
   case enter f args=>exact h.mono fun e w'' ⟨v,he,hr⟩=>by subst he;exact hK _ _ hr
  |halt x w'=>simp only[yieldUpon]at h
 ·rename_i hw;rw[if_neg hw]at h;exact hK _ _ h
theorem yield_store{o:Oper}{a:Act}{W:World}{R:Value→World→Prop}{ty:TypeId}{x y:Operand}{g:Nat}{cells:Array Value}{t:TypeId}{old:Array Value}(hgd:o.guard=none)(ho:o.op=.store ty x y)
 (hx:a.eval x=.pointer (some ⟨g,0,none⟩)) (hy:a.eval y=.agg cells) (hg:W.heap[g]? =some (.cells old t (0,0))) (hi:(P.info? ty).map (·.size)=some cells.size)
 (hold:old.size=cells.size) (h1:cells.all (·.oneCell')=true) (h:R undef (W.setRow g cells)):opYield P ops o a W R:=by
 have hw:Region.wanted o (yielded ops a.tmps)=true:=by simp[Region.wanted,hgd]
 rw[opYield_def];rw[if_pos hw];unfold execOp;simp only[ho,hx,hy,Instr.storeAt,Instr.sureAddr,Sem.run_bind,Sem.run_pure,Result.andThen_ok,run_storeVar_row W g t ty old cells hg hi hold h1];exact h
theorem setRow_block(w:World)(g:Nat)(cells old:Array Value)(t:TypeId)(fr:Nat×Nat)(h:w.heap[g]? =some (.cells old t fr)):(w.setRow g cells).heap[g]? =some (.cells cells t fr):=by
 simp[World.setRow,Array.getElem?_modify,h]
theorem setRow_grown(w:World)(g:Nat)(cells:Array Value):w.grownBy (w.setRow g cells) (some g):=
 ⟨rfl,rfl,rfl,by simp[World.setRow],fun k hk hne=>by
  have:g≠k:=fun e=>hne (by rw[e]);simp[World.setRow,Array.getElem?_modify,this]⟩
theorem opYield_congr{o:Oper}{a b:Act}{W:World}{R:Value→World→Prop}(hs:∀cs x,o.op≠.select cs x)(h:∀t∈o.looksAt ops,a.tmps[t]? =b.tmps[t]?)
 (hy:opYield P ops o a W R):opYield P ops o b W R:=by
 have he:execOp a.eval o=execOp b.eval o:=execOp_congr o hs fun x hx=>by
  cases x with
  |tmp t=>
   have:t∈o.looksAt ops:=List.mem_append_left _ (List.mem_filterMap.2 ⟨.tmp t,by simpa using hx,rfl⟩);have h1:=h t this;simp only[Act.eval,Array.getD_eq_getD_getElem?,h1]
  |_=>rfl
 have hw:Region.wanted o (yielded ops a.tmps)=Region.wanted o (yielded ops b.tmps):=by
  unfold Region.wanted;cases hg:o.guard with
  |none=>rfl
  |some gw=>
   obtain⟨g,want⟩:=gw;have hyy:yielded ops a.tmps g=yielded ops b.tmps g:=by
    unfold yielded;cases ht:(ops[g]?).bind (·.dst)with
    |none=>rfl
    |some t=>
     have:t∈o.looksAt ops:=by simp[Oper.looksAt,hg,ht]
     simp only[Option.bind_some,h t this]
   simp only[hyy]
 rw[opYield_def]at *;rw[←hw,←he];exact hy
theorem put_relAct{a0:Act}{L:Nat→Bool}{vals:Nat→Value}{i:Nat}{v:Value}(hi:L i=false)(hd:∀j d,j≠i→dstAt ops j=some d→dstAt ops i≠some d):
 ∀n,i < n→(relAct ops a0 L vals n).put (dstAt ops i) v=relAct ops a0 (fun j=>if j=i then true else L j) (fun j=>if j=i then v else vals j) n
 |0,h=>by omega
 |n+1,h=>by
  by_cases e:n=i
  ·subst e;have hc:=relAct_congr (ops:=ops) (a0:=a0) (L:=L) (L':=fun j=>if j=n then true else L j) (vals:=vals) (vals':=fun j=>if j=n then v else vals j) n
    (fun j hj=>⟨by rw[if_neg (by omega)],fun _=>by rw[if_neg (by omega)]⟩)
   conv=>lhs;unfold relAct
   conv=>rhs;unfold relAct
   rw[hi,←hc];simp
  ·have ih:=put_relAct (a0:=a0) (vals:=vals) (v:=v) hi hd n (by omega)
   conv=>lhs;unfold relAct
   conv=>rhs;unfold relAct
   rw[if_neg e,if_neg e,←ih];cases hn:L n
   ·rfl
   ·simp only[if_true];refine(Act.put_comm _ _ _ ?_).symm;intro d hid hnd;exact hd n d e hnd hid
theorem count_set(listed:Array Bool)(i:Nat)(h:listed[i]? =some false):(listed.setIfInBounds i true).toList.count false+1=listed.toList.count false:=by
 have hlt:i < listed.size:=(Array.getElem?_eq_some_iff.1 h).1;have hv:listed.toList[i]'(by simpa using hlt)=false:=by
  have:=(Array.getElem?_eq_some_iff.1 h).2;simpa using this
 have e:=List.take_append_drop i listed.toList;rw[List.drop_eq_getElem_cons (by simpa using hlt),hv]at e;rw[Array.toList_setIfInBounds]
 conv=>rhs;rw[←e]
 have e2:listed.toList.set i true=listed.toList.take i++true::listed.toList.drop (i+1):=by
  conv=>lhs;rw[←e]
  rw[List.set_append_right _ _ (by simp;omega)];rw[List.length_take,show i - min i listed.toList.length=0 from by simp;omega,List.set_cons_zero]
 rw[e2];simp only[List.count_append,List.count_cons];simp;omega
theorem none_listed(n j:Nat):(Array.replicate n false).getD j false=false:=by
 rw[Array.getD_eq_getD_getElem?,Array.getElem?_replicate];split <;> rfl
def waitsB(ops:Array Oper)(j i:Nat):Bool:=match ops[j]? with
 |none=>false
 |some o=>o.after.any fun e=>e.on==i&&Region.binds .any e
end
def relAt2(ops:Array Oper)(i:Nat)(o:Oper):Bool:=
 (match o.op with|.select _ _=>false|_=>true)&&
 (o.after.all fun e=> !Region.binds .any e||decide (e.on < i))&&
 ((List.range ops.size).all fun j=>match dstAt ops j with
   |none=>true
   |some d=>(j==i||o.dst !=some d)&&(!(o.looksAt ops).contains d||((decide (j < i)&&o.after.any fun e=>e.on==j&&Region.binds .any e)||waitsB ops j i)))
def relB2(ops:Array Oper):Bool:=(List.range ops.size).all fun i=>match ops[i]? with
 |none=>true
 |some o=>relAt2 ops i o
theorem waitsB_elim{ops:Array Oper}{j i:Nat}(h:waitsB ops j i=true):∃o,ops[j]? =some o∧∃e∈o.after,e.on=i∧Region.binds .any e=true:=by
 unfold waitsB at h;split at h
 ·cases h
 ·rename_i o ho;refine⟨o,ho, ?_⟩;rw[Array.any_eq_true]at h;obtain⟨x,hx,h9⟩:=h;simp only[Bool.and_eq_true,beq_iff_eq]at h9;exact⟨_,Array.getElem_mem hx,h9.1,h9.2⟩
theorem relB2_spec{ops:Array Oper}(h:relB2 ops=true){i:Nat}{o:Oper}(hi:ops[i]? =some o):
 (∀cs b,o.op≠.select cs b)∧(∀e∈o.after,Region.binds .any e=true→e.on < i)∧
 (∀j d,dstAt ops j=some d→(j≠i→o.dst≠some d)∧(d∈o.looksAt ops→(j < i∧∃e∈o.after,e.on=j∧Region.binds .any e=true)∨waitsB ops j i=true)):=by
 have hlt:i < ops.size:=(Array.getElem?_eq_some_iff.1 hi).1;have h1:=List.all_eq_true.1 h i (List.mem_range.2 hlt);rw[hi]at h1;simp only[relAt2,Bool.and_eq_true]at h1;obtain⟨⟨h2,h3⟩,h4⟩:=h1;refine⟨?_, ?_, ?_⟩
 ·intro cs b he;rw[he]at h2;cases h2
 ·intro e he hb;have:=(Array.all_eq_true_iff_forall_mem.1 h3) e he;rw[hb]at this;simpa using this
 ·intro j d hj;have hjl:j < ops.size:=by
   rcases Nat.lt_or_ge j ops.size with g|g
   ·exact g
   ·unfold dstAt at hj;rw[Array.getElem?_eq_none g]at hj;cases hj
  have h5:=List.all_eq_true.1 h4 j (List.mem_range.2 hjl);rw[hj]at h5;simp only[Bool.and_eq_true,Bool.or_eq_true,beq_iff_eq,bne_iff_ne,ne_eq,Bool.not_eq_true',decide_eq_true_eq]at h5;obtain⟨h6,h7⟩:=h5;refine⟨fun hne=>h6.resolve_left hne,fun hd=> ?_⟩;rcases h7 with h7|⟨h7,h8⟩|h7
  ·have:(o.looksAt ops).contains d=true:=by simpa using hd
   rw[this]at h7;cases h7
  ·refine .inl ⟨h7, ?_⟩;rw[Array.any_eq_true]at h8;obtain⟨x,hx,h9⟩:=h8;simp only[Bool.and_eq_true,beq_iff_eq]at h9;exact⟨_,Array.getElem_mem hx,h9.1,h9.2⟩
  ·exact .inr h7
def waitsT(ops:Array Oper):Nat→Nat→Nat→Bool
 |0,_,_=>false
 |f+1,j,i=>match ops[j]? with
  |none=>false
  |some o=>o.after.any fun e=>Region.binds .any e&&(e.on==i||waitsT ops f e.on i)
theorem waitsT_L{ops:Array Oper}{L:Nat→Bool}(hdown:∀j o,ops[j]? =some o→L j=true→∀e∈o.after,Region.binds .any e=true→L e.on=true):
 ∀(f j i:Nat),L j=true→waitsT ops f j i=true→L i=true
 |0,_,_,_,h=>by cases h
 |f+1,j,i,hj,h=>by
  unfold waitsT at h;cases ho:ops[j]? with
  |none=>rw[ho]at h;cases h
  |some o=>
   rw[ho]at h;simp only[]at h;rw[Array.any_eq_true]at h;obtain⟨x,hx,h9⟩:=h;simp only[Bool.and_eq_true,Bool.or_eq_true,beq_iff_eq]at h9;have he:=hdown j o ho hj _ (Array.getElem_mem hx) h9.1;rcases h9.2 with h9|h9
   ·rw[←h9];exact he
   ·exact waitsT_L hdown f _ i he h9
theorem waitsT_listed{ops:Array Oper}{listed:Array Bool}(hdown:∀j o,ops[j]? =some o→listed.getD j false=true→∀e∈o.after,Region.binds .any e=true→listed.getD e.on false=true):
 ∀(f j i:Nat),listed.getD j false=true→waitsT ops f j i=true→listed.getD i false=true:=waitsT_L (L:=fun j=>listed.getD j false) hdown
def killsX(bd:Edge→Bool)(ops:Array Oper)(kills:Nat→Nat→Bool):Bool:=(List.range ops.size).all fun i=>(List.range ops.size).all fun j=> !kills i j||(List.range ops.size).all fun k=>match ops[k]? with
 |none=>true
 |some o=>k==i||waitsT ops ops.size i k||o.after.all fun e=> !(bd e)||e.on !=j
section
variable {P:Program} {ops:Array Oper}
theorem opYield_mono{o:Oper}{a:Act}{W:World}{R R':Value→World→Prop}(h:∀v W',R v W'→R' v W')(k:opYield P ops o a W R):opYield P ops o a W R':=by
 rw[opYield_def]at k ⊢;split
 ·rename_i hw;rw[if_pos hw]at k;generalize(execOp a.eval o).run P W=r at *;cases r with
  |ok n w'=>
   cases n <;> simp only[yieldUpon]at k ⊢
   case value u=>exact h _ _ k
   case skip=>exact h _ _ k
   case enter f args=>exact k.mono fun e w'' ⟨v,he,hr⟩=>⟨v,he,h _ _ hr⟩
  |halt x w'=>simp only[yieldUpon]at k
 ·rename_i hw;rw[if_neg hw]at k;exact h _ _ k
end
section
variable {P:Program} {ops:Array Oper}
theorem wp_region_j{id:Nat}{Q:Exit→Act→World→Prop}{a0:Act}{w0:World}(hm:P.follows .mixedOrders=true)(hB:relB2 ops=true)
 (J:(Nat→Bool)→(Nat→Value)→World→Prop) (hJ0:J (fun _=>false) (fun _=>undef) {w0 with drawn:=w0.drawn+1})
 (step:∀i o,ops[i]? =some o→∀L vals W,J L vals W→L i=false→(∀e∈o.after,Region.binds .any e=true→L e.on=true)→
   opYield P ops o (relAct ops a0 (fun _=>true) vals i) W (fun v W'=>J (fun k=>if k=i then true else L k) (fun k=>if k=i then v else vals k) W'))
 (hend:∀vals W,J (fun j=>decide (j < ops.size)) vals W→Q .normal (relAct ops a0 (fun _=>true) vals ops.size) W):
 (Code.region id ops true).wp P Q a0 w0:=by
 have main:∀(fuel:Nat) (listed:Array Bool) (vals:Nat→Value) (W:World),listed.size=ops.size→listed.toList.count false≤fuel→
  (∀j o,ops[j]? =some o→listed.getD j false=true→∀e∈o.after,Region.binds .any e=true→listed.getD e.on false=true)→J (fun j=>listed.getD j false) vals W→
  wpAny P .any ops Q fuel listed (relAct ops a0 (fun j=>listed.getD j false) vals ops.size) W:=by
  intro fuel;have fin:∀(listed:Array Bool) (vals:Nat→Value) (W:World),listed.size=ops.size→Region.ready .any ops listed=[]→J (fun j=>listed.getD j false) vals W→
   Q .normal (relAct ops a0 (fun j=>listed.getD j false) vals ops.size) W:=by
   intro listed vals W hs hr hJW;have all:∀n,∀j,j < n→j < ops.size→listed.getD j false=true:=by
    intro n
    induction n with
    |zero=>intro j h;omega
    |succ n ih=>
     intro j hj hlt;cases hl:listed.getD j false
     ·exfalso;have hop:ops[j]? =some ops[j]:=Array.getElem?_eq_getElem hlt;obtain⟨_,hb2,_⟩:=relB2_spec hB hop;have:j∈Region.ready .any ops listed:=by
       rw[mem_ready];refine⟨?_,ops[j],hop,fun e he hb=>ih e.on (by have:=hb2 e he hb;omega) (by have:=hb2 e he hb;omega)⟩;have hjs:j < listed.size:=by omega
       simp[hjs]at hl ⊢;exact hl
      rw[hr]at this;cases this
     ·rfl
   have e:=relAct_congr (ops:=ops) (a0:=a0) (L:=fun j=>listed.getD j false) (L':=fun _=>true) (vals:=vals) (vals':=vals) ops.size (fun j hj=>⟨all (j+1) j (by omega) hj,fun _=>rfl⟩);rw[e];have eL:(fun j=>listed.getD j false)=fun j=>decide (j < ops.size):=by
    funext j;by_cases hj:j < ops.size
    ·rw[all (j+1) j (by omega) hj,decide_eq_true hj]
    ·rw[decide_eq_false hj];simp[Array.getElem?_eq_none (show listed.size≤j by omega)]
   rw[eL]at hJW;exact hend vals W hJW
  induction fuel with
  |zero=>
   intro listed vals W hs hcount hdown hJW;have hr:Region.ready .any ops listed=[]:=by
    rw[List.eq_nil_iff_forall_not_mem];intro j hj;have h0:=(mem_ready.1 hj).1;obtain⟨_,o,ho,_⟩:=mem_ready.1 hj;have hjs:j < listed.size:=by have:=(Array.getElem?_eq_some_iff.1 ho).1;omega
    have hmem:false∈listed.toList:=by
     have:listed[j]=false:=by simpa[hjs]using h0
     rw[←this];simp
    have:=List.count_pos_iff.2 hmem;omega
   exact⟨hr,fin listed vals W hs hr hJW⟩
  |succ fuel ih=>
   intro listed vals W hs hcount hdown hJW;refine⟨fun hr=>fin listed vals W hs hr hJW,fun i hi=> ?_⟩;obtain⟨h0,o,ho,hall⟩:=mem_ready.1 hi;have hlt:i < ops.size:=(Array.getElem?_eq_some_iff.1 ho).1;have hli:listed.getD i false=false:=by simpa[show i < listed.size by omega]using h0
   have hli?:listed[i]? =some false:=by
    rw[Array.getElem?_eq_getElem (show i < listed.size by omega)];simpa[show i < listed.size by omega]using hli
   obtain⟨hsel,hb2,hb3⟩:=relB2_spec hB ho;have hdi:dstAt ops i=o.dst:=by unfold dstAt;rw[ho];rfl
   have hst:=step i o ho (fun j=>listed.getD j false) vals W hJW hli (fun e he hb=>hall e he hb);have hst2:opYield P ops o (relAct ops a0 (fun j=>listed.getD j false) vals ops.size) W (fun v W'=>J (fun k=>if k=i then true else listed.getD k false) (fun k=>if k=i then v else vals k) W'):=by
    refine opYield_congr hsel ?_ hst;intro t ht;by_cases hex:∃k,dstAt ops k=some t
    ·obtain⟨k,hk⟩:=hex;rcases(hb3 k t hk).2 ht with⟨hki,e,he,heq,hbe⟩|hkw
     rotate_left
     ·obtain⟨ok,hok,e,he,heq,hbe⟩:=waitsB_elim hkw;have hik:i < k:=by have:=(relB2_spec hB hok).2.1 e he hbe;omega
      have hlk:listed.getD k false=false:=by
       cases hlk:listed.getD k false
       ·rfl
       ·have:=hdown k ok hok hlk e he hbe;rw[heq,hli]at this;cases this
      have hu:∀j,dstAt ops j=some t→j=k:=by
       intro j hj;have hjl:j < ops.size:=by
        rcases Nat.lt_or_ge j ops.size with g|g
        ·exact g
        ·unfold dstAt at hj;rw[Array.getElem?_eq_none g]at hj;cases hj
       rcases Nat.lt_trichotomy j k with g|g|g
       ·exfalso;have:=((relB2_spec hB hok).2.2 j t hj).1 (by omega);apply this;unfold dstAt at hk;rw[hok]at hk;exact hk
       ·exact g
       ·exfalso;have hjop:ops[j]? =some ops[j]:=Array.getElem?_eq_getElem hjl;have:=((relB2_spec hB hjop).2.2 k t hk).1 (by omega);apply this;unfold dstAt at hj;rw[hjop]at hj;exact hj
      rw[relAct_free i (fun j hj _ h=>by have:=hu j h;omega),relAct_free ops.size (fun j _ hl h=>by
       have:=hu j h;rw[this,hlk]at hl;cases hl)]
     have hkl:listed.getD k false=true:=by rw[←heq];exact hall e he hbe
     have hu:∀j,dstAt ops j=some t→j=k:=by
      intro j hj;rcases Nat.lt_trichotomy j k with g|g|g
      ·exfalso;have hkop:ops[k]? =some ops[k]:=Array.getElem?_eq_getElem (by omega);have:=((relB2_spec hB hkop).2.2 j t hj).1 (by omega);apply this;unfold dstAt at hk;rw[hkop]at hk;exact hk
      ·exact g
      ·exfalso;have hjl:j < ops.size:=by
        rcases Nat.lt_or_ge j ops.size with g|g
        ·exact g
        ·unfold dstAt at hj;rw[Array.getElem?_eq_none g]at hj;cases hj
       have hjop:ops[j]? =some ops[j]:=Array.getElem?_eq_getElem hjl;have:=((relB2_spec hB hjop).2.2 k t hk).1 (by omega);apply this;unfold dstAt at hj;rw[hjop]at hj;exact hj
     rw[relAct_at hk hu i hki rfl,relAct_at hk hu ops.size (by omega) hkl]
    ·have hno:∀j,dstAt ops j≠some t:=fun j hj=>hex ⟨j,hj⟩;rw[relAct_free i (fun j _ _=>hno j),relAct_free ops.size (fun j _ _=>hno j)]
   refine wpOp_of_yield ho hst2 fun v W' hJ'=> ?_;rw[←hdi,put_relAct hli (fun j d hne hj=>by
    intro hid;rw[hdi]at hid;exact(hb3 j d hj).1 hne hid) ops.size hlt]
   have hget:∀j,(listed.setIfInBounds i true).getD j false=if j=i then true else listed.getD j false:=by
    intro j;by_cases e:j=i
    ·subst e;rw[if_pos rfl];simp[show j < listed.size by omega]
    ·rw[if_neg e];have hne:i≠j:=fun h=>e h.symm;simp only[Array.getD_eq_getD_getElem?,Array.getElem?_setIfInBounds_ne hne]
   have hcg:=relAct_congr (ops:=ops) (a0:=a0) (L:=fun j=>if j=i then true else listed.getD j false) (L':=fun j=>(listed.setIfInBounds i true).getD j false) (vals:=fun j=>if j=i then v else vals j) (vals':=fun j=>if j=i then v else vals j) ops.size (fun j _=>⟨(hget j).symm,fun _=>rfl⟩);rw[hcg];refine ih _ _ W' (by simpa using hs) ?_ ?_ ?_
   ·have:=count_set listed i hli?;omega
   ·intro j oj hj hlj e he hb;rw[hget];by_cases ee:e.on=i
    ·rw[if_pos ee]
    ·rw[if_neg ee];rw[hget]at hlj;by_cases ej:j=i
     ·subst ej;rw[ho]at hj;cases hj;exact hall e he hb
     ·rw[if_neg ej]at hlj;exact hdown j oj hj hlj e he hb
   ·have eL:(fun j=>(listed.setIfInBounds i true).getD j false)=fun k=>if k=i then true else listed.getD k false:=funext hget
    rw[eL];exact hJ'
 refine wp_region_any hm ?_;have eN:(fun j=>(Array.replicate ops.size false).getD j false)=fun _=>false:=funext fun j=>none_listed _ _;have h:=main ops.size (Array.replicate ops.size false) (fun _=>undef) {w0 with drawn:=w0.drawn+1} (by simp) (by simp) (fun j o _ hl=>by rw[none_listed]at hl;cases hl) (by rw[eN];exact hJ0)
 have e:relAct ops a0 (fun j=>(Array.replicate ops.size false).getD j false) (fun _=>undef) ops.size=a0:=by
  have:∀n,relAct ops a0 (fun j=>(Array.replicate ops.size false).getD j false) (fun _=>undef) n=a0:=by
   intro n
   induction n with
   |zero=>rfl
   |succ n ih=>
    unfold relAct;rw[ih,if_neg (by rw[none_listed];exact Bool.false_ne_true)]
  exact this _
 rw[e]at h;exact h
end
section
variable {P:Program} {ops:Array Oper}
theorem wp_region_t{id:Nat}{Q:Exit→Act→World→Prop}{a0:Act}{w0:World}(bd:Edge→Bool)(hbd:∀e,bd e=true→Region.binds .any e=true)(hm:P.follows .mixedOrders=true)(hB:relB2 ops=true)
 (kills:Nat→Nat→Bool) (hkB:killsX bd ops kills=true) (T:Nat→World→World→Prop) (C:World→Prop) (R:Nat→(Nat→Value)→World→Prop) (hRc:∀j vals i v W,i≠j→waitsT ops ops.size j i=false→R j vals W→R j (fun k=>if k=i then v else vals k) W)
 (I0:World→Prop) (kills0:Nat→Bool) (hI0:I0 {w0 with drawn:=w0.drawn+1}) (hIst:∀i W W',kills0 i=false→C W→I0 W→T i W W'→I0 W')
 (hC0:C {w0 with drawn:=w0.drawn+1}) (hC:∀i W W',C W→T i W W'→C W')
 (hR:∀i j v W W',i≠j→kills i j=false→waitsT ops ops.size j i=false→C W→R j v W→T i W W'→R j v W')
 (step:∀i o,ops[i]? =some o→∀vals W,C W→(∀e∈o.after,bd e=true→R e.on vals W)→((∀k,k < ops.size→kills0 k=true→k=i∨waitsT ops ops.size k i=true)→I0 W)→
   opYield P ops o (relAct ops a0 (fun _=>true) vals i) W (fun v W'=>T i W W'∧R i (fun k=>if k=i then v else vals k) W'))
 (hend:∀vals W,C W→(∀j,j < ops.size→(∀i,i < ops.size→kills i j=false)→R j vals W)→Q .normal (relAct ops a0 (fun _=>true) vals ops.size) W):
 (Code.region id ops true).wp P Q a0 w0:=by
 refine wp_region_j hm hB (fun L vals W=>C W∧(∀j o,ops[j]? =some o→L j=true→∀e∈o.after,Region.binds .any e=true→L e.on=true)∧(∀j,L j=true→j < ops.size)∧(∀j,L j=true→(∀i,L i=true→kills i j=false)→R j vals W)∧((∀k,L k=true→kills0 k=false)→I0 W)) ⟨hC0,fun _ _ _ h=>(by cases h),fun _ h=>(by cases h),fun _ h=>(by cases h),fun _=>hI0⟩ ?_ ?_
 ·intro i o ho L vals W ⟨hCW,hdown,hlt,hRW,hIW⟩ hLi hall;have hil:i < ops.size:=(Array.getElem?_eq_some_iff.1 ho).1;have hno:∀k,L k=true→waitsT ops ops.size k i=true→False:=fun k hk hw=>by
   rw[waitsT_L hdown _ _ _ hk hw]at hLi;cases hLi
  refine opYield_mono (fun v W' h=> ?_) (step i o ho vals W hCW (fun e he hb=> ?_) fun h=>hIW fun k hk=> ?_)
  ·obtain⟨hT,hRi⟩:=h;refine⟨hC i W W' hCW hT,fun j oj hj hlj e he hb=> ?_,fun j hj=> ?_,fun j hlj hnk=> ?_,fun hnk=> ?_⟩
   ·show(if e.on=i then true else L e.on)=true;have hlj:(if j=i then true else L j)=true:=hlj;by_cases ee:e.on=i
    ·rw[if_pos ee]
    ·rw[if_neg ee];by_cases ej:j=i
     ·subst ej;rw[ho]at hj;cases hj;exact hall e he hb
     ·rw[if_neg ej]at hlj;exact hdown j oj hj hlj e he hb
   ·have hj:(if j=i then true else L j)=true:=hj;by_cases ej:j=i
    ·rw[ej];exact hil
    ·rw[if_neg ej]at hj;exact hlt j hj
   ·have hlj:(if j=i then true else L j)=true:=hlj;have hnk:∀k,(if k=i then true else L k)=true→kills k j=false:=hnk;by_cases ej:j=i
    ·rw[ej];exact hRi
    ·rw[if_neg ej]at hlj;have hij:i≠j:=fun h=>ej h.symm;have hwf:waitsT ops ops.size j i=false:=by
      cases hwt:waitsT ops ops.size j i
      ·rfl
      ·exact(hno j hlj hwt).elim
     exact hRc j vals i v W' hij hwf (hR i j _ W W' hij (hnk i (if_pos rfl)) hwf hCW (hRW j hlj fun k hk=>hnk k (by split <;> first|rfl|exact hk)) hT)
   ·have hnk:∀k,(if k=i then true else L k)=true→kills0 k=false:=hnk;exact hIst i W W' (hnk i (if_pos rfl)) hCW (hIW fun k hk=>hnk k (by split <;> first|rfl|exact hk)) hT
  ·have hle:=hall e he (hbd e hb);refine hRW e.on hle fun k hk=> ?_;cases hkk:kills k e.on
   ·rfl
   ·exfalso;unfold killsX at hkB;rw[List.all_eq_true]at hkB;have h1:=hkB k (List.mem_range.2 (hlt k hk));rw[List.all_eq_true]at h1;have h2:=h1 e.on (List.mem_range.2 (hlt _ hle));rw[hkk,Bool.not_true,Bool.false_or,List.all_eq_true]at h2;have h3:=h2 i (List.mem_range.2 hil);rw[ho]at h3;simp only[Bool.or_eq_true,beq_iff_eq]at h3;rcases h3 with(h3|h3)|h3
    ·rw[h3,hk]at hLi;cases hLi
    ·exact hno k hk h3
    ·rw[Array.all_eq_true]at h3;obtain⟨x,hx,rfl⟩:=Array.mem_iff_getElem.1 he;have h4:=h3 x hx;rw[hb]at h4;simp at h4
  ·cases hk0:kills0 k
   ·rfl
   ·exfalso;rcases h k (hlt k hk) hk0 with e|e
    ·rw[e,hLi]at hk;cases hk
    ·exact hno k hk e
 ·intro vals W ⟨hCW,_,_,hRW,_⟩;exact hend vals W hCW fun j hj hk=>hRW j (decide_eq_true hj) fun i hi=>hk i (of_decide_eq_true hi)
theorem killsX_of{kills:Nat→Nat→Bool}(h:killsB ops kills=true):killsX bindD ops kills=true:=by
 unfold killsB at h;unfold killsX;rw[List.all_eq_true]at h ⊢;intro i hi;have h1:=h i hi;rw[List.all_eq_true]at h1 ⊢;intro j hj;have h2:=h1 j hj;rw[Bool.or_eq_true]at h2 ⊢;refine h2.imp id fun h3=> ?_;rw[List.all_eq_true]at h3 ⊢;intro k hk;have h4:=h3 k hk;cases ho:ops[k]? with
 |none=>rfl
 |some o=>
  rw[ho]at h4;simp only[Bool.or_eq_true]at h4 ⊢;exact h4.elim (fun h=>.inl (.inl h)) .inr
theorem waitsT_of{j i:Nat}(h:waitsB ops j i=true):waitsT ops ops.size j i=true:=by
 obtain⟨o,ho,e,he,h1,h2⟩:=waitsB_elim h;have hl:=(Array.getElem?_eq_some_iff.1 ho).1;obtain⟨f,hf⟩:∃f,ops.size=f+1:=⟨ops.size - 1,by omega⟩
 rw[hf];unfold waitsT;rw[ho];simp only[];obtain⟨x,hx,rfl⟩:=Array.mem_iff_getElem.1 he;rw[Array.any_eq_true];exact⟨x,hx,by simp[h2,h1]⟩
theorem waitsB_not{j i:Nat}(h:waitsT ops ops.size j i=false):waitsB ops j i=false:=by
 cases hw:waitsB ops j i
 ·rfl
 ·rw[waitsT_of hw]at h;cases h
theorem wp_region_dep{id:Nat}{Q:Exit→Act→World→Prop}{a0:Act}{w0:World}(hm:P.follows .mixedOrders=true)(hB:relB2 ops=true)
 (kills:Nat→Nat→Bool) (hkB:killsB ops kills=true) (T:Nat→World→World→Prop) (C:World→Prop) (R:Nat→(Nat→Value)→World→Prop) (hRc:∀j vals i v W,i≠j→waitsB ops j i=false→R j vals W→R j (fun k=>if k=i then v else vals k) W)
 (I0:World→Prop) (kills0:Nat→Bool) (hI0:I0 {w0 with drawn:=w0.drawn+1}) (hIst:∀i W W',kills0 i=false→C W→I0 W→T i W W'→I0 W')
 (hC0:C {w0 with drawn:=w0.drawn+1}) (hC:∀i W W',C W→T i W W'→C W')
 (hR:∀i j v W W',i≠j→kills i j=false→waitsB ops j i=false→C W→R j v W→T i W W'→R j v W')
 (step:∀i o,ops[i]? =some o→∀vals W,C W→(∀e∈o.after,bindD e=true→R e.on vals W)→((∀k,k < ops.size→kills0 k=true→k=i∨waitsB ops k i=true)→I0 W)→
   opYield P ops o (relAct ops a0 (fun _=>true) vals i) W (fun v W'=>T i W W'∧R i (fun k=>if k=i then v else vals k) W'))
 (hend:∀vals W,C W→(∀j,j < ops.size→(∀i,i < ops.size→kills i j=false)→R j vals W)→Q .normal (relAct ops a0 (fun _=>true) vals ops.size) W):
 (Code.region id ops true).wp P Q a0 w0:=
 wp_region_t bindD (fun e h=>bindD_binds h) hm hB kills (killsX_of hkB) T C R (fun j vals i v W h1 h2 h3=>hRc j vals i v W h1 (waitsB_not h2) h3) I0 kills0 hI0 hIst hC0 hC (fun i j v W W' h1 h2 h3=>hR i j v W W' h1 h2 (waitsB_not h3))
  (fun i o ho vals W h1 h2 h3=>step i o ho vals W h1 h2 fun h=>h3 fun k hk hk0=>(h k hk hk0).imp (fun h=>h) waitsT_of) hend
theorem relB2_of(h:relB ops=true):relB2 ops=true:=by
 unfold relB at h;unfold relB2;rw[List.all_eq_true]at h ⊢;intro i hi;have h1:=h i hi;cases ho:ops[i]? with
 |none=>rfl
 |some o=>
  rw[ho]at h1;simp only[]at h1 ⊢;unfold relAt at h1;unfold relAt2;rw[Bool.and_eq_true]at h1 ⊢;refine⟨h1.1, ?_⟩;have h2:=h1.2;rw[List.all_eq_true]at h2 ⊢;intro j hj;have h3:=h2 j hj;cases hd:dstAt ops j with
  |none=>rfl
  |some d=>
   rw[hd]at h3;simp only[Bool.and_eq_true,Bool.or_eq_true]at h3 ⊢;exact⟨h3.1,h3.2.imp id .inl⟩
theorem wp_region_rel0{id:Nat}{Q:Exit→Act→World→Prop}{a0:Act}{w0:World}(hm:P.follows .mixedOrders=true)(hB:relB ops=true)
 (kills:Nat→Nat→Bool) (hkB:killsB ops kills=true) (T:Nat→World→World→Prop) (C:World→Prop) (R:Nat→Value→World→Prop)
 (I0:World→Prop) (kills0:Nat→Bool) (hI0:I0 {w0 with drawn:=w0.drawn+1}) (hIst:∀i W W',kills0 i=false→C W→I0 W→T i W W'→I0 W')
 (hC0:C {w0 with drawn:=w0.drawn+1}) (hC:∀i W W',C W→T i W W'→C W')
 (hR:∀i j v W W',i≠j→kills i j=false→waitsB ops j i=false→C W→R j v W→T i W W'→R j v W')
 (step:∀i o,ops[i]? =some o→∀vals W,C W→(∀e∈o.after,bindD e=true→R e.on (vals e.on) W)→((∀k,k < ops.size→kills0 k=true→k=i∨waitsB ops k i=true)→I0 W)→
   opYield P ops o (relAct ops a0 (fun _=>true) vals i) W (fun v W'=>T i W W'∧R i v W'))
 (hend:∀vals W,C W→(∀j,j < ops.size→(∀i,i < ops.size→kills i j=false)→R j (vals j) W)→Q .normal (relAct ops a0 (fun _=>true) vals ops.size) W):
 (Code.region id ops true).wp P Q a0 w0:=
 wp_region_dep hm (relB2_of hB) kills hkB T C (fun j vals W=>R j (vals j) W) (fun j vals i v W hij _ h=>by show R j (if j=i then v else vals j) W;rw[if_neg (fun e=>hij e.symm)];exact h) I0 kills0 hI0 hIst hC0 hC (fun i j v W W' h1 h2 h3 h4 h5 h6=>hR i j (v j) W W' h1 h2 h3 h4 h5 h6)
  (fun i o ho vals W h1 h2 h3=>opYield_mono (fun v W' h=>⟨h.1,by show R i (if i=i then v else vals i) W';rw[if_pos rfl];exact h.2⟩) (step i o ho vals W h1 h2 h3)) hend
theorem wp_region_rel{id:Nat}{Q:Exit→Act→World→Prop}{a0:Act}{w0:World}(hm:P.follows .mixedOrders=true)(hB:relB ops=true)
 (kills:Nat→Nat→Bool) (hkB:killsB ops kills=true) (T:Nat→World→World→Prop) (C:World→Prop) (R:Nat→Value→World→Prop)
 (hC0:C {w0 with drawn:=w0.drawn+1}) (hC:∀i W W',C W→T i W W'→C W')
 (hR:∀i j v W W',i≠j→kills i j=false→waitsB ops j i=false→C W→R j v W→T i W W'→R j v W')
 (step:∀i o,ops[i]? =some o→∀vals W,C W→(∀e∈o.after,bindD e=true→R e.on (vals e.on) W)→
   opYield P ops o (relAct ops a0 (fun _=>true) vals i) W (fun v W'=>T i W W'∧R i v W'))
 (hend:∀vals W,C W→(∀j,j < ops.size→(∀i,i < ops.size→kills i j=false)→R j (vals j) W)→Q .normal (relAct ops a0 (fun _=>true) vals ops.size) W):
 (Code.region id ops true).wp P Q a0 w0:=
 wp_region_rel0 hm hB kills hkB T C R (fun _=>True) (fun _=>false) trivial (fun _ _ _ _ _ _ _=>trivial) hC0 hC hR (fun i o ho vals W hE h _=>step i o ho vals W hE h) hend
end
end Go.Proofs.YtmbdoacafhljkaaGreat
namespace Go.Proofs.YtmbdoacafhljkaaGreat
open Go.RowKit
theorem lt_block{w:World}{g:Nat}{o:Obj}(h:w.heap[g]? =some o):g < w.heap.size:=by
 rcases Nat.lt_or_ge g w.heap.size with h1|h1
 ·exact h1
 ·rw[Array.getElem?_eq_none h1]at h;cases h
theorem ret_int{k:IntKind}{a b:Int}(h:a=b):Ending.returned (.int k a)=.returned (.int k b):=by rw[h]
theorem ret_bool{a b:Bool}(h:a=b):Ending.returned (.bool a)=.returned (.bool b):=by rw[h]
def Cs(w:World)(A:Option Addr)(xs:List Value):Prop:=
 ∀i u,xs[i]? =some u→∃b off,A=some ⟨b,off,none⟩∧b < w.heap.size∧w.cell? ⟨b,off+i,none⟩=some u
theorem Cs.below{w w':World}{A:Option Addr}{xs:List Value}(h:Cs w A xs)(hb:Below w.heap.size w w'):Cs w' A xs:=by
 intro i u hu;obtain⟨b,off,e,hlt,hc⟩:=h i u hu;exact⟨b,off,e,Nat.lt_of_lt_of_le hlt hb.size,(hb.cell (p:=⟨b,off+i,none⟩) hlt).trans hc⟩
theorem Cs.nil(w:World)(A:Option Addr):Cs w A []:=by intro i u hu;simp at hu
theorem Cs.of_own{w:World}{base:Nat}{e:TypeId}{v:Value}{n:Nat}{xs:List Value}(h:w.ownsRow base e 1 v n xs):
 ∃A cap,v=.slice A n cap∧xs.length=n∧Cs w A xs:=by
 obtain⟨hl,h2⟩:=h;have hl':xs.length=n:=by simpa using hl
 rcases h2 with⟨rfl,rfl⟩|⟨g,cap,cur,rfl,hg,hh,hn,hcap,hsz,htake⟩
 ·exact⟨none,0,rfl,hl',by rw[List.eq_nil_of_length_eq_zero hl'];exact Cs.nil _ _⟩
 ·refine⟨some ⟨g,0,none⟩,cap,rfl,hl',fun i u hu=>⟨g,0,rfl, ?_, ?_⟩⟩
  ·rcases Nat.lt_or_ge g w.heap.size with hlt|hge
   ·exact hlt
   ·rw[Array.getElem?_eq_none hge]at hh;cases hh
  ·have hi:i < n:=by rcases Nat.lt_or_ge i xs.length with h|h;omega;rw[List.getElem?_eq_none h]at hu;cases hu
   rw[Nat.zero_add,cell_of_row w g i cur e (0,0) hh];rw[←htake,List.getElem?_take,if_pos (by simpa using hi)]at hu;simpa using hu
theorem own_below{w w':World}{B:Nat}{e:TypeId}{size:Nat}{v:Value}{n:Nat}{xs:List Value}(h:w.ownsRow B e size v n xs)(hb:Below w.heap.size w w'):w'.ownsRow B e size v n xs:=by
 refine⟨h.1, ?_⟩;rcases h.2 with hn|⟨g,cap,cur,rfl,hg,hh,rest⟩
 ·exact .inl hn
 ·refine .inr ⟨g,cap,cur,rfl,hg, ?_,rest⟩;rw[hb.block g (by rcases Nat.lt_or_ge g w.heap.size with h1|h1;exact h1;rw[Array.getElem?_eq_none h1]at hh;cases hh)];exact hh
def byteV(c:UInt8):Value:=.int .u8 c.toNat
theorem Cs.byte{w:World}{A:Option Addr}{l:List UInt8}(h:Cs w A (l.map byteV)){i:Nat}(hi:i < l.length):
 ∃b off,A=some ⟨b,off,none⟩∧b < w.heap.size∧w.cell? ⟨b,off+i,none⟩=some (.int .u8 (l[i].toNat)):=by
 refine h i _ ?_;simp[byteV,hi]
theorem add_plain(b off j:Nat):(⟨b,off,none⟩:Addr).add j=⟨b,off+j,none⟩:=by unfold Addr.add;split <;> simp_all
theorem Cs.cells{w:World}{a:Addr}{xs:List Value}(h:Cs w (some a) xs):∀j v,xs[j]? =some v→w.cell? (a.add j)=some v:=by
 intro j v hj;obtain⟨b,off,e,_,hc⟩:=h j v hj;cases e;rw[add_plain];exact hc
theorem Cs.none_nil{w:World}{xs:List Value}(h:Cs w none xs):xs=[]:=by
 cases xs with
 |nil=>rfl
 |cons x r=>obtain⟨b,off,e,_⟩:=h 0 x rfl;cases e
theorem run_str{P:Program}(w:World){src dst e:TypeId}(hs:P.underlying src=some (.slice e))(he:P.underlying e=some (.int .u8))(hd:P.underlying dst=some .string)
 {A:Option Addr} {l:List UInt8} (cap:Nat) (h:Cs w A (l.map byteV)):(convert src dst (.slice A l.length cap)).run P w=.ok (.string ⟨l.toArray⟩) w:=by
 cases A with
 |none=>
  have hl:l=[]:=by simpa using h.none_nil
  subst hl;exact run_convert_bytes_nil w src e hs he _ _ dst hd
 |some a=>
  have hl:(loadCells a l.length).run P w=.ok ((l.map fun c=>(c.toNat:Int)).map (Value.int .u8)).toArray w:=by
   have:=run_loadCells_list (P:=P) w a (l.map byteV) h.cells;rw[List.length_map]at this;rw[this,List.map_map];rfl
  rw[run_convert_bytes_string w src dst e _ l.length cap hs he hd,run_bytesToString w a l.length cap _ hl,foldl_push_bytes,List.map_map];have e1:l.map ((fun n:Int=>UInt8.ofNat n.toNat) ∘ fun c:UInt8=>(c.toNat:Int))=l:=by
   conv=>rhs;rw[←List.map_id l]
   apply List.map_congr_left;intro c _;simp
  rw[e1];simp[ByteArray.empty,ByteArray.emptyWithCapacity];rfl
theorem run_str_own{P:Program}(w:World){src dst e:TypeId}(hs:P.underlying src=some (.slice e))(he:P.underlying e=some (.int .u8))(hd:P.underlying dst=some .string)
 {base:Nat} {v:Value} {n:Nat} {l:List UInt8} (h:w.ownsRow base e 1 v n (l.map byteV)):(convert src dst v).run P w=.ok (.string ⟨l.toArray⟩) w:=by
 obtain⟨A,cap,rfl,hl,hc⟩:=Cs.of_own h;have e:n=l.length:=by simpa using hl.symm
 subst e;exact run_str w hs he hd cap hc
theorem wpList_push2{P:Program}{ops:Array Oper}{rest:List Oper}{o:Oper}{a:Act}{Q:Exit→Act→World→Prop}
 {w:World} {B:Nat} {v:Value} {n:Nat} {xs:List Value} {e:TypeId} {size:Nat} (hown:w.ownsRow B e size v n xs) (hB:B≤w.heap.size)
 (us:List Value) (hus:us.length=size) (h1:∀u∈us,u.oneCell'=true)
 {i:TypeInfo} {z:Value} {bytes:Nat} (hi:P.info? e=some i) (hz:i.zero=some z)
 (hsize:i.size=size) (hby:i.bytes=bytes) (hzs:z.cells.size=size) (hsz:0 < size)
 (hgd:o.guard=none) (s x:Operand) (t:TypeId) (ht:P.underlying t=some (.slice e))
 (ho:o.op=.call {callee:=.builtin .append,args:= #[s,x],argTypes:= #[t,t]})
 (hs:a.eval s=v) (hx:a.eval x=.slice (some ⟨w.heap.size,0,none⟩) 1 1)
 (h63:n+1≤maxLen) (hbytes:(n+1) *bytes≤140737488355328)
 (h:∀v' w',w'.ownsRow B e size v' (n+1) (xs++us)→Below B w w'→wpList P ops Q rest (a.put o.dst v') w'):
 wpList P ops Q (o::rest) a (w.alloc (.cells us.toArray e)):=by
 refine wpList_append_own _ hgd s x t ho B e i z size bytes ht hi hz hsize hby hzs hsz v n xs hs (hown.alloc _) ⟨w.heap.size,0,none⟩ 1 1 us hx (by omega) ?_ h1 h63 hbytes
  (by simp;omega) ?_
 ·intro j u hu;have hadd:(⟨w.heap.size,0,none⟩:Addr).add j=⟨w.heap.size,j,none⟩:=by unfold Addr.add;split <;> simp_all
  rw[hadd,cell_of_row _ _ j us.toArray e (0,0) (heap_alloc_new w _)];simpa using hu
 ·intro v' w' h2 h3 _;refine h v' w' h2 ?_;have hb1:Below B w (w.alloc (.cells us.toArray e)):=(Below.refl _ _).alloc hB _;refine hb1.grown h3 (by simp;omega) fun k hk=> ?_;exact(hown.lt k hk).1
def Ext(w1 W:World):Prop:=Below w1.heap.size w1 W
theorem Ext.refl(w:World):Ext w w:=Below.refl _ _
theorem Ext.trans{a b c:World}(h:Ext a b)(k:Ext b c):Ext a c:=Below.trans h (Below.mono k h.size)
section
variable {P:Program} {ops:Array Oper} {C:World→Prop} {Q:Act→Prop} {a:Act} {o:Oper} {rest:List Oper}
end
end Go.Proofs.YtmbdoacafhljkaaGreat
namespace Go.Proofs.YtmbdoacafhljkaaGreat
open Go.RowKit
abbrev Lab:=List UInt8
def strB(l:Lab):ByteArray:=⟨l.toArray⟩
def strV(l:Lab):Value:=.string (strB l)
theorem strB_size(l:Lab):(strB l).size=l.length:=by simp[strB,ByteArray.size]
theorem strB_toList(l:Lab):(strB l).toList=l:=by unfold strB;rw[ByteArray.toList_mk]
theorem strB_data(l:Lab):(strB l).data.toList=l:=by simp[strB]
theorem Cs.str{w:World}{A:Option Addr}{n:List Lab}(h:Cs w A (n.map strV)){i:Nat}(hi:i < n.length):
 ∃b off,A=some ⟨b,off,none⟩∧b < w.heap.size∧w.cell? ⟨b,off+i,none⟩=some (.string (strB n[i])):=by
 refine h i _ ?_;simp[strV,hi]
theorem Cs.drop'{w:World}{A:Option Addr}{us:List Value}(h:Cs w A us)(t cap:Nat)(hc:us.length≤cap):Cs w (if cap=t then A else A.map (fun x=>x.add t)) (us.drop t):=by
 intro i u hu;rw[List.getElem?_drop]at hu;have hlt:t+i < us.length:=by
  rcases Nat.lt_or_ge (t+i) us.length with h1|h1
  ·exact h1
  ·rw[List.getElem?_eq_none h1]at hu;cases hu
 obtain⟨b,off,e,hb,hcell⟩:=h _ _ hu;rw[if_neg (by omega),e];refine⟨b,off+t,by rw[Option.map_some,add_plain],hb, ?_⟩;rw[Nat.add_assoc];exact hcell
theorem Cs.take'{w:World}{A:Option Addr}{us:List Value}(h:Cs w A us)(t:Nat):Cs w A (us.take t):=by
 intro i u hu;rw[List.getElem?_take]at hu;split at hu
 ·exact h i u hu
 ·cases hu
theorem cs_new(w:World)(T:TypeId)(xs:List Value)(q:Nat×Nat):Cs (w.alloc (.cells xs.toArray T q)) (some ⟨w.heap.size,0,none⟩) xs:=by
 intro i u hu;refine⟨w.heap.size,0,rfl,by simp, ?_⟩;rw[Nat.zero_add,cell_of_row _ w.heap.size i _ T q (heap_alloc_new w _)];simpa using hu
theorem bytes_of(w:World)(l:Lab):∃(w':World) (cap:Nat) (cs:Array Value) (fr:Nat×Nat),(convert 9 37 (.string (strB l))).run prog w=.ok (.slice (some ⟨w.heap.size,0,none⟩) l.length cap) w'∧l.length≤cap∧
 Below w.heap.size w w'∧w.heap.size < w'.heap.size∧w'.heap[w.heap.size]? =some (.cells cs 5 fr)∧cs.toList.take l.length=l.map byteV∧l.length≤fr.1:=by
 have h:=run_bytes_of_string (P:=prog) w 9 37 5 (strB l) underlying9 underlying37 underlying5;rw[strB_size]at h;refine⟨_,_,_,_,h,grownCap_ge _ _ _ _, ?_,by simp,heap_alloc_new _ _, ?_, ?_⟩
 ·exact((Below.refl w.heap.size w).drew).alloc (Nat.le_refl _) _
 ·simp[bytesRow,byteV,strB]
 ·simp[bytesRow,strB_size]
theorem blk_cell{w:World}{g i:Nat}{cs:Array Value}{e:TypeId}{fr:Nat×Nat}{l:List UInt8}(h:w.heap[g]? =some (.cells cs e fr))(ht:cs.toList.take l.length=l.map byteV)(hi:i < l.length):
 w.cell? ⟨g,i,none⟩=some (.int .u8 (l[i].toNat)):=by
 rw[cell_of_row w g i cs e fr h];have h1:(cs.toList.take l.length)[i]? =(l.map byteV)[i]?:=by rw[ht]
 rw[List.getElem?_take,if_pos hi]at h1;simp[byteV,hi]at h1;exact h1
theorem blk_cs{w:World}{g:Nat}{cs:Array Value}{e:TypeId}{fr:Nat×Nat}{l:List UInt8}(h:w.heap[g]? =some (.cells cs e fr))(ht:cs.toList.take l.length=l.map byteV):Cs w (some ⟨g,0,none⟩) (l.map byteV):=by
 intro i u hu;have hi:i < l.length:=by
  rcases Nat.lt_or_ge i l.length with h1|h1
  ·exact h1
  ·rw[List.getElem?_eq_none (by simpa using h1)]at hu;cases hu
 refine⟨g,0,rfl,lt_block h, ?_⟩;rw[Nat.zero_add,blk_cell h ht hi];simpa[byteV,hi]using hu
theorem blk_frozen{w:World}{g i:Nat}{cs:Array Value}{e:TypeId}{fr:Nat×Nat}(h:w.heap[g]? =some (.cells cs e fr))(hi:i < fr.1):w.frozen? ⟨g,i,none⟩=false:=by
 obtain⟨lo,hi'⟩:=fr;simp only at hi;simp only[World.frozen?,h,Bool.and_eq_false_iff,decide_eq_false_iff_not];left;omega
theorem blk_set{w:World}{g i:Nat}{cs:Array Value}{e:TypeId}{fr:Nat×Nat}{l:List UInt8}(h:w.heap[g]? =some (.cells cs e fr))(ht:cs.toList.take l.length=l.map byteV)(c:UInt8):
 (w.setCell ⟨g,i,none⟩ (byteV c)).heap[g]? =some (.cells (cs.setIfInBounds i (byteV c)) e fr)∧(cs.setIfInBounds i (byteV c)).toList.take (l.set i c).length=(l.set i c).map byteV:=by
 constructor
 ·simp[World.setCell,Array.getElem?_modify,h]
 ·rw[Array.toList_setIfInBounds,List.length_set,List.take_set,ht,List.map_set]
theorem info_str:(prog.info? 9).map (fun i=>(i.zero,i.size,i.bytes))=some (some (.string ByteArray.empty),1,16):=by kernel_rfl
theorem info_u8:(prog.info? 5).map (fun i=>(i.zero,i.size,i.bytes))=some (some (.int .u8 0),1,1):=by kernel_rfl
theorem byteV_one(l:Lab):∀u∈l.map byteV,u.oneCell'=true:=by intro u hu;obtain⟨y,_,rfl⟩:=List.mem_map.1 hu;rfl
theorem wpList_text{ops:Array Oper}{rest:List Oper}{o:Oper}{a:Act}{Q:Exit→Act→World→Prop}{w:World}{B:Nat}{v:Value}{n:Nat}{xs:Lab}
 (hown:w.ownsRow B 5 1 v n (xs.map byteV)) (hB:B≤w.heap.size) (s:Lab) (hgd:o.guard=none) (sl x:Operand)
 (ho:o.op=.call {callee:=.builtin .append,args:= #[sl,x],argTypes:= #[37,9]}) (hs:a.eval sl=v) (hx:a.eval x=.string (strB s)) (hn:n+s.length≤1000000000)
 (h:∀v' w',w'.ownsRow B 5 1 v' (n+s.length) ((xs++s).map byteV)→Below B w w'→wpList prog ops Q rest (a.put o.dst v') w'):wpList prog ops Q (o::rest) a w:=by
 obtain⟨i0,hi,hz0,hz1,hz2⟩:=info_parts info_u8;refine Lib.wpList_append_own_string w hgd sl x 37 9 ho B 5 i0 underlying37 underlying9 hi hz0 hz1 hz2 v n _ hs hown (strB s) hx (by rw[strB_size];unfold maxLen;omega) (by rw[strB_size];omega) hB ?_;intro v' w' h1 h2 _;rw[strB_size]at h1;have e:xs.map byteV++Lib.strCells (strB s)=(xs++s).map byteV:=by
  rw[List.map_append];unfold Lib.strCells;simp[strB,byteV]
 rw[e]at h1;exact h v' w' h1 ((Below.refl _ _).grown h2 hB (fun k hk=>(hown.lt k hk).1))
theorem run_nothing{P:Program}{w:World}{B:Nat}{t ty e:TypeId}{i:TypeInfo}{size:Nat}(ht:P.underlying t=some (.slice e))(hi:P.info? e=some i){v:Value}{n:Nat}{xs:List Value}
 (hown:w.ownsRow B e size v n xs) (c:Nat):(Builtin.append_ #[t,t] ty #[v,.slice none 0 c]).run P w=.ok v w:=by
 rcases hown.2 with⟨rfl,_⟩|⟨g,cap,cur,rfl,_,_,hnc,_⟩
 ·simp[Builtin.append_,run_underlying ht,sizeOf,typeInfo,hi,Builtin.lenOf,Builtin.firstCells]
 ·simp[Builtin.append_,run_underlying ht,sizeOf,typeInfo,hi,Builtin.lenOf,Builtin.firstCells,hnc,storeCells]
theorem wpList_nothing{P:Program}{w:World}{ops:Array Oper}{rest:List Oper}{o:Oper}{a:Act}{Q:Exit→Act→World→Prop}(hgd:o.guard=none)(sl x:Operand)(t:TypeId)
 (ho:o.op=.call {callee:=.builtin .append,args:= #[sl,x],argTypes:= #[t,t]})
 {B:Nat} {e:TypeId} {i:TypeInfo} {size:Nat} (ht:P.underlying t=some (.slice e)) (hi:P.info? e=some i)
 {v:Value} {n:Nat} {xs:List Value} (hs:a.eval sl=v) (hown:w.ownsRow B e size v n xs) {c:Nat} (hx:a.eval x=.slice none 0 c)
 (h:wpList P ops Q rest (a.put o.dst v) w):wpList P ops Q (o::rest) a w:=by
 refine wpList_plain hgd fun K hK=> ?_;have hrun:=run_nothing (P:=P) (w:=w) (ty:=o.type) ht hi hown c;unfold Oper.wp execOp;simp only[ho,resolve,invoke,builtin,Sem.run_bind,Sem.run_pure,Result.andThen_ok,List.map_toArray,List.map_cons,List.map_nil,hs,hx,hrun];exact hK _ _ h
theorem wpList_bytes{ops:Array Oper}{rest:List Oper}{o:Oper}{a:Act}{Q:Exit→Act→World→Prop}{w:World}{B:Nat}{v:Value}{n:Nat}{xs:Lab}
 (hown:w.ownsRow B 5 1 v n (xs.map byteV)) (hB:B≤w.heap.size) {A:Option Addr} {s:Lab} {c:Nat} (hs2:Cs w A (s.map byteV)) (hgd:o.guard=none) (sl x:Operand) {t:TypeId} (ht:prog.underlying t=some (.slice 5))
 (ho:o.op=.call {callee:=.builtin .append,args:= #[sl,x],argTypes:= #[t,t]}) (hs:a.eval sl=v) (hx:a.eval x=.slice A s.length c) (hn:n+s.length≤1000000000)
 (h:∀v' w',w'.ownsRow B 5 1 v' (n+s.length) ((xs++s).map byteV)→Below B w w'→wpList prog ops Q rest (a.put o.dst v') w'):wpList prog ops Q (o::rest) a w:=by
 obtain⟨i0,hi,hz0,hz1,hz2⟩:=info_parts info_u8;cases A with
 |none=>
  have hsn:s=[]:=by simpa using hs2.none_nil
  subst hsn;refine wpList_nothing hgd sl x t ho ht hi hs hown hx ?_;refine h v w ?_ (Below.refl _ _);simpa using hown
 |some b=>
  refine wpList_append_own w hgd sl x t ho B 5 i0 _ 1 1 ht hi hz0 hz1 hz2 rfl (by decide) v n _ hs hown b s.length c (s.map byteV) hx (by simp) hs2.cells (byteV_one s) (by unfold maxLen;omega) (by omega) hB ?_;intro v' w' h1 h2 _;rw[←List.map_append]at h1;exact h v' w' h1 ((Below.refl _ _).grown h2 hB (fun k hk=>(hown.lt k hk).1))
structure Kept(S:Nat→Prop)(w w':World):Prop where
 os:w'.os=w.os
 tape:w'.tape=w.tape
 output:w'.output=w.output
 size:w.heap.size≤w'.heap.size
 block:∀k,k < w.heap.size→¬S k→w'.heap[k]? =w.heap[k]?
section
variable {S:Nat→Prop} {w w':World}
theorem Kept.refl(S:Nat→Prop)(w:World):Kept S w w:=⟨rfl,rfl,rfl,Nat.le_refl _,fun _ _ _=>rfl⟩
theorem Kept.mono{S':Nat→Prop}(h:Kept S w w')(hs:∀k,k < w.heap.size→S k→S' k):Kept S' w w':=⟨h.os,h.tape,h.output,h.size,fun k hk hn=>h.block k hk (fun hS=>hn (hs k hk hS))⟩
theorem Kept.trans{w'':World}(h:Kept S w w')(k:Kept S w' w''):Kept S w w'':=
 ⟨k.os.trans h.os,k.tape.trans h.tape,k.output.trans h.output,Nat.le_trans h.size k.size,fun i hi hn=>(k.block i (Nat.lt_of_lt_of_le hi h.size) hn).trans (h.block i hi hn)⟩
theorem Kept.then{S':Nat→Prop}{w'':World}(h:Kept S w w')(k:Kept S' w' w'')(hs:∀i,i < w.heap.size→S' i→S i):Kept S w w'':=
 ⟨k.os.trans h.os,k.tape.trans h.tape,k.output.trans h.output,Nat.le_trans h.size k.size,fun i hi hn=>(k.block i (Nat.lt_of_lt_of_le hi h.size) (fun hS=>hn (hs i hi hS))).trans (h.block i hi hn)⟩
theorem Kept.of_below{B:Nat}(h:Below B w w'):Kept (fun k=>B≤k) w w':=⟨h.os,h.tape,h.output,h.size,fun k _ hn=>h.block k (by omega)⟩
theorem Kept.of_ext(h:Below w.heap.size w w'):Kept (fun _=>False) w w':=⟨h.os,h.tape,h.output,h.size,fun k hk _=>h.block k hk⟩
theorem Kept.below{B:Nat}(h:Kept S w w')(hB:B≤w.heap.size)(hS:∀k,k < B→¬S k):Below B w w':=⟨h.os,h.tape,h.output,h.size,fun k hk=>h.block k (by omega) (hS k hk)⟩
theorem Kept.ext(h:Kept (fun _=>False) w w'):Below w.heap.size w w':=h.below (Nat.le_refl _) (fun _ _ h=>h)
theorem Kept.of_grown{row:Option Nat}(h:w.grownBy w' row):Kept (fun k=>some k=row) w w':=⟨h.os,h.tape,h.output,h.size,fun k hk hn=>h.block k hk hn⟩
theorem Kept.alloc(h:Kept S w w')(o:Obj):Kept S w (w'.alloc o):=
 h.trans ⟨rfl,rfl,rfl,by simp,fun k hk _=>Below.heap_alloc _ _ _ hk⟩
theorem Kept.drew(h:Kept S w w'):Kept S w w'.drew:=⟨h.os,h.tape,h.output,h.size,h.block⟩
theorem Kept.drewN(h:Kept S w w')(n:Nat):Kept S w (w'.drewN n):=⟨h.os,h.tape,h.output,h.size,h.block⟩
theorem Kept.setCell(h:Kept S w w'){p:Addr}(hp:p.block < w.heap.size→S p.block)(u:Value):Kept S w (w'.setCell p u):=
 ⟨h.os,h.tape,h.output,by simpa[World.setCell]using h.size,fun k hk hn=>(Below.heap_setCell _ _ _ _ (fun e=>by subst e;exact hn (hp hk))).trans (h.block k hk hn)⟩
theorem Kept.cell(h:Kept S w w'){b o:Nat}(hb:b < w.heap.size)(hn:¬S b):w'.cell? ⟨b,o,none⟩=w.cell? ⟨b,o,none⟩:=World.cell?_of_block (a:=⟨b,o,none⟩) (h.block b hb hn)
theorem Kept.frozen(h:Kept S w w'){b o:Nat}(hb:b < w.heap.size)(hn:¬S b):w'.frozen? ⟨b,o,none⟩=w.frozen? ⟨b,o,none⟩:=World.frozen?_of_block (a:=⟨b,o,none⟩) (h.block b hb hn)
theorem Kept.row{B:Nat}{e:TypeId}{size:Nat}{v:Value}{n:Nat}{xs:List Value}(hr:w.ownsRow B e size v n xs)(h:Kept S w w')(hn:∀k,v.ownBlock=some k→¬S k):w'.ownsRow B e size v n xs:=by
 refine⟨hr.1, ?_⟩;rcases hr.2 with hn'|⟨g,cap,cur,rfl,hg,hh,rest⟩
 ·exact .inl hn'
 ·refine .inr ⟨g,cap,cur,rfl,hg, ?_,rest⟩;rw[h.block g (lt_block hh) (hn g rfl)];exact hh
theorem Kept.cs{A:Option Addr}{xs:List Value}(hc:Cs w A xs)(h:Kept S w w')(hn:∀a,A=some a→xs≠[]→¬S a.block):Cs w' A xs:=by
 intro i u hu;obtain⟨b,off,e,hlt,hcell⟩:=hc i u hu;exact⟨b,off,e,Nat.lt_of_lt_of_le hlt h.size,(h.cell hlt (hn _ e (fun hx=>by subst hx;simp at hu))).trans hcell⟩
theorem Cs.where{A:Option Addr}{xs:List Value}(hc:Cs w A xs){a:Addr}(ha:A=some a)(hx:xs≠[]):a.block < w.heap.size:=by
 cases xs with
 |nil=>exact absurd rfl hx
 |cons x xs=>
  obtain⟨b,off,e,hlt,_⟩:=hc 0 x rfl;rw[ha]at e;cases e;exact hlt
end
theorem own_base{w:World}{B B':Nat}{e:TypeId}{size:Nat}{v:Value}{n:Nat}{xs:List Value}(h:w.ownsRow B e size v n xs)(hB:B'≤B):w.ownsRow B' e size v n xs:=
 ⟨h.1,by
  rcases h.2 with h|⟨g,c,cur,h1,h2,h3⟩
  ·exact .inl h
  ·exact .inr ⟨g,c,cur,h1,Nat.le_trans hB h2,h3⟩⟩
theorem bcl{B:Nat}{w w':World}(hb:Below B w w'){b o:Nat}(h:b < B):w'.cell? ⟨b,o,none⟩=w.cell? ⟨b,o,none⟩:=hb.cell (p:=⟨b,o,none⟩) h
theorem bfr{B:Nat}{w w':World}(hb:Below B w w'){b o:Nat}(h:b < B):w'.frozen? ⟨b,o,none⟩=w.frozen? ⟨b,o,none⟩:=hb.frozen (p:=⟨b,o,none⟩) h
theorem setc_same{w:World}{b o:Nat}{v u:Value}(h:w.cell? ⟨b,o,none⟩=some u):(w.setCell ⟨b,o,none⟩ v).cell? ⟨b,o,none⟩=some v:=World.cell?_setCell_same w _ v h
theorem setc_far{w:World}{b o c k:Nat}{v:Value}(h:b≠c):(w.setCell ⟨b,o,none⟩ v).cell? ⟨c,k,none⟩=w.cell? ⟨c,k,none⟩:=World.cell?_setCell_far w ⟨b,o,none⟩ ⟨c,k,none⟩ v h
theorem alloc_cell{w:World}{p:Addr}{v:Value}(o:Obj)(h:w.cell? p=some v):(w.alloc o).cell? p=some v:=by rw[World.cell?_alloc_some w p o (by rw[h];rfl)];exact h
theorem setc_frozen{w:World}{p q:Addr}{v:Value}:(w.setCell p v).frozen? q=w.frozen? q:=World.frozen?_setCell _ _ _ _
structure Moved(v:Value)(w:World)(v':Value)(w':World):Prop where
 kept:Kept (fun b=>some b=v.ownBlock) w w'
 at_:∀b,v'.ownBlock=some b→v.ownBlock=some b∨w.heap.size≤b
theorem Moved.refl(v:Value)(w:World):Moved v w v w:=⟨Kept.refl _ _,fun _ h=>.inl h⟩
theorem Moved.trans{v v' v'':Value}{w w' w'':World}(h:Moved v w v' w')(k:Moved v' w' v'' w''):Moved v w v'' w'':=
 ⟨h.kept.then k.kept (fun i hi hs=>by rcases h.at_ i hs.symm with h1|h1;exact h1.symm;omega),fun b hb=>by
  rcases k.at_ b hb with h1|h1
  ·exact h.at_ b h1
  ·exact .inr (Nat.le_trans h.kept.size h1)⟩
theorem Moved.after{v v':Value}{w w' w'':World}(h:Moved v w v' w')(k:Below w'.heap.size w' w''):Moved v w v' w'':=⟨h.kept.then (Kept.of_ext k) (fun _ _ h=>h.elim),h.at_⟩
theorem Moved.before{v v':Value}{w0 w w':World}(k:Below w0.heap.size w0 w)(h:Moved v w v' w'):Moved v w0 v' w':=
 ⟨((Kept.of_ext k).mono (fun _ _ h=>h.elim)).trans h.kept,fun b hb=>by rcases h.at_ b hb with h1|h1;exact .inl h1;exact .inr (Nat.le_trans k.size h1)⟩
theorem Moved.below{v v':Value}{w w':World}{B:Nat}{e:TypeId}{size n:Nat}{xs:List Value}(h:Moved v w v' w')(hown:w.ownsRow B e size v n xs)(hB:B≤w.heap.size):Below B w w':=
 h.kept.below hB (fun k hk hs=>by have:=(hown.lt k hs.symm).1;omega)
theorem wpList_push3{P:Program}{ops:Array Oper}{rest:List Oper}{o:Oper}{a:Act}{Q:Exit→Act→World→Prop}
 {w:World} {B:Nat} {v:Value} {n:Nat} {xs:List Value} {e:TypeId} {size:Nat} (hown:w.ownsRow B e size v n xs) (hB:B≤w.heap.size)
 (us:List Value) (hus:us.length=size) (h1:∀u∈us,u.oneCell'=true)
 {i:TypeInfo} {z:Value} {bytes:Nat} (hi:P.info? e=some i) (hz:i.zero=some z)
 (hsize:i.size=size) (hby:i.bytes=bytes) (hzs:z.cells.size=size) (hsz:0 < size)
 (hgd:o.guard=none) (s x:Operand) (t:TypeId) (ht:P.underlying t=some (.slice e))
 (ho:o.op=.call {callee:=.builtin .append,args:= #[s,x],argTypes:= #[t,t]})
 (hs:a.eval s=v) (hx:a.eval x=.slice (some ⟨w.heap.size,0,none⟩) 1 1)
 (h63:n+1≤maxLen) (hbytes:(n+1) *bytes≤140737488355328)
 (h:∀v' w',w'.ownsRow B e size v' (n+1) (xs++us)→Moved v w v' w'→wpList P ops Q rest (a.put o.dst v') w'):
 wpList P ops Q (o::rest) a (w.alloc (.cells us.toArray e)):=by
 refine wpList_append_own_at _ hgd s x t ho B e i z size bytes ht hi hz hsize hby hzs hsz v n xs hs (hown.alloc _) ⟨w.heap.size,0,none⟩ 1 1 us hx (by omega) ?_ h1 h63 hbytes
  (by simp;omega) ?_
 ·intro j u hu;have hadd:(⟨w.heap.size,0,none⟩:Addr).add j=⟨w.heap.size,j,none⟩:=by unfold Addr.add;split <;> simp_all
  rw[hadd,cell_of_row _ _ j us.toArray e (0,0) (heap_alloc_new w _)];simpa using hu
 ·intro v' w' h2 h3 _ hat;refine h v' w' h2 ⟨((Kept.refl _ _).alloc _).trans (Kept.of_grown h3),fun b hb=> ?_⟩;rcases hat with hat|hat
  ·exact .inl (hat▸hb)
  ·rw[hat]at hb;cases hb;exact .inr (by simp)
end Go.Proofs.YtmbdoacafhljkaaGreat
namespace Go.Proofs.YtmbdoacafhljkaaGreat
open Go.RowKit
structure Fact where
 p:Value→World→Prop
 st:∀v W W',Ext W W'→p v W→p v W'
def Fact.is(u:Value):Fact:=⟨fun v _=>v=u,fun _ _ _ _ h=>h⟩
def Fact.any:Fact:=⟨fun _ _=>True,fun _ _ _ _ h=>h⟩
def Fact.own(B:Nat)(e:TypeId)(size:Nat)(n:Nat)(xs:List Value):Fact:=⟨fun v W=>W.ownsRow B e size v n xs,fun _ _ _ hE h=>own_below h hE⟩
def Fact.tup3(f g h:Fact):Fact:=⟨fun v W=>∃a b c,v=.tuple #[a,b,c]∧f.p a W∧g.p b W∧h.p c W,fun _ _ _ hE ⟨a,b,c,h1,h2,h3,h4⟩=>⟨a,b,c,h1,f.st _ _ _ hE h2,g.st _ _ _ hE h3,h.st _ _ _ hE h4⟩⟩
def factAt(fs:List Fact)(j:Nat):Fact:=fs.getD j Fact.any
def facts(W:World)(vals:Nat→Value):List Fact→Nat→Prop
 |[],_=>True
 |f::fs,k=>f.p (vals k) W∧facts W vals fs (k+1)
theorem facts_of{W:World}{vals:Nat→Value}:∀(fs gs:List Fact) (k:Nat),(∀j,j < fs.length→(fs.getD j Fact.any).p (vals (k+j)) W)→facts W vals fs k
 |[],_,_,_=>trivial
 |f::fs,gs,k,h=>⟨by simpa using h 0 (by simp),facts_of fs gs (k+1) (fun j hj=>by have:=h (j+1) (by simp;omega);simpa[Nat.add_assoc,Nat.add_comm 1 j]using this)⟩
theorem Fact.tup3_mk{f g h:Fact}{a b c:Value}{W:World}(h2:f.p a W)(h3:g.p b W)(h4:h.p c W):(Fact.tup3 f g h).p (.tuple #[a,b,c]) W:=⟨a,b,c,rfl,h2,h3,h4⟩
theorem tup3_p(f g h:Fact)(v:Value)(W:World):(Fact.tup3 f g h).p v W=∃a b c,v=.tuple #[a,b,c]∧f.p a W∧g.p b W∧h.p c W:=rfl
@[simp] theorem is_p(u v:Value)(W:World):(Fact.is u).p v W=(v=u):=rfl
@[simp] theorem any_p(v:Value)(W:World):Fact.any.p v W=True:=rfl
@[simp] theorem own_p(B:Nat)(e:TypeId)(size:Nat)(n:Nat)(xs:List Value)(v:Value)(W:World):(Fact.own B e size n xs).p v W=W.ownsRow B e size v n xs:=rfl
theorem wp_region_mono{P:Program}{ops:Array Oper}{id:Nat}{Q:Exit→Act→World→Prop}{a0:Act}{w0:World}(hm:P.follows .mixedOrders=true)(hB:relB ops=true)(fs:List Fact)(hf:fs.length=ops.size)
 (step:∀i o,ops[i]? =some o→∀vals W,Ext w0 W→(∀e∈o.after,bindD e=true→(factAt fs e.on).p (vals e.on) W)→
   opYield P ops o (relAct ops a0 (fun _=>true) vals i) W (fun v W'=>Ext W W'∧(factAt fs i).p v W'))
 (hend:∀vals W,Ext w0 W→facts W vals fs 0→Q .normal (relAct ops a0 (fun _=>true) vals ops.size) W):
 (Code.region id ops true).wp P Q a0 w0:=by
 refine wp_region_rel hm hB (fun _ _=>false) ?_ (fun _ W W'=>Ext W W') (fun W=>Ext w0 W) (fun i v W=>(factAt fs i).p v W) ?_ ?_ ?_ ?_ ?_
 ·simp[killsB]
 ·exact⟨rfl,rfl,rfl,Nat.le_refl _,fun _ _=>rfl⟩
 ·intro i W W' h1 h2;exact h1.trans h2
 ·intro i j v W W' _ _ _ _ h1 h2;exact(factAt fs j).st _ _ _ h2 h1
 ·intro i o ho vals W hE h;exact step i o ho vals W hE h
 ·intro vals W hE h;refine hend vals W hE (facts_of fs [] 0 fun j hj=> ?_);rw[Nat.zero_add];exact h j (by omega) (fun _ _=>rfl)
def Fact.plain(f:Fact):Prop:=∀v W W',f.p v W→f.p v W'
theorem plain_is(u:Value):(Fact.is u).plain:=fun _ _ _ h=>h
theorem plain_any:Fact.any.plain:=fun _ _ _ h=>h
def killG(ops:Array Oper)(kd fk:Nat→Nat)(i j:Nat):Bool:=i !=j&& !waitsB ops j i&&((kd i==1&&decide (2≤fk j))||(decide (2≤kd i)&&(fk j==1||decide (3≤fk j))))
def keepB(ops:Array Oper)(kd fk:Nat→Nat)(j:Nat):Bool:=(List.range ops.size).all fun i=> !killG ops kd fk i j
def Fact.old(N B:Nat)(e:TypeId)(size:Nat)(n:Nat)(xs:List Value):Fact:=⟨fun v W=>W.ownsRow B e size v n xs∧∀k,v.ownBlock=some k→k < N,fun _ _ _ hE h=>⟨own_below h.1 hE,h.2⟩⟩
def kindT(B N:Nat):Nat→World→World→Prop
 |0,W,W'=>Ext W W'
 |1,W,W'=>Kept (fun b=>B≤b∧b < N) W W'
 |_,W,W'=>Below N W W'
def kindF(N:Nat):Nat→Fact→Prop
 |0,f=>f.plain
 |1,f=>∀v W W',Kept (fun b=>b < N) W W'→f.p v W→f.p v W'
 |2,f=>∀v W W',Below N W W'→f.p v W→f.p v W'
 |_,_=>True
theorem kind_own(N B:Nat)(e:TypeId)(size:Nat)(n:Nat)(xs:List Value)(hB:N≤B):kindF N 1 (Fact.own B e size n xs):=fun v W W' hk h=>Kept.row h hk (fun k hk2=>by have:=(h.lt k hk2).1;omega)
def Fact.row(u:Value)(B:Nat)(e:TypeId)(size:Nat)(n:Nat)(xs:List Value):Fact:=⟨fun v W=>v=u∧W.ownsRow B e size u n xs,fun _ _ _ hE h=>⟨h.1,own_below h.2 hE⟩⟩
theorem kind_is(N:Nat)(u:Value):kindF N 0 (Fact.is u):=plain_is u
theorem kind_any(N:Nat):kindF N 0 Fact.any:=plain_any
theorem wp_region_gen0{P:Program}{ops:Array Oper}{id:Nat}{Q:Exit→Act→World→Prop}{a0:Act}{w0:World}(hm:P.follows .mixedOrders=true)(hB:relB ops=true)(B:Nat)(hBs:B≤w0.heap.size)(fs:List Fact)
 (kd fk:Nat→Nat) (hk:killsB ops (killG ops kd fk)=true) (hf:∀j,kindF w0.heap.size (fk j) (factAt fs j))
 (I0:World→Prop) (hI0:I0 w0.drew) (hI1:∀W W',Ext W W'→I0 W→I0 W') (hI2:∀W W',Below w0.heap.size W W'→I0 W→I0 W')
 (step:∀i o,ops[i]? =some o→∀vals W,Below B w0 W→(∀e∈o.after,bindD e=true→(factAt fs e.on).p (vals e.on) W)→((∀k,k < ops.size→(kd k==1)=true→k=i∨waitsB ops k i=true)→I0 W)→
   opYield P ops o (relAct ops a0 (fun _=>true) vals i) W (fun v W'=>kindT B w0.heap.size (kd i) W W'∧(factAt fs i).p v W'))
 (hend:∀vals W,Below B w0 W→(∀j,j < ops.size→keepB ops kd fk j=true→(factAt fs j).p (vals j) W)→Q .normal (relAct ops a0 (fun _=>true) vals ops.size) W):
 (Code.region id ops true).wp P Q a0 w0:=by
 refine wp_region_rel0 hm hB (killG ops kd fk) hk (fun i W W'=>kindT B w0.heap.size (kd i) W W') (fun W=>Below B w0 W) (fun i v W=>(factAt fs i).p v W) I0 (fun i=>kd i==1) hI0 ?_ ?_ ?_ ?_ ?_ ?_
 ·intro i W W' hk0 hC h1 h2;generalize kd i=c at *
  match c,h2 with
  |0,h2=>exact hI1 _ _ h2 h1
  |1,_=>cases hk0
  |c+2,h2=>exact hI2 _ _ h2 h1
 ·exact⟨rfl,rfl,rfl,Nat.le_refl _,fun _ _=>rfl⟩
 ·intro i W W' h1 h2;refine h1.trans ?_;have hs:=h1.size;generalize kd i=c at *
  match c,h2 with
  |0,h2=>exact Below.mono h2 (by omega)
  |1,h2=>exact Kept.below h2 (by omega) (fun k hk h=>by omega)
  |c+2,h2=>exact Below.mono h2 hBs
 ·intro i j v W W' hij hki hwt hC h1 h2;have hs:=hC.size;have hfj:=hf j;unfold killG at hki;rw[hwt]at hki;generalize kd i=c at *;generalize fk j=d at *;generalize factAt fs j=f at *
  match c,h2 with
  |0,h2=>exact f.st _ _ _ h2 h1
  |1,h2=>
   match d,hfj with
   |0,hfj=>exact hfj _ _ _ h1
   |1,hfj=>exact hfj _ _ _ (Kept.mono h2 (fun k _ h=>h.2)) h1
   |d+2,_=>simp[hij]at hki
  |c+2,h2=>
   match d,hfj with
   |0,hfj=>exact hfj _ _ _ h1
   |1,_=>simp[hij]at hki
   |2,hfj=>exact hfj _ _ _ h2 h1
   |d+3,_=>simp[hij]at hki
 ·intro i o ho vals W hE h hI;exact step i o ho vals W hE h hI
 ·intro vals W hE h;refine hend vals W hE fun j hj hkj=>h j hj fun i hi=> ?_;have:=List.all_eq_true.1 hkj i (List.mem_range.2 hi);simpa only[Bool.not_eq_true']using this
theorem wp_region_gen{P:Program}{ops:Array Oper}{id:Nat}{Q:Exit→Act→World→Prop}{a0:Act}{w0:World}(hm:P.follows .mixedOrders=true)(hB:relB ops=true)(B:Nat)(hBs:B≤w0.heap.size)(fs:List Fact)
 (kd fk:Nat→Nat) (hk:killsB ops (killG ops kd fk)=true) (hf:∀j,kindF w0.heap.size (fk j) (factAt fs j))
 (step:∀i o,ops[i]? =some o→∀vals W,Below B w0 W→(∀e∈o.after,bindD e=true→(factAt fs e.on).p (vals e.on) W)→
   opYield P ops o (relAct ops a0 (fun _=>true) vals i) W (fun v W'=>kindT B w0.heap.size (kd i) W W'∧(factAt fs i).p v W'))
 (hend:∀vals W,Below B w0 W→(∀j,j < ops.size→keepB ops kd fk j=true→(factAt fs j).p (vals j) W)→Q .normal (relAct ops a0 (fun _=>true) vals ops.size) W):
 (Code.region id ops true).wp P Q a0 w0:=by
 refine wp_region_rel hm hB (killG ops kd fk) hk (fun i W W'=>kindT B w0.heap.size (kd i) W W') (fun W=>Below B w0 W) (fun i v W=>(factAt fs i).p v W) ?_ ?_ ?_ ?_ ?_
 ·exact⟨rfl,rfl,rfl,Nat.le_refl _,fun _ _=>rfl⟩
 ·intro i W W' h1 h2;refine h1.trans ?_;have hs:=h1.size;generalize kd i=c at *
  match c,h2 with
  |0,h2=>exact Below.mono h2 (by omega)
  |1,h2=>exact Kept.below h2 (by omega) (fun k hk h=>by omega)
  |c+2,h2=>exact Below.mono h2 hBs
 ·intro i j v W W' hij hki hwt hC h1 h2;have hs:=hC.size;have hfj:=hf j;unfold killG at hki;rw[hwt]at hki;generalize kd i=c at *;generalize fk j=d at *;generalize factAt fs j=f at *
  match c,h2 with
  |0,h2=>exact f.st _ _ _ h2 h1
  |1,h2=>
   match d,hfj with
   |0,hfj=>exact hfj _ _ _ h1
   |1,hfj=>exact hfj _ _ _ (Kept.mono h2 (fun k _ h=>h.2)) h1
   |d+2,_=>simp[hij]at hki
  |c+2,h2=>
   match d,hfj with
   |0,hfj=>exact hfj _ _ _ h1
   |1,_=>simp[hij]at hki
   |2,hfj=>exact hfj _ _ _ h2 h1
   |d+3,_=>simp[hij]at hki
 ·intro i o ho vals W hE h;exact step i o ho vals W hE h
 ·intro vals W hE h;refine hend vals W hE fun j hj hkj=>h j hj fun i hi=> ?_;have:=List.all_eq_true.1 hkj i (List.mem_range.2 hi);simpa only[Bool.not_eq_true']using this
namespace Nm
def lowB(c:UInt8):UInt8:=if 65≤c.toNat∧c.toNat≤90 then c+32 else c
def low(l:Lab):Lab:=l.map lowB
def lower(n:List Lab):List Lab:=n.map low
def wire1(l:Lab):List UInt8:=UInt8.ofNat l.length::l
def wires(n:List Lab):List UInt8:=n.flatMap wire1
def wire(n:List Lab):List UInt8:=wires n++[0]
theorem low_len(l:Lab):(low l).length=l.length:=by simp[low]
theorem lower_len(n:List Lab):(lower n).length=n.length:=by simp[lower]
theorem lowB_idem(c:UInt8):lowB (lowB c)=lowB c:=by
 unfold lowB;by_cases h:65≤c.toNat∧c.toNat≤90
 ·rw[if_pos h,if_neg];rw[UInt8.toNat_add];have:(32:UInt8).toNat=32:=rfl;omega
 ·rw[if_neg h,if_neg h]
theorem low_idem(l:Lab):low (low l)=low l:=by unfold low;rw[List.map_map];congr 1;funext c;exact lowB_idem c
theorem lower_idem(n:List Lab):lower (lower n)=lower n:=by unfold lower;rw[List.map_map];congr 1;funext c;exact low_idem c
def half(l:Lab)(k:Nat):Lab:=(l.take k).map lowB++l.drop k
theorem half_len(l:Lab)(k:Nat):(half l k).length=l.length:=by simp[half];omega
theorem half_zero(l:Lab):half l 0=l:=by simp[half]
theorem half_all(l:Lab):half l l.length=low l:=by simp[half,low]
theorem half_at{l:Lab}{k:Nat}(h:k < l.length)(h2:k < (half l k).length):(half l k)[k]=l[k]:=by
 have e:(half l k)[k]? =l[k]?:=by
  unfold half;rw[List.getElem?_append_right (by simp;omega),List.length_map,List.length_take,Nat.min_eq_left (by omega),Nat.sub_self,List.getElem?_drop,Nat.add_zero]
 rw[List.getElem?_eq_getElem h2,List.getElem?_eq_getElem h]at e;exact Option.some.inj e
theorem half_set{l:Lab}{k:Nat}(h:k < l.length)(c:UInt8)(hc:c=lowB l[k]):(half l k).set k c=half l (k+1):=by
 unfold half;rw[List.set_append_right _ _ (by simp;omega)];rw[List.take_succ_eq_append_getElem h,List.map_append,List.append_assoc];congr 1;rw[List.length_map,List.length_take,Nat.min_eq_left (by omega),Nat.sub_self,List.drop_eq_getElem_cons h,List.set_cons_zero,hc];rfl
theorem half_keep{l:Lab}{k:Nat}(h:k < l.length)(hc:lowB l[k]=l[k]):half l k=half l (k+1):=by
 rw[←half_set h _ rfl,hc];have h2:k < (half l k).length:=by rw[half_len];exact h
 conv=>lhs;rw[←List.set_getElem_self h2]
 rw[half_at h]
def SmallR(l:Lab)(w:World)(fr:Nat×Nat)(i:Value)(wr:World):Prop:=
 ∃(k:Nat) (cs:Array Value),k≤l.length∧i=.int .i64 k∧wr.heap[w.heap.size]? =some (.cells cs 5 fr)∧cs.toList.take l.length=(half l k).map byteV∧Below w.heap.size w wr
theorem small(l:Lab)(w:World)(hl:l.length≤1000000):Calls prog 107 #[.string (strB l)] w fun e w'=>e=.returned (.string (strB (low l)))∧Below w.heap.size w w':=by
 obtain⟨w1,cap,cs,fr,hrun,hcap,hb1,hs1,hblk,htake,hfr⟩:=bytes_of w l;go_enter func107,ntmps107;go_wp2_with fail;have HB:=hid hblk;have HT:=hid htake;clear hblk htake hrun
 go_loopw [10] (SmallR l w fr) (fun i _=>l.length - (intOf i).toNat)
 case atStart=>exact⟨0,cs,Nat.zero_le _,rfl,HB.out,by rw[half_zero];exact HT.out,hb1⟩
 case round=>
  obtain⟨k,cs,hk,rfl,hblk,htake,hbw⟩:=hrel;have HB:=hid hblk;have HT:=hid htake;have ht2:cs.toList.take (half l k).length=(half l k).map byteV:=by rw[half_len];exact htake
  by_cases hlt:k < l.length
  ·have hk2:k < (half l k).length:=by rw[half_len];exact hlt
   have hc:=blk_cell hblk ht2 hk2;rw[half_at hlt]at hc;have hz:=blk_frozen (i:=k) hblk (by omega);clear hblk htake;generalize hce:l[k]=c at *;have HCE:=hid hce;have HT2:=hid ht2;clear hce ht2;by_cases hu:65≤c.toNat∧c.toNat≤90
   ·obtain⟨hu1,hu2⟩:=hu;have hset:=blk_set (i:=k) HB.out HT2.out (lowB c);rw[half_set hlt (lowB c) (by rw[HCE.out])]at hset;have hbl:byteV (lowB c)=.int .u8 ((c.toNat:Int)+32):=by
     unfold byteV lowB;rw[if_pos ⟨hu1,hu2⟩,UInt8.toNat_add];have:(32:UInt8).toNat=32:=rfl;congr 1;omega
    rw[hbl]at hset;have HS:=hid hset;clear hset hbl;have hu1':(65:Int)≤(c.toNat:Int):=by omega
    have hu2':(c.toNat:Int)≤90:=by omega
    go_wp2_with fail;refine⟨⟨k+1,cs.setIfInBounds k (.int .u8 ((c.toNat:Int)+32)),by omega,by go_num, ?_, ?_,hbw.setCell (Nat.le_refl _) _⟩,by simp[intOf];omega⟩
    ·have e:(c.toNat:Int)+97 - 65=(c.toNat:Int)+32:=by omega
     rw[e];exact HS.out.1
    ·have:=HS.out.2;rw[half_len]at this;exact this
   ·have hkeep:=half_keep hlt (by rw[HCE.out];unfold lowB;rw[if_neg hu]);have HK:=hid hkeep;have hc256:c.toNat < 256:=UInt8.toNat_lt c;clear hkeep;by_cases h1:65≤c.toNat
    ·have hu1':(65:Int)≤(c.toNat:Int):=by omega
     have hu2':(90:Int) < (c.toNat:Int):=by omega
     clear hu;go_wp2_with fail;exact⟨⟨k+1,cs,by omega,by go_num,HB.out,by rw[←HK.out];exact HT.out,hbw⟩,by simp[intOf];omega⟩
    ·have hu1':(c.toNat:Int) < 65:=by omega
     clear hu h1;go_wp2_with fail;exact⟨⟨k+1,cs,by omega,by go_num,HB.out,by rw[←HK.out];exact HT.out,hbw⟩,by simp[intOf];omega⟩
  ·have hkl:k=l.length:=by omega
   subst hkl;have hcs:=blk_cs hblk ht2;rw[half_all]at hcs;have hcv:=run_str (P:=prog) wr underlying37 underlying5 underlying9 cap hcs;rw[low_len]at hcv;clear hblk htake ht2 hcs;go_wp2_with fail;go_ret;exact⟨rfl,hbw⟩
def Few(n:List Lab):Prop:=n.length≤100000∧∀l∈n,l.length≤100000
theorem Few.lower{n:List Lab}(h:Few n):Few (lower n):=by
 refine⟨by rw[lower_len];exact h.1, ?_⟩;intro l hl;obtain⟨x,hx,rfl⟩:=List.mem_map.1 hl;rw[low_len];exact h.2 x hx
theorem Few.drop{n:List Lab}(h:Few n)(k:Nat):Few (n.drop k):=⟨by rw[List.length_drop];have:=h.1;omega,fun l hl=>h.2 l (List.mem_of_mem_drop hl)⟩
def LowerR(n:List Lab)(w:World)(v i:Value)(wr:World):Prop:=
 ∃k:Nat,k≤n.length∧i=.int .i64 k∧wr.ownsRow w.heap.size 9 1 v k ((lower (n.take k)).map strV)∧Below w.heap.size w wr
theorem Lower(A:Option Addr)(n:List Lab)(cap:Nat)(w:World)(hc:Cs w A (n.map strV))(hf:Few n):
 Calls prog 51 #[.slice A n.length cap] w fun e w'=>∃v,e=.returned v∧w'.ownsRow w.heap.size 9 1 v n.length ((lower n).map strV)∧Below w.heap.size w w':=by
 obtain⟨i0,hi,hz0,hz1,hz2⟩:=info_parts info_str;have hlen:=hf.1;have HF:=hid hf;clear hf;go_enter func51,ntmps51;go_wp2_with fail
 go_loopw [3,8] (LowerR n w) (fun _ i _=>n.length - (intOf i).toNat)
 case atStart=>exact⟨0,Nat.zero_le _,rfl,World.ownsRow_nil _ _ _ _,Below.refl _ _⟩
 case round=>
  obtain⟨k,hk,rfl,hown,hbel⟩:=hrel;by_cases hlt:k < n.length
  ·obtain⟨bk,off,rfl,hbl,hc0⟩:=Cs.str hc hlt;have hc1:=(hbel.cell (p:=⟨bk,off+k,none⟩) hbl).trans hc0;have hl6:n[k].length≤1000000:=by have:=HF.out.2 n[k] (List.getElem_mem hlt);omega
   have HN:Hid ((lower (n.take (k+1))).map strV=(lower (n.take k)).map strV++[strV (low n[k])]):=by
    show _=_;unfold lower;rw[List.take_succ_eq_append_getElem hlt,List.map_append,List.map_append];rfl
   generalize n[k]=l at *;go_wp2_with fail;refine(small l _ hl6).mono ?_;rintro e w2 ⟨rfl,hb2⟩;have hown2:=own_below hown hb2;have hbel2:=hbel.trans (hb2.mono hbel.size)
   go_wp2_with (first|(at_builtin;refine wpList_push2 hown2 hbel2.size [strV (low l)] rfl (by simp[strV,Value.oneCell']) hi hz0 hz1 hz2 rfl (by decide) rfl _ _ 28 underlying28 rfl rfl rfl (by unfold maxLen;omega) (by omega) ?_;intro v4 w4 hown4 hbw4;have hbw5:=hbel2.trans hbw4))
   exact⟨⟨k+1,by omega,by go_num,by rw[HN.out];exact hown4,hbw5⟩,by simp[intOf];omega⟩
  ·have hkl:k=n.length:=by omega
   rw[hkl,List.take_length]at hown;clear hkl;go_wp2_with fail;go_ret;exact⟨_,rfl,hown,hbel⟩
theorem wires_take{n:List Lab}{k:Nat}(h:k < n.length):wires (n.take (k+1))=wires (n.take k)++([UInt8.ofNat n[k].length]++n[k]):=by
 unfold wires;rw[List.take_succ_eq_append_getElem h,List.flatMap_append];simp[wire1]
def Small(n:List Lab):Prop:=n.length≤1000∧∀l∈n,l.length≤1000
theorem Small.few{n:List Lab}(h:Small n):Few n:=⟨by have:=h.1;omega,fun l hl=>by have:=h.2 l hl;omega⟩
theorem Small.lower{n:List Lab}(h:Small n):Small (lower n):=by
 refine⟨by rw[lower_len];exact h.1, ?_⟩;intro l hl;obtain⟨x,hx,rfl⟩:=List.mem_map.1 hl;rw[low_len];exact h.2 x hx
theorem Small.drop{n:List Lab}(h:Small n)(k:Nat):Small (n.drop k):=⟨by rw[List.length_drop];have:=h.1;omega,fun l hl=>h.2 l (List.mem_of_mem_drop hl)⟩
theorem Small.take{n:List Lab}(h:Small n)(k:Nat):Small (n.take k):=⟨by rw[List.length_take];have:=h.1;omega,fun l hl=>h.2 l (List.mem_of_mem_take hl)⟩
theorem wires_few{n:List Lab}(h:Small n):(wires n).length≤1001000:=by
 obtain⟨h1,h2⟩:=h;have:∀m:List Lab,(∀l∈m,l.length≤1000)→(wires m).length≤m.length *1001:=by
  intro m
  induction m with
  |nil=>intro _;simp[wires]
  |cons a n ih=>
   intro h;have h1:=h a (List.mem_cons_self ..);have h2:=ih (fun l hl=>h l (List.mem_cons_of_mem _ hl));have e:wires (a::n)=wire1 a++wires n:=by simp[wires]
   rw[e,List.length_append,List.length_cons];have:(wire1 a).length=a.length+1:=by simp[wire1]
   rw[this,Nat.add_mul];omega
 have h3:=this n h2;have:n.length *1001≤1000 *1001:=Nat.mul_le_mul_right _ h1;omega
def WireR(n:List Lab)(w:World)(v i:Value)(wr:World):Prop:=
 ∃k:Nat,k≤n.length∧i=.int .i64 k∧wr.ownsRow w.heap.size 5 1 v (wires (n.take k)).length ((wires (n.take k)).map byteV)∧Below w.heap.size w wr
theorem byte_len(l:Lab):byteV (UInt8.ofNat l.length)=.int .u8 ((l.length:Int) %256):=by
 unfold byteV;rw[UInt8.toNat_ofNat'];congr 1
theorem Wire(A:Option Addr)(n:List Lab)(cap:Nat)(w:World)(hc:Cs w A (n.map strV))(hf:Small n):
 Calls prog 118 #[.slice A n.length cap] w fun e w'=>∃v,e=.returned v∧w'.ownsRow w.heap.size 5 1 v (wire n).length ((wire n).map byteV)∧Below w.heap.size w w':=by
 obtain⟨i0,hi,hz0,hz1,hz2⟩:=info_parts info_u8;have hlen:=hf.1;have HF:=hid hf;clear hf;go_enter func118,ntmps118;go_wp2_with fail
 go_loopw [3,8] (WireR n w) (fun _ i _=>n.length - (intOf i).toNat)
 case atStart=>exact⟨0,Nat.zero_le _,rfl,World.ownsRow_nil _ _ _ _,Below.refl _ _⟩
 case round=>
  obtain⟨k,hk,rfl,hown,hbel⟩:=hrel;have hw6:(wires (n.take k)).length≤1001000:=wires_few (HF.out.take k);by_cases hlt:k < n.length
  ·obtain⟨bk,off,rfl,hbl,hc0⟩:=Cs.str hc hlt;have hc1:=(hbel.cell (p:=⟨bk,off+k,none⟩) hbl).trans hc0;have hl6:n[k].length≤1000:=HF.out.2 n[k] (List.getElem_mem hlt);have HN:Hid (wires (n.take (k+1))=wires (n.take k)++([UInt8.ofNat n[k].length]++n[k])):=hid (wires_take hlt);have hsz:=strB_size n[k];have hbv:=byte_len n[k];generalize n[k]=l at *;generalize hwk:wires (n.take k)=xs at *
   have HB:=hid hbv;clear hwk hbv
   go_wp2_with (first
    |(at_builtin;refine wpList_push2 hown hbel.size [.int .u8 ((l.length:Int) %256)] rfl (by simp[Value.oneCell']) hi hz0 hz1 hz2 rfl (by decide) rfl (.tmp 12) _ 37 underlying37 rfl rfl rfl (by unfold maxLen;omega) (by omega) ?_;intro v4 w4 hown4 hbw4;have hbw5:=hbel.trans hbw4;have hown5:w4.ownsRow w.heap.size 5 1 v4 (xs.length+1) ((xs++[UInt8.ofNat l.length]).map byteV):=(by rw[List.map_append,List.map_cons,HB.out];exact hown4);clear hown4)
    |(at_builtin;refine wpList_text hown5 hbw5.size l rfl (.tmp 17) (.tmp 18) rfl rfl rfl (by omega) ?_;intro v6 w6 hown6 hbw6;have hbw7:=hbw5.trans hbw6))
   refine⟨⟨k+1,by omega,by go_num, ?_,hbw7⟩,by simp[intOf];omega⟩;rw[HN.out,←List.append_assoc,List.length_append,List.length_append];exact hown6
  ·have hkl:k=n.length:=by omega
   rw[hkl,List.take_length]at hown hw6;clear hkl;have HW:Hid ((wire n).map byteV=(wires n).map byteV++[.int .u8 0]∧(wire n).length=(wires n).length+1):=hid (by unfold wire;rw[List.map_append,List.length_append];exact⟨rfl,rfl⟩)
   go_wp2_with (first
    |(at_builtin;refine wpList_push2 hown hbel.size [.int .u8 0] rfl (by simp[Value.oneCell']) hi hz0 hz1 hz2 rfl (by decide) rfl _ _ 37 underlying37 rfl rfl rfl (by unfold maxLen;omega) (by omega) ?_;intro v4 w4 hown4 hbw4;have hbw5:=hbel.trans hbw4))
   go_ret;exact⟨_,rfl,by rw[HW.out.1,HW.out.2];exact hown4,hbw5⟩
def wild:List Lab→Bool
 |[42]::_=>true
 |_=>false
theorem Wild(A:Option Addr)(n:List Lab)(cap:Nat)(w:World)(hc:Cs w A (n.map strV))(hf:n.length≤1000000):
 Calls prog 89 #[.slice A n.length cap] w fun e w'=>e=.returned (.bool (wild n))∧w=w':=by
 cases n with
 |nil=>
  go_enter func89,ntmps89;go_wp2_with fail;go_ret;exact⟨rfl,rfl⟩
 |cons l n=>
  obtain⟨bk,off,rfl,hbl,hc0⟩:=Cs.str hc (i:=0) (by simp);rw[Nat.add_zero]at hc0;simp only[List.getElem_cons_zero]at hc0;have hpos:(0:Int) < (((l::n).length:Nat):Int):=by simp only[List.length_cons];omega
  have hw:wild (l::n)=((strB l).toList==[42]):=by
   rw[strB_toList];unfold wild;split
   ·rename_i h;cases h;rfl
   ·rename_i h;rw[eq_comm,beq_eq_false_iff_ne];intro e;subst e;exact h n rfl
  rw[hw];clear hw;generalize(l::n).length=m at *;go_enter func89,ntmps89;go_wp2_with fail;go_ret;exact⟨rfl,rfl⟩
def openL:Nat→Lab→Option (List Lab×Nat)
 |0,_=>none
 |_+1,[]=>none
 |f+1,c::r=>if c.toNat=0 then some ([],1)else if 63 < c.toNat∨r.length < c.toNat then none else
   (openL f (r.drop c.toNat)).map fun p=>(r.take c.toNat::p.1,p.2+(1+c.toNat))
def parse(b:Lab):Option (List Lab×Nat):=openL (b.length+1) b
theorem openL_fuel:∀(f g:Nat) (b:Lab),b.length < f→b.length < g→openL f b=openL g b
 |0,_,b,h,_=>by omega
 |_+1,0,b,_,h=>by omega
 |f+1,g+1,[],_,_=>rfl
 |f+1,g+1,c::r,h1,h2=>by
  unfold openL;split
  ·rfl
  ·split
   ·rfl
   ·rw[openL_fuel f g (r.drop c.toNat) (by simp at *;omega) (by simp at *;omega)]
theorem parse_nil:parse []=none:=rfl
theorem parse_cons(c:UInt8)(r:Lab):parse (c::r)=if c.toNat=0 then some ([],1)else if 63 < c.toNat∨r.length < c.toNat then none else
 (parse (r.drop c.toNat)).map fun p=>(r.take c.toNat::p.1,p.2+(1+c.toNat)):=by
 unfold parse;rw[show(c::r).length+1=(r.length+1)+1 from rfl]
 conv=>lhs;unfold openL
 split
 ·rfl
 ·split
  ·rfl
  ·rw[openL_fuel (r.length+1) ((r.drop c.toNat).length+1) (r.drop c.toNat) (by simp;omega) (by omega)]
def pre(n:List Lab)(k:Nat)(o:Option (List Lab×Nat)):Option (List Lab×Nat):=o.map fun p=>(n++p.1,p.2+k)
theorem pre_nil(o:Option (List Lab×Nat)):pre [] 0 o=o:=by cases o <;> simp[pre]
theorem pre_step{b:Lab}{n:List Lab}{k:Nat}(hk:k < b.length)(h0:b[k].toNat≠0)(h1:¬63 < b[k].toNat)(h2:k+1+b[k].toNat≤b.length):
 pre n k (parse (b.drop k))=pre (n++[(b.drop (k+1)).take b[k].toNat]) (k+1+b[k].toNat) (parse (b.drop (k+1+b[k].toNat))):=by
 rw[List.drop_eq_getElem_cons hk,parse_cons,if_neg h0,if_neg (by rw[List.length_drop];omega)];rw[List.drop_drop];cases parse (b.drop (k+1+b[k].toNat))with
 |none=>rfl
 |some p=>simp[pre];omega
theorem pre_end{b:Lab}{n:List Lab}{k:Nat}(hk:k < b.length)(h0:b[k].toNat=0):pre n k (parse (b.drop k))=some (n,k+1):=by
 rw[List.drop_eq_getElem_cons hk,parse_cons,if_pos h0];simp[pre];omega
theorem pre_long{b:Lab}{n:List Lab}{k:Nat}(hk:k < b.length)(h1:63 < b[k].toNat):pre n k (parse (b.drop k))=none:=by
 rw[List.drop_eq_getElem_cons hk,parse_cons,if_neg (by omega),if_pos (.inl h1)];rfl
theorem pre_short{b:Lab}{n:List Lab}{k:Nat}(hk:k < b.length)(h0:b[k].toNat≠0)(h2:¬k+1+b[k].toNat≤b.length):pre n k (parse (b.drop k))=none:=by
 rw[List.drop_eq_getElem_cons hk,parse_cons,if_neg h0,if_pos (.inr (by rw[List.length_drop];omega))];rfl
theorem pre_out{b:Lab}{n:List Lab}{k:Nat}(hk:¬k < b.length):pre n k (parse (b.drop k))=none:=by
 rw[List.drop_eq_nil_of_le (by omega),parse_nil];rfl
theorem parse_some:∀(m:Nat) (b:Lab),b.length≤m→∀{n k},parse b=some (n,k)→k≤b.length∧wire n=b.take k∧(∀l∈n,1≤l.length∧l.length≤63)∧n.length < k
 |0,b,hm,n,k,h=>by
  have:b=[]:=List.length_eq_zero_iff.1 (by omega);subst this;cases h
 |m+1,[],hm,n,k,h=>by cases h
 |m+1,c::r,hm,n,k,h=>by
  rw[parse_cons]at h;split at h
  ·rename_i h0;cases h;have:c=0:=by exact UInt8.toNat_inj.1 (by simpa using h0)
   subst this;simp[wire,wires]
  ·rename_i h0;split at h
   ·cases h
   ·rename_i h1;cases hp:parse (r.drop c.toNat)with
    |none=>rw[hp]at h;cases h
    |some p=>
     obtain⟨n',k'⟩:=p;rw[hp]at h;simp at h;obtain⟨rfl,rfl⟩:=h;obtain⟨g1,g2,g3,g4⟩:=parse_some m (r.drop c.toNat) (by simp at *;omega) hp;have hlen:(r.take c.toNat).length=c.toNat:=by rw[List.length_take];omega
     refine⟨by simp at *;omega, ?_, ?_,by simp;omega⟩
     ·have e1:wire (r.take c.toNat::n')=wire1 (r.take c.toNat)++wire n':=by simp[wire,wires]
      rw[e1,g2];unfold wire1;rw[hlen];rw[show k'+(1+c.toNat)=(c.toNat+k')+1 from by omega,List.take_succ_cons,List.take_add];simp
     ·intro l hl;rcases List.mem_cons.1 hl with rfl|hl
      ·omega
      ·exact g3 l hl
theorem wire_cons(l:Lab)(n:List Lab):wire (l::n)=wire1 l++wire n:=by simp[wire,wires]
theorem parse_wire:∀(n:List Lab) (r:Lab),(∀l∈n,1≤l.length∧l.length≤63)→parse (wire n++r)=some (n,(wire n).length)
 |[],r,_=>by
  show parse (0::r)=_;rw[parse_cons];rfl
 |l::n,r,h=>by
  have h1:=h l (by simp);have hc:(UInt8.ofNat l.length).toNat=l.length:=by simp;omega
  rw[wire_cons];show parse (UInt8.ofNat l.length::(l++wire n++r))=_;rw[parse_cons,hc,if_neg (by omega),if_neg (by simp;omega),List.append_assoc,List.drop_left,List.take_left,
   parse_wire n r (fun x hx=>h x (by simp[hx]))]
  simp[wire1];omega
theorem wire_inj{n m:List Lab}(hn:∀l∈n,1≤l.length∧l.length≤63)(hm:∀l∈m,1≤l.length∧l.length≤63)(h:wire n=wire m):n=m:=by
 have h1:=parse_wire n [] hn;have h2:=parse_wire m [] hm;rw[h]at h1;rw[h1]at h2;simpa using h2
def nameE(n:List Lab):Int:=if n.any (·.isEmpty)then 30 else if n.any (fun l=>decide (63 < l.length))||decide (255 < (wire n).length)then 31 else 0
theorem nameE_zero{n:List Lab}:nameE n=0↔(∀l∈n,1≤l.length∧l.length≤63)∧(wire n).length≤255:=by
 unfold nameE;constructor
 ·intro h;split at h
  ·cases h
  ·rename_i h1;split at h
   ·cases h
   ·rename_i h2;simp at h1 h2;refine⟨fun l hl=>⟨?_,h2.1 l hl⟩,h2.2⟩;exact List.length_pos_iff.2 (fun e=>h1 (e▸hl))
 ·intro⟨h1,h2⟩;rw[if_neg,if_neg]
  ·simp;exact⟨fun l hl=>(h1 l hl).2,h2⟩
  ·simp;intro hl;have:=(h1 [] hl).1;simp at this
def openE(b:Lab):Int:=match parse b with
 |none=>30
 |some (_,k)=>if 255 < k then 31 else 0
def openN(b:Lab):List Lab:=match parse b with
 |none=>[]
 |some (n,k)=>if 255 < k then[]else n
def openK(b:Lab):Nat:=match parse b with
 |none=>0
 |some (n,k)=>if 255 < k then 0 else k
theorem nameE_parse{b:Lab}{n:List Lab}{k:Nat}(h:parse b=some (n,k)):nameE n=if 255 < k then 31 else 0:=by
 obtain⟨h1,h2,h3,_⟩:=parse_some b.length b (Nat.le_refl _) h;have hk:(wire n).length=k:=by rw[h2,List.length_take];omega
 unfold nameE;rw[hk,if_neg, ]
 ·have:(n.any fun l=>decide (63 < l.length))=false:=by
   rw[List.any_eq_false];intro l hl;have:=h3 l hl;simp;omega
  rw[this];simp
 ·simp;intro hl;have:=(h3 [] hl).1;simp at this
theorem wire_len_take{n:List Lab}{k:Nat}(h:k < n.length):(wire (n.take (k+1))).length=(wire (n.take k)).length+1+n[k].length:=by
 unfold wire;rw[wires_take h];simp;omega
def TotR(n:List Lab)(t:Int):Prop:=1≤t∧t≤510∧(t=((wire n).length:Int)∨(255 < t∧255 < (wire n).length))
def longB(n:List Lab):Bool:=n.any fun l=>decide (63 < l.length)
def CheckR(n:List Lab)(w:World)(tt lg i:Value)(wr:World):Prop:=
 ∃(k:Nat) (t:Int),k≤n.length∧i=.int .i64 k∧tt=.int .i64 t∧lg=.bool (longB (n.take k))∧TotR (n.take k) t∧(∀l∈n.take k,l≠[])∧w=wr
theorem longB_take{n:List Lab}{k:Nat}(h:k < n.length):longB (n.take (k+1))=(longB (n.take k)||decide (63 < n[k].length)):=by
 unfold longB;rw[List.take_succ_eq_append_getElem h,List.any_append];simp
theorem nameE_bad{n:List Lab}(h:[]∈n):nameE n=30:=by
 unfold nameE;rw[if_pos];rw[List.any_eq_true];exact⟨[],h,rfl⟩
theorem nameE_good{n:List Lab}(h:∀l∈n,l≠[]):nameE n=if longB n=true∨255 < (wire n).length then 31 else 0:=by
 unfold nameE;rw[if_neg]
 ·unfold longB;simp
 ·simp;exact fun hl=>h [] hl rfl
theorem Check(A:Option Addr)(n:List Lab)(cap:Nat)(w:World)(hc:Cs w A (n.map strV))(hf:Few n):
 Calls prog 102 #[.slice A n.length cap] w fun e w'=>e=.returned (.int .i64 (nameE n))∧w=w':=by
 have hlen:=hf.1;have HF:=hid hf;clear hf;go_enter func102,ntmps102;go_wp2_with fail
 go_loopw [3,4,9] (CheckR n w) (fun _ _ i _=>n.length - (intOf i).toNat)
 case atStart=>exact⟨0,1,Nat.zero_le _,rfl,rfl,rfl,⟨by omega,by omega,.inl (by simp[wire,wires])⟩,by simp,rfl⟩
 case round=>
  obtain⟨k,t,hk,rfl,rfl,rfl,⟨ht1,ht2,ht3⟩,hne,rfl⟩:=hrel;by_cases hlt:k < n.length
  ·obtain⟨bk,off,rfl,hbl,hc0⟩:=Cs.str hc hlt;have hl6:n[k].length≤100000:=HF.out.2 n[k] (List.getElem_mem hlt);have HM:Hid (n[k]∈n):=hid (List.getElem_mem hlt);have HW:=hid (wire_len_take hlt);have HL:=hid (longB_take hlt);have HN:Hid (∀l∈n.take (k+1),l∈n.take k∨l=n[k]):=hid (by
    intro l hl;rw[List.take_succ_eq_append_getElem hlt]at hl;rw[List.mem_append]at hl;simpa only[List.mem_singleton]using hl)
   have hsz:=strB_size n[k];have htl:=strB_toList n[k];generalize n[k]=l at *;generalize longB (n.take k)=lg at *;by_cases hl0:l=[]
   ·subst hl0;have HE:=hid (nameE_bad HM.out);cases lg
    all_goals
     go_wp2_with fail;go_ret;exact⟨ret_int HE.out.symm,rfl⟩
   ·have hpos:0 < l.length:=List.length_pos_iff.2 hl0;have hne2:((strB l).toList==[])=false:=by
     rw[htl,beq_eq_false_iff_ne];exact hl0
    have hne3:(strB l).toList.isEmpty=false:=by
     rw[htl];simpa using hl0
    have HZ:=hid hl0;clear hl0 htl;cases lg
    all_goals
     go_wp2_with fail;refine⟨⟨k+1,_,by omega,by go_num,rfl, ?_,⟨?_, ?_, ?_⟩, ?_,rfl⟩,by simp[intOf];omega⟩
     ·rw[HL.out]
      first
       |rfl
       |(have e:((63:Int) < (l.length:Int))=(63 < l.length):=propext (by omega)
         simp[e])
     ·first|(split <;> split <;> omega)|(split <;> omega)|omega
     ·first|(split <;> split <;> omega)|(split <;> omega)|omega
     ·rw[HW.out]
      first|(split <;> split <;> omega)|(split <;> omega)|omega
     ·intro x hx;rcases HN.out x hx with h|h
      ·exact hne x h
      ·rw[h];exact HZ.out
  ·have hkl:k=n.length:=by omega
   rw[hkl,List.take_length]at ht3 hne ⊢;clear hkl;have HE:=hid (nameE_good hne);generalize longB n=lg at *;clear hne;by_cases h5:255 < t
   ·have h6:255 < (wire n).length:=by omega
    generalize(wire n).length=m at *;cases lg
    all_goals
     go_wp2_with fail;go_ret;exact⟨ret_int (by rw[HE.out];simp[h6]),rfl⟩
   ·have h6:¬255 < (wire n).length:=by omega
    generalize(wire n).length=m at *;cases lg
    all_goals
     go_wp2_with fail;go_ret;exact⟨ret_int (by rw[HE.out];simp[h6]),rfl⟩
end Nm
end Go.Proofs.YtmbdoacafhljkaaGreat
