/- Texts merged by a program: Opn, UPlz, HRec, RSet, LeansP, WLeans, Ints, WLeansI. -/
import Derived.Laws.ResultCell
import Derived.Deep.CutBlock
import Derived.Deep.CutRange
import Derived.Test.YtmbdoacafhljkaaGreatUh1
import Derived.Test.YtmbdoacafhljkaaGreatUh2
import Derived.Test.YtmbdoacafhljkaaGreatUh3
import Derived.Test.YtmbdoacafhljkaaGreatUh4
import Derived.Test.YtmbdoacafhljkaaGreatUh5
import Derived.Test.YtmbdoacafhljkaaGreatUh6
import Derived.Test.YtmbdoacafhljkaaGreatUh7
import Derived.Test.YtmbdoacafhljkaaGreatUh8
import Derived.Test.YtmbdoacafhljkaaGreatUh9
import Derived.Test.YtmbdoacafhljkaaGreatUh10
import Derived.Test.YtmbdoacafhljkaaGreatUh11
import Derived.Test.YtmbdoacafhljkaaGreatUh12
import Derived.Test.YtmbdoacafhljkaaGreatUh13
import Derived.Test.YtmbdoacafhljkaaGreatUh14
import Derived.Test.YtmbdoacafhljkaaGreatUh15
import Derived.Test.YtmbdoacafhljkaaGreatUh16
import Derived.Test.YtmbdoacafhljkaaGreatUh17
import Derived.Test.YtmbdoacafhljkaaGreatUh18
import Derived.Test.YtmbdoacafhljkaaGreatUh19
set_option linter.unusedSimpArgs false
set_option linter.unusedVariables false
set_option maxRecDepth 1000000
set_option maxHeartbeats 20000000
open Go.Proofs.Tryz
namespace Go.Proofs.YtmbdoacafhljkaaGreat
open Go.RowKit
namespace W
def setL(l:List UInt8):Nat→List UInt8→List UInt8
 |_,[]=>l
 |o,x::xs=>setL (l.set o x) (o+1) xs
end W
namespace Nm
noncomputable def wantL(F:Cont)(how b:Nat):Int:=
 if how %4=0 then(if(F (lower (recN b)) (recT b)).isSome then 0 else 8)
 else if how %4=1 then(if standsC F (lower (recN b))then 0 else 3)
 else if how %4=2 then(if(F (lower (recN b)) (recT b)).isSome then 7 else 0)
 else(if standsC F (lower (recN b))then 6 else 0)
theorem leans_pre(F:Cont)(how b:Nat):firstC (pre1 F [exL]) [upR (4+how %4) b true]=wantL F how b:=by
 have hn:=(recN_ok b).2.2;have ht:=(tyU_easy (recT_tyU b)).2.2.1;have e1:firstC (pre1 F [exL]) [upR (4+how %4) b true]=pre1 F [exL] (upR (4+how %4) b true):=by
  unfold firstC;split
  ·rename_i h;rw[h];rfl
  ·rfl
 rw[e1];unfold wantL;have hm:how %4 < 4:=Nat.mod_lt _ (by omega);generalize how %4=j at *;have hj:j=0∨j=1∨j=2∨j=3:=by omega
 unfold upR;rcases hj with rfl|rfl|rfl|rfl
 ·rw[if_neg (by decide),if_pos (by decide),pre1_go hn];simp[ht]
 ·rw[if_neg (by decide),if_neg (by decide),if_pos (by decide),pre1_go hn];simp
 ·rw[if_neg (by decide),if_neg (by decide),if_neg (by decide),if_pos (by decide),pre1_go hn];simp[ht]
 ·rw[if_neg (by decide),if_neg (by decide),if_neg (by decide),if_neg (by decide)];simp only[if_true];rw[pre1_go hn];simp
theorem leans_code(F:Cont)(how b k:Nat):(wantL F how b≠0→codeU F 60 [upR (4+how %4) b true] [upR 0 k false]=wantL F how b)∧(wantL F how b=0→codeU F 60 [upR (4+how %4) b true] [upR 0 k false]=0∨codeU F 60 [upR (4+how %4) b true] [upR 0 k false]=5):=by
 unfold codeU;rw[leans_pre,firstC_one,scanIn k 60 (by decide)];constructor
 ·intro h;rw[if_neg h]
 ·intro h;rw[if_pos h];split
  ·exact .inl rfl
  ·exact .inr rfl
def HrsR(a b:List RcB)(w:World)(i:Value)(wr:World):Prop:=∃j:Nat,j≤a.length∧i=.int .i64 j∧(a.take j).map RcB.says=(b.take j).map RcB.says∧Below w.heap.size w wr
theorem HRecords(w:World)(A B:Option Addr)(ca cb:Nat)(a b:List RcB)(Ba Bb:Nat)(ha:RecsV w Ba (.slice A a.length ca) a)(hb:RecsV w Bb (.slice B b.length cb) b)(hal:a.length≤3000)(hbl:b.length≤3000)(hfa:∀r∈a,r.fit w)(hfb:∀r∈b,r.fit w):
 Calls prog 16 #[.slice A a.length ca,.slice B b.length cb] w fun e w'=>Below w.heap.size w w'∧e=.returned (.bool (decide (a.map RcB.says=b.map RcB.says))):=by
 have HA:=hid ha;have HB:=hid hb;have HFA:=hid hfa;have HFB:=hid hfb;clear ha hb hfa hfb;by_cases hl:a.length=b.length
 ·have hlb2:((a.length:Int) !=(b.length:Int))=false:=by simp[hl]
  have HL:=hid hl;clear hl;go_enter func16,ntmps16;go_wp2_with fail
  go_loopw [5] (HrsR a b w) (fun i _=>a.length - (intOf i).toNat)
  case atStart=>exact⟨0,Nat.zero_le _,rfl,rfl,Below.refl _ _⟩
  case round=>
   obtain⟨j,hj,rfl,heq,hbel⟩:=hrel;have HEQ:=hid heq;clear heq;by_cases hlt:j < a.length
   ·have hltb:j < b.length:=by have:=HL.out;omega
    obtain⟨ba,oa,rfl,hba,p0,p1,p2,p3,p4⟩:=(HA.out.below hbel).at2 hlt;obtain⟨bb,ob,rfl,hbb,q0,q1,q2,q3,q4⟩:=(HB.out.below hbel).at2 hltb;have hta:(a.take (j+1)).map RcB.says=(a.take j).map RcB.says++[a[j].says]:=by rw[List.take_succ_eq_append_getElem hlt,List.map_append];rfl
    have htb:(b.take (j+1)).map RcB.says=(b.take j).map RcB.says++[b[j].says]:=by rw[List.take_succ_eq_append_getElem hltb,List.map_append];rfl
    have hne:a[j].says≠b[j].says→a.map RcB.says≠b.map RcB.says:=fun hn e=>by
     have h0:(a.map RcB.says)[j]? =(b.map RcB.says)[j]?:=by rw[e]
     rw[List.getElem?_map,List.getElem?_map,List.getElem?_eq_getElem hlt,List.getElem?_eq_getElem hltb]at h0;simp at h0;exact hn h0
    have hox:=(HFA.out _ (List.getElem_mem hlt)).below hbel;have hoy:=(HFB.out _ (List.getElem_mem hltb)).below hbel;have HT:=hid (And.intro hta (And.intro htb hne));generalize a[j]=x at *;generalize b[j]=y at *;have hs:=hbel.size;have HX:=hid (And.intro hox hoy);clear hta htb hne hox hoy;go_wp2_with fail
    refine wp_region_mono mixed0 (by kernel_rfl) [.is (.slice (some ⟨ba,oa,none⟩) a.length ca),.is (.int .i64 (j:Int)),.is (.pointer (some ⟨ba,oa+j *5,none⟩)),.is (.agg #[x.nm.v,.int .u16 x.t,.int .u16 1,.int .u32 x.ttl,x.d.v]),.is (.slice (some ⟨bb,ob,none⟩) b.length cb),.is (.int .i64 (j:Int)),.is (.pointer (some ⟨bb,ob+j *5,none⟩)),.is (.agg #[y.nm.v,.int .u16 y.t,.int .u16 1,.int .u32 y.ttl,y.d.v]),.is (.bool (decide (x.says=y.says))),.is (.bool (!decide (x.says=y.says)))] rfl ?_ ?_
    ·intro i o hio vals W hE haf;have e0:=(bcl (o:=oa+j *5) hE hba).trans p0;have e1:=(bcl (o:=oa+j *5+1) hE hba).trans p1;have e2:=(bcl (o:=oa+j *5+2) hE hba).trans p2;have e3:=(bcl (o:=oa+j *5+3) hE hba).trans p3;have e4:=(bcl (o:=oa+j *5+4) hE hba).trans p4;have f0:=(bcl (o:=ob+j *5) hE hbb).trans q0;have f1:=(bcl (o:=ob+j *5+1) hE hbb).trans q1;have f2:=(bcl (o:=ob+j *5+2) hE hbb).trans q2
     have f3:=(bcl (o:=ob+j *5+3) hE hbb).trans q3;have f4:=(bcl (o:=ob+j *5+4) hE hbb).trans q4;rcases i with _|_|_|_|_|_|_|_|_|_|i
     all_goals first
      |(exfalso;simp at hio;done)
      |(simp at hio;subst hio;simp[bindD,rdB,Region.binds,factAt]at haf;simp[opU,go_sem,haf,e0,e1,e2,e3,e4,f0,f1,f2,f3,f4,Ext.refl,factAt,hlt,hltb];done)
      |skip
     all_goals
      simp at hio;subst hio;simp[bindD,rdB,Region.binds,factAt]at haf
     ·simp[opU,go_sem,haf,e0,e1,e2,e3,e4,f0,f1,f2,f3,f4,Ext.refl,factAt,hlt,hltb];exact(HRecord x y W (HX.out.1.below hE) (HX.out.2.below hE)).mono fun e W' h=>⟨h.2,h.1⟩
    ·intro vals W hE hF;simp[facts]at hF;simp[relAct,dstAt,Act.put,hF];clear hF;have hb5:=hbel.trans (Below.mono hE hs);by_cases hxy:x.says=y.says
     ·have d1:decide (x.says=y.says)=true:=decide_eq_true hxy;have HXY:=hid hxy;rw[d1];clear hxy d1;go_wp2_with fail;exact⟨⟨j+1,by omega,by go_num,by rw[HT.out.1,HT.out.2.1,HEQ.out,HXY.out],hb5⟩,by simp[intOf];omega⟩
     ·have d1:decide (x.says=y.says)=false:=decide_eq_false hxy;have d2:=decide_eq_false (HT.out.2.2 hxy);have D2:=hid d2;rw[d1];clear hxy d1 d2;go_wp2_with fail;go_ret;exact⟨hb5,ret_bool D2.out.symm⟩
   ·have hjl:j=a.length:=by omega
    subst hjl;have d2:decide (a.map RcB.says=b.map RcB.says)=true:=by
     refine decide_eq_true ?_;have:=HEQ.out;rw[List.take_length,HL.out,List.take_length]at this;exact this
    have D2:=hid d2;clear d2;go_wp2_with fail;go_ret;exact⟨hbel,ret_bool D2.out.symm⟩
 ·have hlb2:((a.length:Int) !=(b.length:Int))=true:=by simp;omega
  have hd:decide (a.map RcB.says=b.map RcB.says)=false:=decide_eq_false fun e=>hl (by have:=congrArg List.length e;simpa using this);have HD:=hid hd;clear hd;go_enter func16,ntmps16;go_wp2_with fail;go_ret;exact⟨Below.refl _ _,ret_bool HD.out.symm⟩
theorem info_blob1:(prog.info? 37).map (fun i=>(i.zero,i.size,i.bytes))=some (some (.slice none 0 0),1,24):=by kernel_rfl
theorem yield_blob1{ops:Array Oper}{o:Oper}{a:Act}{W:World}{R:Value→World→Prop}(hgd:o.guard=none)(sl x:Operand){t:TypeId}(ht:prog.underlying t=some (.slice 37))
 (ho:o.op=.call {callee:=.builtin .append,args:= #[sl,x],argTypes:= #[t,t]}) {B:Nat} {v:Value} {n:Nat} {xs us:List Value} (hs:a.eval sl=v) (hown:W.ownsRow B 37 1 v n xs) (hB:B≤W.heap.size)
 {b:Addr} {c:Nat} (hx:a.eval x=.slice (some b) us.length c) (hcs:Cs W (some b) us) (h1:∀u∈us,u.oneCell'=true) (hn:n+us.length≤1000000)
 (h:∀v' W',W'.ownsRow B 37 1 v' (n+us.length) (xs++us)→Moved v W v' W'→R v' W'):opYield prog ops o a W R:=by
 obtain⟨i0,hi,hz0,hz1,hz2⟩:=info_parts info_blob1;have hw:Region.wanted o (yielded ops a.tmps)=true:=by simp[Region.wanted,hgd]
 rw[opYield_def,if_pos hw];obtain⟨v',W',hr,h2,h3,_,h5⟩:=run_append_own_at (P:=prog) W B t o.type 37 i0 _ 1 24 ht hi hz0 hz1 hz2 rfl (by decide) v n xs hown b us.length c us (by simp) hcs.cells h1 (by unfold maxLen;omega) (by omega) hB;unfold execOp;simp only[ho,resolve,invoke,builtin,Sem.run_bind,Sem.run_pure,Result.andThen_ok,List.map_toArray,List.map_cons,List.map_nil,hs,hx,hr]
 refine h v' W' h2 ⟨Kept.of_grown h3,fun k hk=> ?_⟩;rcases h5 with h5|h5
 ·exact .inl (h5▸hk)
 ·rw[h5]at hk;cases hk;exact .inr (Nat.le_refl _)
def setL(L:List PR)(n:List Lab)(t:Int):List PR:=L.filter fun x=>decide (x.n=lower n)&&decide (x.t=t)
theorem setL_mem{L:List PR}{n:List Lab}{t:Int}{x:PR}:x∈setL L n t↔x∈L∧x.n=lower n∧x.t=t:=by
 unfold setL;rw[List.mem_filter];simp
theorem setL_next{L:List PR}{n:List Lab}{t:Int}{j:Nat}(hj:j < L.length):setL (L.take (j+1)) n t=setL (L.take j) n t++(if(L[j]).n=lower n∧(L[j]).t=t then[L[j]]else[]):=by
 unfold setL;rw[List.take_succ_eq_append_getElem hj,List.filter_append];congr 1;by_cases h:(L[j]).n=lower n∧(L[j]).t=t
 ·rw[if_pos h];simp[h.1,h.2]
 ·rw[if_neg h];rw[List.filter_eq_nil_iff];intro x hx;have:x=L[j]:=by simpa using hx
  subst this;simpa using h
theorem recAt3{w:World}{B:Nat}{A:Option Addr}{c ln:Nat}{rs:List RcB}{L:List PR}(h:RecsV w B (.slice A ln c) rs)(hsay:rs.map RcB.says=L.map PR.says)(hg:∀x∈L,PG x){j:Nat}(hj:j < L.length):
 ∃a:RcV,∃b off,A=some ⟨b,off,none⟩∧b < w.heap.size∧a.ok w∧a.pr=L[j]∧BlobOwn w B ⟨a.D,a.d,a.cd⟩∧w.cell? ⟨b,off+j *5,none⟩=some (.slice a.A a.n.length a.cn)∧w.cell? ⟨b,off+j *5+1,none⟩=some (.int .u16 (a.t:Int))∧w.cell? ⟨b,off+j *5+3,none⟩=some (.int .u32 a.ttl)∧w.cell? ⟨b,off+j *5+4,none⟩=some (.slice a.D a.d.length a.cd):=by
 have hl:rs.length=L.length:=by have:=congrArg List.length hsay;simpa using this
 have hj':j < rs.length:=by omega
 obtain⟨b,off,rfl,hb,h0,h1,h2,h3,h4⟩:=h.at2 hj';have ho:=h.own _ (List.getElem_mem hj');have hs:(rs[j]).says=(L[j]).says:=by
  have:=congrArg (fun l=>l[j]?) hsay;simp only[List.getElem?_map,List.getElem?_eq_getElem hj',List.getElem?_eq_getElem hj]at this;injection this
 have hp:=hg _ (List.getElem_mem hj);obtain⟨m,hm,hgm⟩:=hp.ty;generalize L[j]=x at *;generalize rs[j]=r at *;obtain⟨⟨An,n,cn⟩,t,ttl,⟨Ad,d,cd⟩⟩:=r;obtain⟨xn,xt,xttl,xd,xc⟩:=x;unfold RcB.says PR.says at hs;simp only[Prod.mk.injEq]at hs;obtain⟨e1,e2,e3,e4⟩:=hs;simp only at hm;subst e1 e2 e3 e4 hm;have hn1:=cs_own ho.1;have hd1:=cs_own ho.2;have hcap:=own_caps ho.2
 refine⟨⟨An,n,cn,m,1,ttl,Ad,d,cd⟩,b,off,rfl,hb,⟨hn1.2,hp.small.few,hgm,hd1.2,hp.chk,hp.len,hcap.1,hcap.2⟩, ?_,ho.2,h0,h1,h3,h4⟩;unfold RcV.pr;have:=hp.can;simp only at this;rw[this]
def SetB(W:World)(g:Nat)(nv:Value)(t ttl:Int)(D:Value):Prop:=W.heap[g]? =some (.cells #[nv,.int .u16 t,.int .u32 ttl,D] 54 (0,0))
theorem SetB.ext{W W':World}{g:Nat}{nv:Value}{t ttl:Int}{D:Value}(h:SetB W g nv t ttl D)(hE:Ext W W'):SetB W' g nv t ttl D:=(hE.block g (lt_block h)).trans h
def TS(g:Nat)(v0:Value)(i:Nat)(W W':World):Prop:=if i=11 then Kept (fun k=>v0.ownBlock=some k) W W' else if i=13 then Kept (fun k=>k=g) W W' else Ext W W'
theorem TS_keep{g:Nat}{v0:Value}{i:Nat}{W0 W W':World}(h:TS g v0 i W W')(hC:Kept (fun k=>v0.ownBlock=some k∨k=g) W0 W):Kept (fun k=>v0.ownBlock=some k∨k=g) W0 W':=by
 unfold TS at h;split at h
 ·exact hC.trans (h.mono fun _ _ e=>.inl e)
 ·split at h
  ·exact hC.trans (h.mono fun _ _ e=>.inr e)
  ·exact hC.trans ((Kept.of_ext h).mono fun _ _ h=>h.elim)
def RS(B N g m bb off ln c j:Nat)(v0 nv:Value)(t ttl:Int)(n:Nat)(xs:List Value)(bv:Value)(k:Nat)(v:Value)(W:World):Prop:=
 match k with
 |0=>v=.pointer (some ⟨g,3,none⟩)
 |1=>v=v0
 |2=>v=.pointer (some ⟨m,0,none⟩)
 |3=>v=.pointer (some ⟨m,0,none⟩)
 |4=>v=.pointer (some ⟨m,1,none⟩)
 |5=>v=.slice (some ⟨bb,off,none⟩) ln c
 |6=>v=.int .i64 (j:Int)
 |7=>v=.pointer (some ⟨bb,off+j *5,none⟩)
 |8=>v=.pointer (some ⟨bb,off+j *5+4,none⟩)
 |9=>v=bv
 |10=>W.ownsRow N 37 1 v 1 [bv]
 |11=>W.ownsRow B 37 1 v (n+1) (xs++[bv])∧SetB W g nv t ttl v0
 |12=>v=.pointer (some ⟨g,3,none⟩)
 |13=>∃A cc,W.ownsRow B 37 1 (.slice A (n+1) cc) (n+1) (xs++[bv])∧SetB W g nv t ttl (.slice A (n+1) cc)
 |_=>True
theorem RS_keep{ops:Array Oper}{B N g m bb off ln c q:Nat}{v0 nv:Value}{t ttl:Int}{n:Nat}{xs:List Value}{bv:Value}(hgN:g < N)(hvN:∀k,v0.ownBlock=some k→k < N)(hw:waitsT ops ops.size 13 11=true)
 {i j:Nat} {v:Value} {W W':World} (hij:i≠j) (hk:(i==13&&j==11)=false) (hwt:waitsT ops ops.size j i=false) (h:RS B N g m bb off ln c q v0 nv t ttl n xs bv j v W) (hT:TS g v0 i W W'):RS B N g m bb off ln c q v0 nv t ttl n xs bv j v W':=by
 unfold TS at hT;rcases j with _|_|_|_|_|_|_|_|_|_|_|_|_|_|j
 ·exact h
 ·exact h
 ·exact h
 ·exact h
 ·exact h
 ·exact h
 ·exact h
 ·exact h
 ·exact h
 ·exact h
 ·have h1:W.ownsRow N 37 1 v 1 [bv]:=h;show W'.ownsRow N 37 1 v 1 [bv];split at hT
  ·exact Kept.row h1 hT (fun k hk2 e=>by have:=(h1.lt k hk2).1;have:=hvN k e;omega)
  ·split at hT
   ·exact Kept.row h1 hT (fun k hk2 e=>by have:=(h1.lt k hk2).1;omega)
   ·exact own_below h1 hT
 ·obtain⟨h1,h3⟩:=h;rw[if_neg hij]at hT;split at hT
  ·rename_i e;rw[e]at hk;cases hk
  ·exact⟨own_below h1 hT,h3.ext hT⟩
 ·exact h
 ·obtain⟨A,cc,h1,h3⟩:=h;split at hT
  ·rename_i e;subst e;rw[hw]at hwt;cases hwt
  ·exact⟨A,cc,own_below h1 hT,h3.ext hT⟩
 ·trivial
theorem own_rowB(w:World)(B:Nat)(a:Value)(hB:B≤w.heap.size):(w.alloc (.cells #[a] 37)).ownsRow B 37 1 (.slice (some ⟨w.heap.size,0,none⟩) 1 1) 1 [a]:=
 ⟨rfl,.inr ⟨w.heap.size,1, #[a],rfl,hB,heap_alloc_new w _,Nat.le_refl _,by unfold maxLen;omega,rfl,rfl⟩⟩
theorem own_one{W:World}{N:Nat}{v x:Value}(h:W.ownsRow N 37 1 v 1 [x]):∃b c,v=.slice (some b) 1 c∧Cs W (some b) [x]:=by
 obtain⟨A,c,rfl,_⟩:=own_form h;have hc:=cs_own2 h;obtain⟨b,off,rfl,_⟩:=hc 0 x rfl;exact⟨_,c,rfl,hc⟩
def SetLp(L:List PR)(n:List Lab)(t:Int)(B g:Nat)(nv:Value)(w3:World)(i:Value)(wr:World):Prop:=
 ∃(j:Nat) (ttl:Int) (bl:List Blob) (Ad:Option Addr) (cd:Nat),j≤L.length∧i=.int .i64 (j:Int)∧SetB wr g nv t ttl (.slice Ad bl.length cd)∧wr.ownsRow w3.heap.size 37 1 (.slice Ad bl.length cd) bl.length (bl.map Blob.v)∧bl.map (·.l)=(setL (L.take j) n t).map (·.d)∧(∀y∈bl,BlobOwn wr B y)∧(bl≠[]→∃x∈setL (L.take j) n t,x.ttl=ttl)∧Kept (fun k=>k=g) w3 wr
def SetP(w':World)(B N:Nat)(e:Ending)(n:List Lab)(t:Int)(M:List PR):Prop:=
 (M=[]∧e=.returned (.tuple #[.agg #[.slice none 0 0,.int .u16 0,.int .u32 0,.slice none 0 0],.bool false]))∨
 (∃(Am:Option Addr) (cm:Nat) (Ad:Option Addr) (cd:Nat) (ttl:Int) (bl:List Blob),e=.returned (.tuple #[.agg #[.slice Am n.length cm,.int .u16 t,.int .u32 ttl,.slice Ad bl.length cd],.bool true])∧w'.ownsRow N 9 1 (.slice Am n.length cm) n.length ((lower n).map strV)∧w'.ownsRow N 37 1 (.slice Ad bl.length cd) bl.length (bl.map Blob.v)∧bl.map (·.l)=M.map (·.d)∧(∀y∈bl,BlobOwn w' B y)∧∃x∈M,x.ttl=ttl)
theorem set_fin{P:Program}{fn:Func}{R:Ending→World→Prop}{a:Act}{x:Nat}{w5:World}{c0 c1 c2 c3:Value}{T:TypeId}(hc:w5.heap[x]? =some (.cells #[c0,c1,c2,c3] T (0,0))){a0 a1 a2 a3 v:Value}(hd:a.defers=[])
 (hr:∀W:World,W.cell? ⟨x,0,none⟩=some a0→W.cell? ⟨x,1,none⟩=some a1→W.cell? ⟨x,2,none⟩=some a2→W.cell? ⟨x,3,none⟩=some a3→(results fn a.tmps).run P W=.ok v W)
 (hR:∀W,Kept (fun k=>k=x) w5 W→R (.returned v) W):
 bodyPost P fn R .ret a ((((w5.setCell ⟨x,0,none⟩ a0).setCell ⟨x,1,none⟩ a1).setCell ⟨x,2,none⟩ a2).setCell ⟨x,3,none⟩ a3):=by
 have hH:=heap_set (i:=3) (v:=a3) (heap_set (i:=2) (v:=a2) (heap_set (i:=1) (v:=a1) (heap_set (i:=0) (v:=a0) hc)));have hx:∀j,((fun k=>k=x) (Addr.block ⟨x,j,none⟩)):=fun _=>rfl;have HF:=hR _ (((((Kept.refl (fun k=>k=x) w5).setCell (fun _=>hx 0) a0).setCell (fun _=>hx 1) a1).setCell (fun _=>hx 2) a2).setCell (fun _=>hx 3) a3)
 obtain⟨y0,y1,y2,y3,_⟩:=cells4 (T:=T) (c0:=a0) (c1:=a1) (c2:=a2) (c3:=a3) (g:=x) (by simpa using hH);exact bodyPost_ret (hr _ y0 y1 y2 y3) hd HF
theorem RSet(w:World)(B m:Nat)(S:Nat→Prop)(L:List PR)(h:RZo w B m S L)(hlen:L.length≤1000)(An:Option Addr)(n:List Lab)(cn:Nat)(t:Int)(hAn:Cs w An (n.map strV))(hn:Few n):
 Calls prog 25 #[.pointer (some ⟨m,0,none⟩),.slice An n.length cn,.int .u16 t] w fun e w'=>Below w.heap.size w w'∧SetP w' B w.heap.size e n t (setL L n t):=by
 obtain⟨Aa,ca,A,c,rs,hm,hap,hrs,hsay,hS⟩:=h.ex;have hll:rs.length=L.length:=by have:=congrArg List.length hsay;simpa using this
 have HRS:=hid (And.intro hrs (And.intro hsay h.good));have HN:=hid (And.intro hAn hn);obtain⟨_,m1,_⟩:=cells2 hm;have hmw:=lt_block hm;obtain⟨ln,hln⟩:∃ln,rs.length=ln:=⟨_,rfl⟩
 rw[hln]at HRS m1 hll;have HLL:Hid (L.length=ln):=hid hll.symm;clear hm hap hrs hsay hS h hAn hn hll hln;have b1:Below w.heap.size w (w.alloc (.cells #[.slice none 0 0,.int .u16 0,.int .u32 0,.slice none 0 0] 54)):=bAl;have c1:=heap_alloc_new w (.cells #[.slice none 0 0,.int .u16 0,.int .u32 0,.slice none 0 0] 54);go_enter func25,ntmps25
 go_upto_region 1 with fail
 generalize w.alloc (.cells #[.slice none 0 0,.int .u16 0,.int .u32 0,.slice none 0 0] 54)=w1 at *;have hs1:=b1.size;go_wp2_with fail;refine(RLower An n cn w1 (HN.out.1.below b1) HN.out.2).mono ?_;rintro e w2 ⟨v,rfl,hown,hb2⟩;obtain⟨Am,cm,rfl,_⟩:=own_form hown;have hb12:=b1.trans (hb2.mono hs1);have c12:=(hb2.block _ (lt_block c1)).trans c1;have hs2:=hb2.size;have hr1:=lt_block c1
 have b3:Below w2.heap.size w2 (w2.alloc (.cells #[.slice Am n.length cm,.int .u16 t,.int .u32 0,.slice none 0 0] 54)):=bAl;have c3:=heap_alloc_new w2 (.cells #[.slice Am n.length cm,.int .u16 t,.int .u32 0,.slice none 0 0] 54)
 go_upto_region 2 with fail
 generalize w2.alloc (.cells #[.slice Am n.length cm,.int .u16 t,.int .u32 0,.slice none 0 0] 54)=w3 at *;have hb3:=hb12.trans (b3.mono hb12.size);have hown3:=own_base (own_below hown b3) hs1;have c13:=(b3.block _ (by omega)).trans c12;have hsb3:SetB w3 w2.heap.size (.slice Am n.length cm) t 0 (.slice none 0 0):=c3;obtain⟨g,hg⟩:∃g,w2.heap.size=g:=⟨_,rfl⟩
 rw[hg]at hsb3
 try rw[hg]
 have hrg:w.heap.size < g:=by omega
 have hwg:w.heap.size≤g:=by omega
 have HG:=hid hg;have HB3:=hid hb3;have HSB3:=hid hsb3;have HO3:=hid (And.intro hown3 c13);clear b1 c1 hb2 hb12 c12 b3 c3 hown hown3 c13 hb3 hr1 hs1 hs2 hg;go_wp2_with fail
 go_loopw [9] (SetLp L n t B g (.slice Am n.length cm) w3) (fun i _=>L.length - (intOf i).toNat)
 case atStart=>exact⟨0,0,[],none,0,Nat.zero_le _,rfl,hsb3,World.ownsRow_nil _ _ _ _,by simp[setL],fun y hy=>(by cases hy),fun h=>absurd rfl h,Kept.refl _ _⟩
 case round=>
  obtain⟨j,ttl,bl,Ad,cd,hj,rfl,hsb,hrow,hbl,hbo,httl,hk⟩:=hrel;have HU:=hid (And.intro hrow (And.intro hbl (And.intro hbo httl)));have HK:=hid hk;have hbel:Below w.heap.size w wr:=HB3.out.trans (hk.below HB3.out.size (fun k hk2 e=>by omega));have hsr:=hbel.size;have mm1:=(bcl (o:=1) hbel hmw).trans m1;have hml:m < wr.heap.size:=by omega
  have hgl:g < wr.heap.size:=lt_block hsb;have hmg:g≠m:=by omega
  clear hrow hbl hbo httl hk hsb3;by_cases hlt:j < L.length
  ·obtain⟨a,bb,off,rfl,hbb,haok,hapr,haown,p0,p1,p3,p4⟩:=recAt3 (HRS.out.1.below hbel) HRS.out.2.1 HRS.out.2.2 hlt;have hlt':j < ln:=by have:=HLL.out;omega
   have hltI:(j:Int) < (ln:Int):=by omega
   have hbbw:bb < w.heap.size:=(HRS.out.1.row.lt bb rfl).2;have HAO:=hid haok;have HAW:=hid haown;have hnm:a.n=(L[j]).n:=by rw[←hapr];rfl
   have hty:(a.t:Int)=(L[j]).t:=by rw[←hapr];rfl
   have hda:a.d=(L[j]).d:=by rw[←hapr];rfl
   have hta:a.ttl=(L[j]).ttl:=by rw[←hapr];rfl
   have hlow:=(HRS.out.2.2 _ (List.getElem_mem hlt)).low;have HNM:Hid (a.n=(L[j]).n∧lower (L[j]).n=(L[j]).n∧(a.t:Int)=(L[j]).t∧a.d=(L[j]).d∧a.ttl=(L[j]).ttl):=hid ⟨hnm,hlow,hty,hda,hta⟩;have HNX:=hid (setL_next (n:=n) (t:=t) hlt);have hiff:(L[j]).n=lower n↔same a.n n=true:=by rw[same_iff,hnm,hlow]
   clear haok hapr haown hnm hlow hty hda hta;cases hm1:(decide ((a.t:Int)=t)&&same a.n n)with
   |false=>
    have hno:setL (L.take (j+1)) n t=setL (L.take j) n t:=by
     rw[HNX.out,if_neg,List.append_nil];rintro⟨e1,e2⟩;rw[hiff.1 e1,←e2,←HNM.out.2.2.1]at hm1;simp at hm1
    have HNO:=hid hno;clear hno hiff;by_cases hte:(a.t:Int)=t
    ·have hsm:same a.n n=false:=by simpa[hte]using hm1
     have HSM:=hid hsm;have hteb:((a.t:Int)==t)=true:=by simpa using hte
     clear hm1 hsm;go_wp2_with fail;refine(RSame a.A An a.n n a.cn cn wr (HAO.out.name) (HN.out.1.below hbel) HAO.out.few HN.out.2).mono ?_;rintro e W ⟨hE,rfl⟩;rw[HSM.out];have hE2:Below wr.heap.size wr W:=hE;have hbW:=hbel.trans (hE2.mono hsr);have hsz2:=hE2.size;have hsbW:SetB W g (.slice Am n.length cm) t ttl (.slice Ad bl.length cd):=SetB.ext hsb hE2
     have hkW:Kept (fun k=>k=g) w3 W:=HK.out.trans ((Kept.of_ext hE2).mono fun _ _ e=>e.elim);have HREL:Hid (SetLp L n t B g (.slice Am n.length cm) w3 (.int .i64 ((j:Int)+1)) W):=hid ⟨j+1,ttl,bl,Ad,cd,hlt,by go_num,hsbW,own_below HU.out.1 hE2,by rw[HNO.out];exact HU.out.2.1,fun y hy=>own_below (HU.out.2.2.1 y hy) hE2,by rw[HNO.out];exact HU.out.2.2.2,hkW⟩;clear hE hbW hE2 hsbW hkW
     go_wp2_with fail;exact⟨HREL.out,by simp[intOf];omega⟩
    ·have hteb:((a.t:Int)==t)=false:=by simpa using hte
     clear hm1;have HREL:Hid (SetLp L n t B g (.slice Am n.length cm) w3 (.int .i64 ((j:Int)+1)) wr):=hid ⟨j+1,ttl,bl,Ad,cd,hlt,by go_num,hsb,HU.out.1,by rw[HNO.out];exact HU.out.2.1,HU.out.2.2.1,by rw[HNO.out];exact HU.out.2.2.2,HK.out⟩;go_wp2_with fail;exact⟨HREL.out,by simp[intOf];omega⟩
   |true=>
    have hte:(a.t:Int)=t:=by
     have:=(Bool.and_eq_true _ _).mp hm1;simpa using this.1
    have hsm:same a.n n=true:=((Bool.and_eq_true _ _).mp hm1).2;have hteb:((a.t:Int)==t)=true:=by simpa using hte
    have HSM:=hid hsm;have hyes:setL (L.take (j+1)) n t=setL (L.take j) n t++[L[j]]:=by
     rw[HNX.out,if_pos ⟨hiff.2 hsm,by rw[←HNM.out.2.2.1];exact hte⟩]
    have HYES:=hid hyes;have hvl:∀k,(Value.slice Ad bl.length cd).ownBlock=some k→k < wr.heap.size:=fun k hk=>(HU.out.1.lt k hk).2;have hgv:¬(Value.slice Ad bl.length cd).ownBlock=some g:=fun e=>by
     obtain⟨cs,q1,_⟩:=row_block HU.out.1 e;exact ne_cells q1 hsb (by decide) rfl
    have hbll:bl.length≤j:=by
     have h1:=congrArg List.length HU.out.2.1;have h2:(setL (L.take j) n t).length≤(L.take j).length:=List.length_filter_le _ _;simp at h1 h2;omega
    clear hm1 hsm hyes hiff;go_wp2_with fail;refine(RSame a.A An a.n n a.cn cn wr (HAO.out.name) (HN.out.1.below hbel) HAO.out.few HN.out.2).mono ?_;rintro e W ⟨hE,rfl⟩;rw[HSM.out];have hE2:Below wr.heap.size wr W:=hE;have hbW:=hbel.trans (hE2.mono hsr);obtain⟨s0,s1,s2,s3,sf⟩:=cells4 (SetB.ext hsb hE2);have mW:=(bcl (o:=1) hE2 hml).trans mm1;have p3W:=(bcl (o:=off+j *5+3) hE2 hbb).trans p3
    have p4W:=(bcl (o:=off+j *5+4) hE2 hbb).trans p4;have hgl2:g < W.heap.size:=by have:=hE2.size;omega
    have hbbg:g≠bb:=by omega
    have hsbW:=SetB.ext hsb hE2;clear hE
    go_upto_region 7 with fail
    have k6:Kept (fun k=>k=g) W (W.setCell ⟨g,2,none⟩ (.int .u32 a.ttl)):=(Kept.refl (fun k=>k=g) W).setCell (p:=⟨g,2,none⟩) (fun _=>rfl) _;have hsb6:SetB (W.setCell ⟨g,2,none⟩ (.int .u32 a.ttl)) g (.slice Am n.length cm) t a.ttl (.slice Ad bl.length cd):=heap_set hsbW
    have m6:(W.setCell ⟨g,2,none⟩ (.int .u32 a.ttl)).cell? ⟨m,1,none⟩=some (.slice (some ⟨bb,off,none⟩) ln c):=(setc_far hmg).trans mW;have p6:(W.setCell ⟨g,2,none⟩ (.int .u32 a.ttl)).cell? ⟨bb,off+j *5+4,none⟩=some (.slice a.D a.d.length a.cd):=(setc_far hbbg).trans p4W;generalize W.setCell ⟨g,2,none⟩ (.int .u32 a.ttl)=w6 at *
    have hkw6:Kept (fun k=>k=g) wr w6:=((Kept.of_ext hE2).mono fun _ _ e=>e.elim).trans k6;have hrow6:=row_far HU.out.1 hsb (by decide) hkw6;have hsz6:=hkw6.size;have hgl6:g < w6.heap.size:=by omega
    have hml6:m < w6.heap.size:=by omega
    have hbb6:bb < w6.heap.size:=by omega
    have hvl6:∀k,(Value.slice Ad bl.length cd).ownBlock=some k→k < w6.heap.size:=fun k hk=>by have:=hvl k hk;omega
    have hw3s:=HK.out.size;obtain⟨z0,z1,z2,z3,zf⟩:=cells4 hsb6;have HROW6:=hid hrow6;clear hbW hE2 s0 s1 s2 s3 sf mW p3W p4W hgl2 hsbW k6 hrow6;go_wp2_with fail
    refine wp_region_r2 mixed0 (by kernel_rfl) (fun i j=>i==13&&j==11) (by kernel_rfl) (TS g (.slice Ad bl.length cd)) (fun W=>Kept (fun k=>(Value.slice Ad bl.length cd).ownBlock=some k∨k=g) w6 W) (RS w3.heap.size w6.heap.size g m bb off ln c j (.slice Ad bl.length cd) (.slice Am n.length cm) t a.ttl bl.length (bl.map Blob.v) (.slice a.D a.d.length a.cd)) (fun W=>Below w6.heap.size w6 W) (fun i=>i==11||i==13) (Below.refl _ w6).drew ?_ ((Kept.refl _ w6).trans ⟨rfl,rfl,rfl,Nat.le_refl _,fun _ _ _=>rfl⟩) (fun i W W' h1 h2=>TS_keep h2 h1) (fun i j v W W' h1 h2 h3 _ h5 h6=>RS_keep hgl6 hvl6 (by kernel_rfl) h1 h2 h3 h5 h6) ?_ ?_
    ·intro i W W' hk hC h1 h2;have hi:i≠11∧i≠13:=by simpa using hk
     unfold TS at h2;rw[if_neg hi.1,if_neg hi.2]at h2;exact h1.trans (h2.mono h1.size)
    ·intro i o hio vals W hC haf hI;rcases i with _|_|_|_|_|_|_|_|_|_|_|_|_|_|i
     all_goals first
      |(exfalso;simp at hio;done)
      |skip
     all_goals
      simp at hio;subst hio;simp[bindD,rdB,Region.binds,RS]at haf
     ·simp[opU,go_sem,haf,TS,RS,Ext.refl]
     ·have hE:Below w6.heap.size w6 W:=hI (fun k hk h=>by
       have h20:k=11∨k=13:=by simpa using h
       rcases h20 with rfl|rfl <;> exact .inr (by kernel_rfl))
      have em:=(bcl (o:=3) hE hgl6).trans z3;simp[opU,go_sem,haf,em,TS,RS,Ext.refl]
     ·simp[opU,go_sem,haf,TS,RS,Ext.refl]
     ·simp[opU,go_sem,haf,TS,RS,Ext.refl]
     ·simp[opU,go_sem,haf,TS,RS,Ext.refl]
     ·have hE:Below w6.heap.size w6 W:=hI (fun k hk h=>by
       have h20:k=11∨k=13:=by simpa using h
       rcases h20 with rfl|rfl <;> exact .inr (by kernel_rfl))
      have em:=(bcl (o:=1) hE hml6).trans m6;simp[opU,go_sem,haf,em,TS,RS,Ext.refl]
     ·simp[opU,go_sem,haf,TS,RS,Ext.refl]
     ·simp[opU,go_sem,haf,TS,RS,Ext.refl,hltI,hlt']
     ·simp[opU,go_sem,haf,TS,RS,Ext.refl]
     ·have hE:Below w6.heap.size w6 W:=hI (fun k hk h=>by
       have h20:k=11∨k=13:=by simpa using h
       rcases h20 with rfl|rfl <;> exact .inr (by kernel_rfl))
      have em:=(bcl (o:=off+j *5+4) hE hbb6).trans p6;simp[opU,go_sem,haf,em,TS,RS,Ext.refl]
     ·have hsz:=hC.size;simp[opU,go_sem,haf,TS,RS];exact⟨bAl,own_rowB _ _ _ hsz⟩
     ·have hE:Below w6.heap.size w6 W:=hI (fun k hk h=>by
       have h20:k=11∨k=13:=by simpa using h
       rcases h20 with rfl|rfl
       ·exact .inl rfl
       ·exact .inr (by kernel_rfl))
      obtain⟨h1,h7⟩:=haf;obtain⟨b7,c7,e7,hc7⟩:=own_one h7;have hrow:=own_below HROW6.out hE
      refine yield_blob1 rfl (.tmp 55) (.tmp 64) underlying52 rfl (v:=.slice Ad bl.length cd) (by simp[relAct,dstAt,Act.put,Act.eval,h1]) hrow (by have:=hE.size;omega) (us:=[.slice a.D a.d.length a.cd]) (b:=b7) (c:=c7) (by simp[relAct,dstAt,Act.put,Act.eval,e7]) hc7 (fun u hu=>by simp at hu;subst hu;rfl) (by simp;omega) ?_;intro v' W' g1 g2
      have g3:Kept (fun k=>(Value.slice Ad bl.length cd).ownBlock=some k) W W':=g2.kept.mono fun _ _ e=>e.symm;refine⟨by simp only[TS];exact g3,by simpa[RS]using g1, ?_⟩;exact(g3.block g (by have:=hE.size;omega) (fun e=>hgv e)).trans ((hE.block g hgl6).trans hsb6)
     ·simp[opU,go_sem,haf,TS,RS,Ext.refl]
     ·obtain⟨h9,h8,hM8⟩:=haf;obtain⟨A8,c8,e8,_⟩:=own_form h8;rw[e8]at h8;have hM8:SetB W g (.slice Am n.length cm) t a.ttl (.slice Ad bl.length cd):=hM8;obtain⟨y0,y1,y2,y3,wf⟩:=cells4 hM8;simp[opU,go_sem,h9,e8,y3,wf,TS,RS];have hks:=(Kept.refl (fun k=>k=g) W).setCell (p:=⟨g,3,none⟩) (fun _=>rfl) (.slice A8 (bl.length+1) c8)
      exact⟨hks,A8,c8,by simpa using row_far h8 hM8 (by decide) hks,heap_set hM8⟩
    ·intro vals W9 hC hR;obtain⟨A8,c8,hrow8,hM8⟩:∃A cc,W9.ownsRow w3.heap.size 37 1 (.slice A (bl.length+1) cc) (bl.length+1) (bl.map Blob.v++[Value.slice a.D a.d.length a.cd])∧SetB W9 g (.slice Am n.length cm) t a.ttl (.slice A (bl.length+1) cc):=hR 13 (by decide) (fun i _=>by simp);have hC:Kept (fun k=>(Value.slice Ad bl.length cd).ownBlock=some k∨k=g) w6 W9:=hC
     have hCr:Kept (fun k=>(Value.slice Ad bl.length cd).ownBlock=some k∨k=g) wr W9:=(hkw6.mono fun _ _ e=>.inr e).trans hC;have hbo9:∀{y:Blob},BlobOwn wr B y→BlobOwn W9 B y:=fun{y} hy=>Kept.row hy hCr fun k hk2 ek=>by
      obtain⟨cs2,q1,_⟩:=row_block hy hk2;rcases ek with ek|ek
      ·obtain⟨cs3,q3,_⟩:=row_block HU.out.1 ek;exact ne_cells q1 q3 (by decide) rfl
      ·subst ek;exact ne_cells q1 hsb (by decide) rfl
     have hbl9:bl.length+1=(bl++[(⟨a.D,a.d,a.cd⟩:Blob)]).length:=by simp
     have hk9:Kept (fun k=>k=g) w3 W9:=HK.out.then hCr (fun k hk e=>by
      rcases e with e|e
      ·have:=(HU.out.1.lt k e).1;omega
      ·exact e)
     have HREL:Hid (SetLp L n t B g (.slice Am n.length cm) w3 (.int .i64 ((j:Int)+1)) W9):=hid (by
      refine⟨j+1,a.ttl,bl++[⟨a.D,a.d,a.cd⟩],A8,c8,hlt,by go_num,by rw[←hbl9];exact hM8,by rw[←hbl9,List.map_append];exact hrow8, ?_, ?_, ?_,hk9⟩
      ·rw[HYES.out,List.map_append,List.map_append,HU.out.2.1,List.map_singleton,List.map_singleton,HNM.out.2.2.2.1]
      ·intro y hy;rcases List.mem_append.1 hy with hy|hy
       ·exact hbo9 (HU.out.2.2.1 y hy)
       ·have:y=⟨a.D,a.d,a.cd⟩:=by simpa using hy
        rw[this];exact hbo9 HAW.out
      ·intro _;exact⟨L[j],by rw[HYES.out];simp,HNM.out.2.2.2.2.symm⟩)
     clear hR hC hCr hbo9 hbl9 hk9 hrow8;simp[relAct,dstAt,Act.put];generalize vals 0=k0,vals 1=k1;generalize vals 2=k2,vals 3=k3;generalize vals 4=k4,vals 5=k5;generalize vals 6=k6,vals 7=k7;generalize vals 8=k8,vals 9=k9;generalize vals 10=k10,vals 11=k11;generalize vals 12=k12,vals 13=k13;go_wp2_with fail
     exact⟨HREL.out,by simp[intOf];omega⟩
  ·have hlt':¬j < ln:=by have:=HLL.out;omega
   have hltI:¬(j:Int) < (ln:Int):=by omega
   have hjl:j=L.length:=by omega
   have HE:Hid (bl.map (·.l)=(setL L n t).map (·.d)∧(bl≠[]→∃x∈setL L n t,x.ttl=ttl)):=hid (by
    have h1:=HU.out.2.1;have h2:=HU.out.2.2.2;rw[hjl,List.take_length]at h1 h2;exact⟨h1,h2⟩)
   have cr:=(HK.out.block w.heap.size (by have:=lt_block HO3.out.2;omega) (by omega)).trans HO3.out.2;have hownr:=row_far HO3.out.1 HSB3.out (by decide) HK.out;obtain⟨s0,s1,s2,s3,sf⟩:=cells4 hsb;obtain⟨r0,r1,r2,r3,rf⟩:=cells4 cr;have HOR:=hid hownr;have HCR:=hid cr;have HBL:=hid hbel;clear hownr cr hbel hjl;by_cases hbn:bl=[]
   ·have hM:setL L n t=[]:=by
     have:=HE.out.1;rw[hbn]at this;exact List.map_eq_nil_iff.1 this.symm
    have hbl0:((bl.length:Nat):Int)=0:=by rw[hbn];rfl
    have HM:=hid hM;clear hM hbn;go_wp2_with fail;refine set_fin (v:=.tuple #[.agg #[.slice none 0 0,.int .u16 0,.int .u32 0,.slice none 0 0],.bool false]) HCR.out rfl (fun W y0 y1 y2 y3=> ?_) fun W hkW=> ?_
    ·simp[results,results25,go_sem,y0,y1,y2,y3]
    exact⟨HBL.out.trans (hkW.below HBL.out.size (fun k hk2 e=>by omega)),.inl ⟨HM.out,rfl⟩⟩
   ·have hbl0:¬((bl.length:Nat):Int)=0:=by have:=List.length_pos_iff.2 hbn;omega
    have HBN:=hid (HE.out.2 hbn);clear hbn;go_wp2_with fail;refine set_fin (v:=.tuple #[.agg #[.slice Am n.length cm,.int .u16 t,.int .u32 ttl,.slice Ad bl.length cd],.bool true]) HCR.out rfl (fun W y0 y1 y2 y3=> ?_) fun W hkW=> ?_
    ·simp[results,results25,go_sem,y0,y1,y2,y3]
    have hwl:=HBL.out.size;have hw3:=HB3.out.size;refine⟨HBL.out.trans (hkW.below HBL.out.size (fun k hk2 e=>by omega)),.inr ⟨Am,cm,Ad,cd,ttl,bl,rfl,row_far HOR.out HCR.out (by decide) hkW,row_far (own_base HU.out.1 hw3) HCR.out (by decide) hkW,HE.out.1,fun y hy=>row_far (HU.out.2.2.1 y hy) HCR.out (by decide) hkW,HBN.out⟩⟩
theorem set_says{w':World}{B N:Nat}{e:Ending}{n:List Lab}{t:Int}{M:List PR}(h:SetP w' B N e n t M):∃A1 n1 c1 t1 ttl A2 n2 c2 ok,e=.returned (.tuple #[.agg #[.slice A1 n1 c1,.int .u16 t1,.int .u32 ttl,.slice A2 n2 c2],.bool ok])∧(ok=true↔M≠[]):=by
 rcases h with⟨h1,h2⟩|⟨Am,cm,Ad,cd,ttl,bl,h1,_,_,_,_,x,hx,_⟩
 ·exact⟨_,_,_,_,_,_,_,_,false,h2,by simp[h1]⟩
 ·exact⟨_,_,_,_,_,_,_,_,true,h1,by simp;intro e;rw[e]at hx;cases hx⟩
theorem zonalK{w:World}{B z:Nat}{S:Nat→Prop}{ap:List Lab}{F:Cont}{N T:Nat}(h:Zo w B z S ap F N T):Zonal (fun k=>k=z) w:=fun k hk cs t fr hg=>by
 subst hk;exact h.zonal _ h.at_z cs t fr hg
theorem set_iff{w:World}{B z:Nat}{S:Nat→Prop}{F:Cont}{N T:Nat}(h:Zo w B z S [exL] F N T){L:List PR}(hL:LstP F L)(n:List Lab)(t:Int):setL L n t≠[]↔(F (lower n) t).isSome=true:=by
 constructor
 ·intro hne;obtain⟨x,hx⟩:=List.exists_mem_of_ne_nil _ hne;obtain⟨h1,h2,h3⟩:=setL_mem.1 hx;obtain⟨ds,h4,_⟩:=(hL.mem x).1 h1;rw[←h2,←h3,h4];rfl
 ·intro hs;cases hF:F (lower n) t with
  |none=>rw[hF]at hs;cases hs
  |some p=>
   obtain⟨ttl,ds⟩:=p;obtain⟨_,_,hne,_⟩:=h.good hF
   match ds,hne with
   |e::r,_=>
    have:(⟨lower n,t,ttl,e.1,e.2⟩:PR)∈setL L n t:=setL_mem.2 ⟨(hL.mem _).2 ⟨_,hF,by simp⟩,rfl,rfl⟩;intro e0;rw[e0]at this;cases this
theorem stands_iff{w:World}{B z:Nat}{S:Nat→Prop}{F:Cont}{N T:Nat}(h:Zo w B z S [exL] F N T){L:List PR}(hL:LstP F L)(n:List Lab):(∃x∈L,x.n=lower n)↔standsC F (lower n)=true:=by
 rw[standsC_iff];constructor
 ·rintro⟨x,hx,e⟩;obtain⟨ds,h1,_⟩:=(hL.mem x).1 hx;rw[e]at h1;exact⟨x.t,by rw[h1];simp⟩
 ·rintro⟨t,ht⟩;cases hF:F (lower n) t with
  |none=>exact absurd hF ht
  |some p=>
   obtain⟨ttl,ds⟩:=p;obtain⟨_,_,hne,_⟩:=h.good hF
   match ds,hne with
   |e::r,_=>exact⟨⟨lower n,t,ttl,e.1,e.2⟩,(hL.mem _).2 ⟨_,hF,by simp⟩,rfl⟩
def wantB(q:Nat)(ok nm:Bool):Int:=if q=0 then(if ok then 0 else 8)else if q=1 then(if nm then 0 else 3)else if q=2 then(if ok then 7 else 0)else(if nm then 6 else 0)
theorem want_says{F:Cont}{q b:Nat}{ok nm:Bool}(hq:q < 4)(h1:ok=true↔(F (lower (recN b)) ((recT b:Nat):Int)).isSome=true)(h2:nm=true↔standsC F (lower (recN b))=true):wantL F q b=wantB q ok nm:=by
 have e1:(F (lower (recN b)) ((recT b:Nat):Int)).isSome=ok:=(Bool.eq_iff_iff.2 h1).symm;have e2:standsC F (lower (recN b))=nm:=(Bool.eq_iff_iff.2 h2).symm;unfold wantL wantB;rw[Nat.mod_eq_of_lt hq,e1,e2]
theorem upR_cl4{q b:Nat}(hq:q < 4):(upR (4+q) b true).cl≠1:=by
 have:q=0∨q=1∨q=2∨q=3:=by omega
 rcases this with rfl|rfl|rfl|rfl <;> (unfold upR;simp)
theorem fit_of2{w:World}{B:Nat}{v:Value}{rs:List RcB}(h:RecsV w B v rs)(hr:∀x∈rs.map RcB.says,ROk x):∀r∈rs,r.fit w:=fun r hr2=>by
 have ho:=h.own r hr2;have hk:=hr _ (List.mem_map.2 ⟨r,hr2,rfl⟩);have h1:r.nm.l.length≤1000000:=Nat.le_trans (Small.few hk.small).1 (by omega);have h2:r.d.l.length≤100000:=hk.len;exact⟨(cs_own ho.1).2,(cs_own ho.2).2,h1,by omega⟩
theorem WLeans(w:World)(A:Option Addr)(l:List Nat)(cap k b how:Nat)(hk:k < 4294967296)(hb:b < 4294967296)(hh:how < 256)(hA:Cs w A (l.map u32K))(hl:∀k∈l,k < 4294967296):
 Calls prog 9 #[.slice A l.length cap,.int .u32 (k:Int),.int .u32 (b:Int),.int .u8 (how:Int)] w fun e w'=>e=.returned (.bool true)∧Below w.heap.size w w':=by
 have HA:=hid hA;have HL:=hid hl;clear hA hl;go_enter func9,ntmps9;go_wp2_with fail;refine(Known17 w).mono ?_;rintro e w1 ⟨rfl,hb1⟩;have hs01:=hb1.size;by_cases h12:12 < l.length
 ·have h12I:(12:Int) < (l.length:Int):=by omega
  go_wp2_with fail;go_ret;exact⟨rfl,hb1⟩
 have h12':l.length≤12:=by omega
 have h12I:¬(12:Int) < (l.length:Int):=by omega
 go_wp2_with fail;refine(Made17 w1 A l cap (HA.out.below hb1) HL.out h12').mono ?_;rintro e w2 ⟨hb2,⟨Bz,z,m,S,R,N,T,L,rfl,hBz,hZ,hR,hL,hN,hT,hLl,hSR⟩⟩;have hUK:=uk_made hZ;have hb12:=hb1.trans (hb2.mono hb1.size);have hs12:=hb12.size;have hzw:w1.heap.size≤z:=by have:=(hZ.lt hZ.at_z).2;omega
 have HZ:=hid (And.intro hZ (And.intro hR (And.intro hL hUK)));obtain⟨F,hF⟩:∃F,madeF l=F:=⟨_,rfl⟩
 rw[hF]at HZ;clear hZ hR hL hUK hSR hF hb2 hb1;have hm4:((how:Nat):Int).tmod 4=((how %4:Nat):Int):=by rw[Int.tmod_eq_emod_of_nonneg (by omega)];omega
 have hq4:how %4 < 4:=Nat.mod_lt _ (by omega);have HU:Hid (upR (4+how %4) b true=upR (4+(how %4) %4) b true∧wantL F how b=wantL F (how %4) b):=hid (by rw[Nat.mod_mod];exact⟨rfl,by unfold wantL;rw[Nat.mod_mod]⟩);have HCD0:=hid (leans_code F (how %4) b k);obtain⟨q,hqe⟩:∃q,how %4=q:=⟨_,rfl⟩
 rw[hqe]at hm4 hq4 HU HCD0;have hqq:q %4=q:=Nat.mod_eq_of_lt hq4;rw[hqq]at HCD0;have HCD:=HCD0;have hw8:IntKind.u8.wrap (4+(q:Int))=4+(q:Int):=by
  have:q=0∨q=1∨q=2∨q=3:=by omega
  rcases this with rfl|rfl|rfl|rfl <;> rfl
 have HQ:=hid hqe;clear hqe hqq HCD0;have b3:Below w2.heap.size w2 (w2.alloc (.cells #[.int .u8 (4+(q:Int)),.int .u32 (b:Int)] 86)):=bAl
 have c3:Cs (w2.alloc (.cells #[.int .u8 (4+(q:Int)),.int .u32 (b:Int)] 86)) (some ⟨w2.heap.size,0,none⟩) ([(4+q,b)].flatMap upC):=by rw[show([(4+q,b)].flatMap upC)=[Value.int .u8 (4+(q:Int)),.int .u32 (b:Int)]from by simp[upC]];exact cs_new w2 86 [.int .u8 (4+(q:Int)),.int .u32 (b:Int)] (0,0)
 go_upto_region 7 with fail
 generalize w2.alloc (.cells #[.int .u8 (4+(q:Int)),.int .u32 (b:Int)] 86)=w3 at *;have hb03:=hb12.trans (b3.mono hs12);have hZ3:=HZ.out.1.ext b3;have HC3:=hid (And.intro c3 (And.intro b3 hb03));have HRC:=hid (hZ3.records (by omega) HZ.out.2.2.2.uf.few HZ.out.2.2.2.uf.short);have HZ3:=hid hZ3;have hs3:=b3.size;clear c3 b3 hb03 hZ3;go_wp2_with fail;refine HRC.out.mono ?_
 rintro e w6 ⟨hb6,v6,rs,L6,rfl,hrs6,hL6,hsay6⟩;have hb26:Below w2.heap.size w2 w6:=HC3.out.2.1.trans (hb6.mono hs3);have hb06:=HC3.out.2.2.trans (hb6.mono HC3.out.2.2.size);have hZ6:=HZ3.out.ext hb6;have hr6:=rok_zo HZ3.out HZ.out.2.2.2.uf hL6;have hLl6:L6.length≤14:=by have:=HZ3.out.total_eq hL6;omega
 have hrl:rs.length=L6.length:=by have:=congrArg List.length hsay6;simpa using this
 obtain⟨Ar,cr,rfl,_⟩:=own_form hrs6.row;have hcp:Cs w6 (some ⟨w2.heap.size,0,none⟩) ([(4+q,b)].flatMap upC):=HC3.out.1.below hb6;have hcs:Cs (w6.alloc (.cells #[.int .u8 0,.int .u32 (k:Int)] 86)) (some ⟨w6.heap.size,0,none⟩) ([(0,k)].flatMap upC):=cs_new w6 86 [.int .u8 0,.int .u32 (k:Int)] (0,0)
 have b7:Below w6.heap.size w6 (w6.alloc (.cells #[.int .u8 0,.int .u32 (k:Int)] 86)):=bAl;have HUU:=hid (UUpdate _ (some ⟨w2.heap.size,0,none⟩) [(4+q,b)] 1 _ [(0,k)] 1 (hcp.below b7) hcs (fun p hp=>(List.mem_singleton.1 hp)▸⟨by show 4+q < 256;omega,hb⟩) (fun p hp=>(List.mem_singleton.1 hp)▸⟨by show 0 < 256;decide,hk⟩) (by simp) (by simp))
 have HR6:=hid (And.intro hrs6 (And.intro hL6 (And.intro hsay6 (And.intro hr6 (And.intro hrl hLl6)))));have HB6:=hid (And.intro hb26 (And.intro hb06 hZ6));have hs6:=hb06.size;clear hcs hcp hrs6 hL6 hsay6 hr6 hb26 hb06 hZ6 hb6 HRC hrl hLl6;go_wp2_with fail;generalize w6.alloc (.cells #[.int .u8 0,.int .u32 (k:Int)] 86)=w7 at *;refine HUU.out.mono ?_
 rintro e w8 ⟨hb8,bq,Aq,cn8,cq,Ap,cp,Au,cu,pb,ub,rfl,hq,hpu,huu,hps,hus⟩;have hpl:pb.length=1:=by have:=congrArg List.length hps;simpa using this
 have hul:ub.length=1:=by have:=congrArg List.length hus;simpa using this
 have hps:pb.map UcB.says=[upR (4+q) b true]:=hps;have hus:ub.map UcB.says=[upR 0 k false]:=hus;have hmem:∀r∈ub,r.says=upR 0 k false:=fun r hr=>by
  have:r.says∈ub.map UcB.says:=List.mem_map.2 ⟨r,hr,rfl⟩;rw[hus]at this;simpa using this
 have hmep:∀r∈pb,r.says=upR (4+q) b true:=fun r hr=>by
  have:r.says∈pb.map UcB.says:=List.mem_map.2 ⟨r,hr,rfl⟩;rw[hps]at this;simpa using this
 have hb68:Below w6.heap.size w6 w8:=b7.trans (hb8.mono b7.size);have hZ8:=HB6.out.2.2.ext hb68
 have HAp:=hid (UApply w8 Bz z S F N T hZ8 HZ.out.2.2.2.uf 60 9 5 bq 0 cq Aq cn8 Ap pb cp _ Au ub cu _ hq hpu huu (by omega) (by omega) (by omega) (by omega) (fun r hr=>⟨by rw[hmep r hr];exact upR_ok (4+q) b true,fun e=>upR_cl4 hq4 ((congrArg UR.cl (hmep r hr)).symm.trans e)⟩) (fun r hr=>by rw[hmem r hr];exact upR_ok 0 k false) (fun _ r hr=>by rw[hmem r hr];exact upR_rok 0 k))
 rw[hus,hps]at HAp;obtain⟨cd,hcd⟩:∃cd,codeU F 60 [upR (4+q) b true] [upR 0 k false]=cd:=⟨_,rfl⟩
 rw[hcd]at HAp HCD;have HAp2:Hid (Calls prog 47 #[.pointer (some ⟨z,0,none⟩),.int .u32 60,.agg (msgV 9 5 (.slice (some ⟨bq,0,none⟩) 1 cq) (.slice Ap pb.length cp) (.slice Au ub.length cu))] w8 fun e w9=>∃A9 n9 c9,e=.returned (.tuple #[.int .i64 cd,.slice A9 n9 c9])∧Kept (fun k=>k=z) w8 w9∧(cd≠0→n9=0∧Below w8.heap.size w8 w9)):=hid (HAp.out.mono (by
  rintro e w9 (⟨h0,rfl,hb9⟩|⟨h0,S',N',T',v9,xs,L',M,rfl,hz9,hN9,hT9,hk9,hS9,hch9,_⟩)
  ·exact⟨none,0,0,rfl,(Kept.of_ext hb9).mono fun _ _ e=>e.elim,fun _=>⟨rfl,hb9⟩⟩
  ·obtain⟨A9,c9,rfl,_⟩:=own_form hch9.row;exact⟨A9,_,c9,by rw[h0],hk9,fun h=>absurd h0 h⟩))
 have HPL:=hid (And.intro hpl hul);have HB8:=hid (And.intro (HB6.out.2.1.trans (hb68.mono hs6)) (And.intro hZ8 (And.intro (HR6.out.1.below hb68) (HZ.out.2.1.below (HB6.out.1.trans (hb68.mono HB6.out.1.size))))));clear b7 HUU hb8 hq hpu huu hps hus hmem hmep hb68 hZ8 hpl hul HAp hcd;go_wp2_with fail;refine HAp2.out.mono ?_;rintro e w9 ⟨A9,n9,c9,rfl,hk9,hc9⟩
 have hb09:Below w.heap.size w w9:=HB8.out.1.trans (hk9.below HB8.out.1.size (fun k2 hk2 e=>by omega));have hR9:=HB8.out.2.2.2.kept hk9 (zonalK HB8.out.2.1);have HB9:=hid (And.intro hb09 (And.intro hR9 hc9));have hs9:=hb09.size;clear hk9 hb09 hR9 hc9 HAp2;go_wp2_with fail;refine(RecordA b hb w9).mono ?_;rintro e w10 ⟨v,rfl,⟨An,cn,Ad,cd10,rfl,hNm,hD⟩,hb10⟩
 have b11:Below w10.heap.size w10 (w10.alloc (.cells #[.slice An (recN b).length cn,.int .u16 ((recT b:Nat):Int),.int .u16 1,.int .u32 ((ttlK b:Nat):Int),.slice Ad (recD b).length cd10] 39)):=bAl
 have c11:=heap_alloc_new w10 (.cells #[.slice An (recN b).length cn,.int .u16 ((recT b:Nat):Int),.int .u16 1,.int .u32 ((ttlK b:Nat):Int),.slice Ad (recD b).length cd10] 39);have hs10:=hb10.size
 go_upto_region 10 with fail
 generalize w10.alloc (.cells #[.slice An (recN b).length cn,.int .u16 ((recT b:Nat):Int),.int .u16 1,.int .u32 ((ttlK b:Nat):Int),.slice Ad (recD b).length cd10] 39)=w11 at *;have hb911:Below w9.heap.size w9 w11:=hb10.trans (b11.mono hs10);obtain⟨x0,x1,x2,x3,x4,_⟩:=cells5 c11;have HCN:=hid (cs_own (own_below hNm b11)).2;have HB11:=hid hb911;have hg11:=lt_block c11;have hs11:=hb911.size
 clear hNm hD hb10 b11 c11 hb911;generalize w10.heap.size=g at *;have HSE:=hid (RSet w11 w1.heap.size m R L (HB9.out.2.1.below HB11.out) (by omega) An (recN b) cn ((recT b:Nat):Int) HCN.out (recN_ok b).1.few);go_wp2_with fail;refine HSE.out.mono ?_;rintro e w12 ⟨hb12b,hset⟩;obtain⟨B1,n1,d1,t1,tl1,B2,n2,d2,ok,rfl,hok⟩:=set_says hset
 have b13:Below w12.heap.size w12 (w12.alloc (.cells #[.slice B1 n1 d1,.int .u16 t1,.int .u32 tl1,.slice B2 n2 d2] 54)):=bAl;have hs12b:=hb12b.size;have HOK:=hid (hok.trans (set_iff HZ.out.1 HZ.out.2.2.1 (recN b) ((recT b:Nat):Int)));replace x0:=(bcl hb12b hg11).trans x0
 go_upto_region 11 with fail
 generalize w12.alloc (.cells #[.slice B1 n1 d1,.int .u16 t1,.int .u32 tl1,.slice B2 n2 d2] 54)=w13 at *;have hb1113:Below w11.heap.size w11 w13:=hb12b.trans (b13.mono hs12b);replace x0:=(bcl b13 (by omega)).trans x0;have HB13:=hid hb1113;have hs13:=hb1113.size
 have HTY:=hid (RTypes w13 w1.heap.size m R L ((HB9.out.2.1.below HB11.out).below HB13.out) (by omega) An (recN b) cn (HCN.out.below HB13.out) (recN_ok b).1.few);clear x1 x2 x3 x4 b13 hb12b hset hok HSE hb1113;go_wp2_with fail;refine HTY.out.mono ?_;rintro e w14 ⟨hb14,A14,kk,c14,rfl,hkk⟩;have HKK:=hid (hkk.trans (stands_iff HZ.out.1 HZ.out.2.2.1 (recN b)))
 have hb914:Below w9.heap.size w9 w14:=HB11.out.trans ((HB13.out.mono hs11).trans (hb14.mono (Nat.le_trans hs11 hs13)));have HB14:=hid (And.intro hb914 (HB9.out.1.trans (hb914.mono hs9)));have hs14:=hb914.size;clear hkk hb14 hb914 x0 HTY;obtain⟨nm,hnm⟩:∃nm:Bool,decide ((0:Int) < (kk:Int))=nm:=⟨_,rfl⟩
 have HNM:Hid (nm=true↔standsC F (lower (recN b))=true):=hid (by rw[←hnm,←HKK.out];first|(simp;done)|(simp;omega));have HW:Hid (wantL F q b=wantB q ok nm):=hid (want_says hq4 HOK.out HNM.out);have HCW:=hid (by have h:=HCD.out;rw[HW.out]at h;exact h)
 go_upto_block 0 with fail
 have hnm2:decide (0 < kk)=nm:=by rw[←hnm];simp
 simp only[hnm,hnm2];clear hnm hnm2
 go_cut [19]from 65 to 80 (fun v wx=>v=.int .i64 (wantB q ok nm)∧wx=w14)
 case first=>
  have hqs:q=0∨q=1∨q=2∨q=3:=by omega
  clear HU HCD HQ HCW HW HNM HOK HC3;rcases hqs with rfl|rfl|rfl|rfl
  ·cases ok
   all_goals
    go_wp2_with fail;go_meet
    case rel=>exact⟨rfl,rfl⟩
  ·cases nm
   all_goals
    go_wp2_with fail;go_meet
    case rel=>exact⟨rfl,rfl⟩
  ·cases ok
   all_goals
    go_wp2_with fail;go_meet
    case rel=>exact⟨rfl,rfl⟩
  ·cases nm
   all_goals
    go_wp2_with fail;go_meet
    case rel=>exact⟨rfl,rfl⟩
 case rest=>
  obtain⟨rfl,rfl⟩:=hcut;generalize wantB q ok nm=wt at *;by_cases h0:wt=0
  ·have hc:=HCW.out.2 h0;have h0b:(wt !=0)=false:=by simp[h0]
   rcases hc with hc|hc
   ·have hcb:(cd==0)=true:=by simp[hc]
    clear hc h0;go_wp2_with fail;go_ret;exact⟨rfl,HB14.out.2⟩
   ·have hcb:(cd==0)=false:=by simp[hc]
    have hcb5:(cd==5)=true:=by simp[hc]
    clear hc h0;go_wp2_with fail;go_ret;exact⟨rfl,HB14.out.2⟩
  ·have hc:cd=wt:=HCW.out.1 h0;have hne:cd≠0:=by rw[hc];exact h0
   obtain⟨hn9,hb89⟩:=HB9.out.2.2 hne;have hn0:((n9:Nat):Int)=0:=by omega
   have h0b:(wt !=0)=true:=by simp[h0]
   have hcb:(cd==wt)=true:=by simp[hc]
   have hb814:Below w8.heap.size w8 wc:=hb89.trans (HB14.out.1.mono hb89.size);have hZ14:=HB8.out.2.1.ext hb814;have hrs14:=HB8.out.2.2.1.below hb814;have HRC2:=hid (hZ14.records (by omega) HZ.out.2.2.2.uf.few HZ.out.2.2.2.uf.short);have HE:=hid (And.intro hZ14 hrs14);clear hc hne hn9 hb89 hb814 hZ14 hrs14 h0;go_wp2_with fail;refine HRC2.out.mono ?_
   rintro e w15 ⟨hb15,v15,rs2,L15,rfl,hrs15,hL15,hsay15⟩;obtain⟨A15,c15,rfl,_⟩:=own_form hrs15.row;have hLe:L15=L6:=hL15.uniq HR6.out.2.1;have hr15:=rok_zo HE.out.1 HZ.out.2.2.2.uf hL15;have hrsE:=HE.out.2.below hb15;have hl2:rs2.length=L15.length:=by have:=congrArg List.length hsay15;simpa using this
   have h15:L6.length≤14:=HR6.out.2.2.2.2.2;have h16:=HR6.out.2.2.2.2.1;have hl2':L15.length=L6.length:=by rw[hLe]
   have HRR:=hid (HRecords w15 A15 Ar c15 cr rs2 rs _ _ hrs15 hrsE (by omega) (by omega) (fit_of2 hrs15 (by rw[hsay15];exact hr15)) (fit_of2 hrsE (by rw[HR6.out.2.2.1];exact HR6.out.2.2.2.1)));have HFE:Hid (rs2.map RcB.says=rs.map RcB.says):=hid (by rw[hsay15,HR6.out.2.2.1,hLe]);have HB15:=hid (HB14.out.2.trans (hb15.mono HB14.out.2.size))
   clear hrs15 hL15 hsay15 hLe hr15 hrsE hl2 h15 h16 hl2' hb15;go_wp2_with fail;refine HRR.out.mono ?_;rintro e w16 ⟨hb16,rfl⟩;rw[decide_eq_true HFE.out];have HB16:=hid (HB15.out.trans (hb16.mono HB15.out.size));clear hb16;go_wp2_with fail;go_ret;exact⟨rfl,HB16.out⟩
end Nm
theorem ints_of_row{k:IntKind}{w:World}{a:Option Addr}{len cap:Nat}{zs:List Int}
 (h:(a=none∧len=0∧cap=0∧zs=[])∨∃x,a=some x∧len≤cap∧cap≤maxLen∧zs.length=cap∧(∀i,i < zs.length→w.cell? (x.add i)=some (.int k (zs.getD i 0)))∧∀n∈zs,(Lit.int k n).wf=true):
 ∃l:List Int,l.length=len∧Cs w a (l.map (Value.int k))∧∀n∈l,(Lit.int k n).wf=true:=by
 rcases h with⟨rfl,rfl,rfl,rfl⟩|⟨x,rfl,hl,hm,hz,hcell,hwz⟩
 ·exact⟨[],rfl,Cs.nil _ _,fun n h=>by cases h⟩
 ·refine⟨zs.take len,by simp;omega, ?_,fun n hn=>hwz n (List.mem_of_mem_take hn)⟩;intro i u hu;rw[List.getElem?_map,List.getElem?_take]at hu;by_cases hi:i < len
  ·rw[if_pos hi]at hu;have hiz:i < zs.length:=by omega
   rw[List.getElem?_eq_getElem hiz]at hu;simp only[Option.map_some,Option.some.injEq]at hu;have hc:=hcell i hiz;obtain⟨b,off,spot⟩:=x;have hspot:spot=none:=by
    have h0:=hcell 0 (by omega);have:=World.cell?_spot h0;simpa[Addr.add]using this
   subst hspot;refine⟨b,off,rfl, ?_, ?_⟩
   ·rw[add_plain]at hc;exact World.block_lt_of_cell? w _ hc
   ·rw[add_plain]at hc;rw[hc,←hu];simp[List.getD,hiz]
  ·rw[if_neg hi]at hu;cases hu
namespace Nm
theorem u32_natsL{l:List Int}(hl:∀n∈l,(Lit.int .u32 n).wf=true):l.map (Value.int .u32)=(l.map Int.toNat).map u32K∧∀k∈l.map Int.toNat,k < 4294967296:=by
 have hb:∀n∈l,0≤n∧n < 4294967296:=fun n hn=>by
  have:=hl n hn;simp[Lit.wf,IntKind.min,IntKind.max,IntKind.signed,IntKind.bits]at this;omega
 constructor
 ·rw[List.map_map];refine List.map_congr_left fun x hx=> ?_;have:=hb x hx;show Value.int .u32 x=Value.int .u32 ((x.toNat:Nat):Int);congr 1;omega
 ·intro k hk;obtain⟨x,hx,rfl⟩:=List.mem_map.1 hk;have:=hb x hx;omega
theorem WLeansI(A:Option Addr)(cap:Nat)(l:List Int)(k b how:Int)(hl:∀n∈l,(Lit.int .u32 n).wf=true)(hk:(Lit.int .u32 k).wf=true)(hb:(Lit.int .u32 b).wf=true)(hh:(Lit.int .u8 how).wf=true)(w:World)(hA:Cs w A (l.map (Value.int .u32))):
 Calls prog 9 #[.slice A l.length cap,.int .u32 k,.int .u32 b,.int .u8 how] w fun e w'=>e=.returned (.bool true)∧Below w.heap.size w w':=by
 obtain⟨hm,hbl⟩:=u32_natsL hl;rw[hm]at hA;have hkb:0≤k∧k < 4294967296:=by
  simp[Lit.wf,IntKind.min,IntKind.max,IntKind.signed,IntKind.bits]at hk;omega
 have hbb:0≤b∧b < 4294967296:=by
  simp[Lit.wf,IntKind.min,IntKind.max,IntKind.signed,IntKind.bits]at hb;omega
 have hhb:0≤how∧how < 256:=by
  simp[Lit.wf,IntKind.min,IntKind.max,IntKind.signed,IntKind.bits]at hh;omega
 have h:=WLeans w A (l.map Int.toNat) cap k.toNat b.toNat how.toNat (by omega) (by omega) (by omega) hA hbl;rw[List.length_map,show((k.toNat:Nat):Int)=k from by omega,show((b.toNat:Nat):Int)=b from by omega,show((how.toNat:Nat):Int)=how from by omega]at h;exact h
end Nm
end Go.Proofs.YtmbdoacafhljkaaGreat
