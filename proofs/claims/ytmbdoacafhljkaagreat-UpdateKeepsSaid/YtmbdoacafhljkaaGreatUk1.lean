/- Texts merged by a program: Opn, UPlz, RSet, LeansP, KeepsP, OpenU, WKeeps, Ints, WKeepsI. -/
import Derived.Laws.ResultCell
import Derived.Deep.SlicePairs
import Derived.Test.YtmbdoacafhljkaaGreatUh1
import Derived.Test.YtmbdoacafhljkaaGreatUh2
import Derived.Test.YtmbdoacafhljkaaGreatUh3
import Derived.Test.YtmbdoacafhljkaaGreatUh4
import Derived.Test.YtmbdoacafhljkaaGreatUh5
import Derived.Test.YtmbdoacafhljkaaGreatUh6
import Derived.Test.YtmbdoacafhljkaaGreatUh7
import Derived.Test.YtmbdoacafhljkaaGreatUh8
import Derived.Test.YtmbdoacafhljkaaGreatUh9
import Derived.Test.YtmbdoacafhljkaaGreatUh10
import Derived.Test.YtmbdoacafhljkaaGreatUh11
import Derived.Test.YtmbdoacafhljkaaGreatUh12
import Derived.Test.YtmbdoacafhljkaaGreatUh13
import Derived.Test.YtmbdoacafhljkaaGreatUh14
import Derived.Test.YtmbdoacafhljkaaGreatUh15
import Derived.Test.YtmbdoacafhljkaaGreatUh16
import Derived.Test.YtmbdoacafhljkaaGreatUh17
import Derived.Test.YtmbdoacafhljkaaGreatUh18
set_option linter.unusedSimpArgs false
set_option linter.unusedVariables false
set_option maxRecDepth 1000000
set_option maxHeartbeats 20000000
open Go.Proofs.Tryz
namespace Go.Proofs.YtmbdoacafhljkaaGreat
open Go.RowKit
namespace W
def setL(l:List UInt8):Nat→List UInt8→List UInt8
 |_,[]=>l
 |o,x::xs=>setL (l.set o x) (o+1) xs
end W
namespace Nm
theorem told_ser{F G:Cont}(hF:UK F)(hG:UK G){L M:List PR}(hL:LstP F L)(hM:LstP G M)(h:∀x,x∈L.map PR.says↔x∈M.map PR.says):serF G=serF F:=by
 obtain⟨ttl,s,m,g1,g2,g3,g4,_⟩:=hF.serF_lt;obtain⟨ttl',s',m',k1,k2,k3,k4,_⟩:=hG.serF_lt;have h1:(⟨[exL],6,ttl,soaD s m,soaD s m⟩:PR)∈L:=(hL.mem _).2 ⟨_,g3,by simp⟩;have h2:=(h _).1 (List.mem_map.2 ⟨_,h1,rfl⟩);obtain⟨p,hp,e⟩:=List.mem_map.1 h2;unfold PR.says at e;simp only[Prod.mk.injEq]at e;obtain⟨e1,e2,e3,e4⟩:=e;obtain⟨ds,h3,h4⟩:=(hM.mem p).1 hp;rw[e1,e2,k3]at h3
 injection h3 with h3;injection h3 with _ h3;subst h3;simp only[List.mem_singleton,Prod.mk.injEq]at h4;have h5:soaD s' m'=soaD s m:=by rw[←h4.1,e4]
 have h6:(soaM (soaD s' m')).s1=(soaM (soaD s m)).s1:=congrArg (fun d=>(soaM d).s1) h5;rw[soaD_m k1 k2,soaD_m g1 g2]at h6;rw[k4,g4];exact h6
theorem info_blob1:(prog.info? 37).map (fun i=>(i.zero,i.size,i.bytes))=some (some (.slice none 0 0),1,24):=by kernel_rfl
theorem yield_blob1{ops:Array Oper}{o:Oper}{a:Act}{W:World}{R:Value→World→Prop}(hgd:o.guard=none)(sl x:Operand){t:TypeId}(ht:prog.underlying t=some (.slice 37))
 (ho:o.op=.call {callee:=.builtin .append,args:= #[sl,x],argTypes:= #[t,t]}) {B:Nat} {v:Value} {n:Nat} {xs us:List Value} (hs:a.eval sl=v) (hown:W.ownsRow B 37 1 v n xs) (hB:B≤W.heap.size)
 {b:Addr} {c:Nat} (hx:a.eval x=.slice (some b) us.length c) (hcs:Cs W (some b) us) (h1:∀u∈us,u.oneCell'=true) (hn:n+us.length≤1000000)
 (h:∀v' W',W'.ownsRow B 37 1 v' (n+us.length) (xs++us)→Moved v W v' W'→R v' W'):opYield prog ops o a W R:=by
 obtain⟨i0,hi,hz0,hz1,hz2⟩:=info_parts info_blob1;have hw:Region.wanted o (yielded ops a.tmps)=true:=by simp[Region.wanted,hgd]
 rw[opYield_def,if_pos hw];obtain⟨v',W',hr,h2,h3,_,h5⟩:=run_append_own_at (P:=prog) W B t o.type 37 i0 _ 1 24 ht hi hz0 hz1 hz2 rfl (by decide) v n xs hown b us.length c us (by simp) hcs.cells h1 (by unfold maxLen;omega) (by omega) hB;unfold execOp;simp only[ho,resolve,invoke,builtin,Sem.run_bind,Sem.run_pure,Result.andThen_ok,List.map_toArray,List.map_cons,List.map_nil,hs,hx,hr]
 refine h v' W' h2 ⟨Kept.of_grown h3,fun k hk=> ?_⟩;rcases h5 with h5|h5
 ·exact .inl (h5▸hk)
 ·rw[h5]at hk;cases hk;exact .inr (Nat.le_refl _)
def setL(L:List PR)(n:List Lab)(t:Int):List PR:=L.filter fun x=>decide (x.n=lower n)&&decide (x.t=t)
theorem setL_mem{L:List PR}{n:List Lab}{t:Int}{x:PR}:x∈setL L n t↔x∈L∧x.n=lower n∧x.t=t:=by
 unfold setL;rw[List.mem_filter];simp
theorem setL_next{L:List PR}{n:List Lab}{t:Int}{j:Nat}(hj:j < L.length):setL (L.take (j+1)) n t=setL (L.take j) n t++(if(L[j]).n=lower n∧(L[j]).t=t then[L[j]]else[]):=by
 unfold setL;rw[List.take_succ_eq_append_getElem hj,List.filter_append];congr 1;by_cases h:(L[j]).n=lower n∧(L[j]).t=t
 ·rw[if_pos h];simp[h.1,h.2]
 ·rw[if_neg h];rw[List.filter_eq_nil_iff];intro x hx;have:x=L[j]:=by simpa using hx
  subst this;simpa using h
theorem recAt3{w:World}{B:Nat}{A:Option Addr}{c ln:Nat}{rs:List RcB}{L:List PR}(h:RecsV w B (.slice A ln c) rs)(hsay:rs.map RcB.says=L.map PR.says)(hg:∀x∈L,PG x){j:Nat}(hj:j < L.length):
 ∃a:RcV,∃b off,A=some ⟨b,off,none⟩∧b < w.heap.size∧a.ok w∧a.pr=L[j]∧BlobOwn w B ⟨a.D,a.d,a.cd⟩∧w.cell? ⟨b,off+j *5,none⟩=some (.slice a.A a.n.length a.cn)∧w.cell? ⟨b,off+j *5+1,none⟩=some (.int .u16 (a.t:Int))∧w.cell? ⟨b,off+j *5+3,none⟩=some (.int .u32 a.ttl)∧w.cell? ⟨b,off+j *5+4,none⟩=some (.slice a.D a.d.length a.cd):=by
 have hl:rs.length=L.length:=by have:=congrArg List.length hsay;simpa using this
 have hj':j < rs.length:=by omega
 obtain⟨b,off,rfl,hb,h0,h1,h2,h3,h4⟩:=h.at2 hj';have ho:=h.own _ (List.getElem_mem hj');have hs:(rs[j]).says=(L[j]).says:=by
  have:=congrArg (fun l=>l[j]?) hsay;simp only[List.getElem?_map,List.getElem?_eq_getElem hj',List.getElem?_eq_getElem hj]at this;injection this
 have hp:=hg _ (List.getElem_mem hj);obtain⟨m,hm,hgm⟩:=hp.ty;generalize L[j]=x at *;generalize rs[j]=r at *;obtain⟨⟨An,n,cn⟩,t,ttl,⟨Ad,d,cd⟩⟩:=r;obtain⟨xn,xt,xttl,xd,xc⟩:=x;unfold RcB.says PR.says at hs;simp only[Prod.mk.injEq]at hs;obtain⟨e1,e2,e3,e4⟩:=hs;simp only at hm;subst e1 e2 e3 e4 hm;have hn1:=cs_own ho.1;have hd1:=cs_own ho.2;have hcap:=own_caps ho.2
 refine⟨⟨An,n,cn,m,1,ttl,Ad,d,cd⟩,b,off,rfl,hb,⟨hn1.2,hp.small.few,hgm,hd1.2,hp.chk,hp.len,hcap.1,hcap.2⟩, ?_,ho.2,h0,h1,h3,h4⟩;unfold RcV.pr;have:=hp.can;simp only at this;rw[this]
def SetB(W:World)(g:Nat)(nv:Value)(t ttl:Int)(D:Value):Prop:=W.heap[g]? =some (.cells #[nv,.int .u16 t,.int .u32 ttl,D] 54 (0,0))
theorem SetB.ext{W W':World}{g:Nat}{nv:Value}{t ttl:Int}{D:Value}(h:SetB W g nv t ttl D)(hE:Ext W W'):SetB W' g nv t ttl D:=(hE.block g (lt_block h)).trans h
def TS(g:Nat)(v0:Value)(i:Nat)(W W':World):Prop:=if i=11 then Kept (fun k=>v0.ownBlock=some k) W W' else if i=13 then Kept (fun k=>k=g) W W' else Ext W W'
theorem TS_keep{g:Nat}{v0:Value}{i:Nat}{W0 W W':World}(h:TS g v0 i W W')(hC:Kept (fun k=>v0.ownBlock=some k∨k=g) W0 W):Kept (fun k=>v0.ownBlock=some k∨k=g) W0 W':=by
 unfold TS at h;split at h
 ·exact hC.trans (h.mono fun _ _ e=>.inl e)
 ·split at h
  ·exact hC.trans (h.mono fun _ _ e=>.inr e)
  ·exact hC.trans ((Kept.of_ext h).mono fun _ _ h=>h.elim)
def RS(B N g m bb off ln c j:Nat)(v0 nv:Value)(t ttl:Int)(n:Nat)(xs:List Value)(bv:Value)(k:Nat)(v:Value)(W:World):Prop:=
 match k with
 |0=>v=.pointer (some ⟨g,3,none⟩)
 |1=>v=v0
 |2=>v=.pointer (some ⟨m,0,none⟩)
 |3=>v=.pointer (some ⟨m,0,none⟩)
 |4=>v=.pointer (some ⟨m,1,none⟩)
 |5=>v=.slice (some ⟨bb,off,none⟩) ln c
 |6=>v=.int .i64 (j:Int)
 |7=>v=.pointer (some ⟨bb,off+j *5,none⟩)
 |8=>v=.pointer (some ⟨bb,off+j *5+4,none⟩)
 |9=>v=bv
 |10=>W.ownsRow N 37 1 v 1 [bv]
 |11=>W.ownsRow B 37 1 v (n+1) (xs++[bv])∧SetB W g nv t ttl v0
 |12=>v=.pointer (some ⟨g,3,none⟩)
 |13=>∃A cc,W.ownsRow B 37 1 (.slice A (n+1) cc) (n+1) (xs++[bv])∧SetB W g nv t ttl (.slice A (n+1) cc)
 |_=>True
theorem RS_keep{ops:Array Oper}{B N g m bb off ln c q:Nat}{v0 nv:Value}{t ttl:Int}{n:Nat}{xs:List Value}{bv:Value}(hgN:g < N)(hvN:∀k,v0.ownBlock=some k→k < N)(hw:waitsT ops ops.size 13 11=true)
 {i j:Nat} {v:Value} {W W':World} (hij:i≠j) (hk:(i==13&&j==11)=false) (hwt:waitsT ops ops.size j i=false) (h:RS B N g m bb off ln c q v0 nv t ttl n xs bv j v W) (hT:TS g v0 i W W'):RS B N g m bb off ln c q v0 nv t ttl n xs bv j v W':=by
 unfold TS at hT;rcases j with _|_|_|_|_|_|_|_|_|_|_|_|_|_|j
 ·exact h
 ·exact h
 ·exact h
 ·exact h
 ·exact h
 ·exact h
 ·exact h
 ·exact h
 ·exact h
 ·exact h
 ·have h1:W.ownsRow N 37 1 v 1 [bv]:=h;show W'.ownsRow N 37 1 v 1 [bv];split at hT
  ·exact Kept.row h1 hT (fun k hk2 e=>by have:=(h1.lt k hk2).1;have:=hvN k e;omega)
  ·split at hT
   ·exact Kept.row h1 hT (fun k hk2 e=>by have:=(h1.lt k hk2).1;omega)
   ·exact own_below h1 hT
 ·obtain⟨h1,h3⟩:=h;rw[if_neg hij]at hT;split at hT
  ·rename_i e;rw[e]at hk;cases hk
  ·exact⟨own_below h1 hT,h3.ext hT⟩
 ·exact h
 ·obtain⟨A,cc,h1,h3⟩:=h;split at hT
  ·rename_i e;subst e;rw[hw]at hwt;cases hwt
  ·exact⟨A,cc,own_below h1 hT,h3.ext hT⟩
 ·trivial
theorem own_rowB(w:World)(B:Nat)(a:Value)(hB:B≤w.heap.size):(w.alloc (.cells #[a] 37)).ownsRow B 37 1 (.slice (some ⟨w.heap.size,0,none⟩) 1 1) 1 [a]:=
 ⟨rfl,.inr ⟨w.heap.size,1, #[a],rfl,hB,heap_alloc_new w _,Nat.le_refl _,by unfold maxLen;omega,rfl,rfl⟩⟩
theorem own_one{W:World}{N:Nat}{v x:Value}(h:W.ownsRow N 37 1 v 1 [x]):∃b c,v=.slice (some b) 1 c∧Cs W (some b) [x]:=by
 obtain⟨A,c,rfl,_⟩:=own_form h;have hc:=cs_own2 h;obtain⟨b,off,rfl,_⟩:=hc 0 x rfl;exact⟨_,c,rfl,hc⟩
def SetLp(L:List PR)(n:List Lab)(t:Int)(B g:Nat)(nv:Value)(w3:World)(i:Value)(wr:World):Prop:=
 ∃(j:Nat) (ttl:Int) (bl:List Blob) (Ad:Option Addr) (cd:Nat),j≤L.length∧i=.int .i64 (j:Int)∧SetB wr g nv t ttl (.slice Ad bl.length cd)∧wr.ownsRow w3.heap.size 37 1 (.slice Ad bl.length cd) bl.length (bl.map Blob.v)∧bl.map (·.l)=(setL (L.take j) n t).map (·.d)∧(∀y∈bl,BlobOwn wr B y)∧(bl≠[]→∃x∈setL (L.take j) n t,x.ttl=ttl)∧Kept (fun k=>k=g) w3 wr
def SetP(w':World)(B N:Nat)(e:Ending)(n:List Lab)(t:Int)(M:List PR):Prop:=
 (M=[]∧e=.returned (.tuple #[.agg #[.slice none 0 0,.int .u16 0,.int .u32 0,.slice none 0 0],.bool false]))∨
 (∃(Am:Option Addr) (cm:Nat) (Ad:Option Addr) (cd:Nat) (ttl:Int) (bl:List Blob),e=.returned (.tuple #[.agg #[.slice Am n.length cm,.int .u16 t,.int .u32 ttl,.slice Ad bl.length cd],.bool true])∧w'.ownsRow N 9 1 (.slice Am n.length cm) n.length ((lower n).map strV)∧w'.ownsRow N 37 1 (.slice Ad bl.length cd) bl.length (bl.map Blob.v)∧bl.map (·.l)=M.map (·.d)∧(∀y∈bl,BlobOwn w' B y)∧∃x∈M,x.ttl=ttl)
theorem set_fin{P:Program}{fn:Func}{R:Ending→World→Prop}{a:Act}{x:Nat}{w5:World}{c0 c1 c2 c3:Value}{T:TypeId}(hc:w5.heap[x]? =some (.cells #[c0,c1,c2,c3] T (0,0))){a0 a1 a2 a3 v:Value}(hd:a.defers=[])
 (hr:∀W:World,W.cell? ⟨x,0,none⟩=some a0→W.cell? ⟨x,1,none⟩=some a1→W.cell? ⟨x,2,none⟩=some a2→W.cell? ⟨x,3,none⟩=some a3→(results fn a.tmps).run P W=.ok v W)
 (hR:∀W,Kept (fun k=>k=x) w5 W→R (.returned v) W):
 bodyPost P fn R .ret a ((((w5.setCell ⟨x,0,none⟩ a0).setCell ⟨x,1,none⟩ a1).setCell ⟨x,2,none⟩ a2).setCell ⟨x,3,none⟩ a3):=by
 have hH:=heap_set (i:=3) (v:=a3) (heap_set (i:=2) (v:=a2) (heap_set (i:=1) (v:=a1) (heap_set (i:=0) (v:=a0) hc)));have hx:∀j,((fun k=>k=x) (Addr.block ⟨x,j,none⟩)):=fun _=>rfl;have HF:=hR _ (((((Kept.refl (fun k=>k=x) w5).setCell (fun _=>hx 0) a0).setCell (fun _=>hx 1) a1).setCell (fun _=>hx 2) a2).setCell (fun _=>hx 3) a3)
 obtain⟨y0,y1,y2,y3,_⟩:=cells4 (T:=T) (c0:=a0) (c1:=a1) (c2:=a2) (c3:=a3) (g:=x) (by simpa using hH);exact bodyPost_ret (hr _ y0 y1 y2 y3) hd HF
theorem RSet(w:World)(B m:Nat)(S:Nat→Prop)(L:List PR)(h:RZo w B m S L)(hlen:L.length≤1000)(An:Option Addr)(n:List Lab)(cn:Nat)(t:Int)(hAn:Cs w An (n.map strV))(hn:Few n):
 Calls prog 25 #[.pointer (some ⟨m,0,none⟩),.slice An n.length cn,.int .u16 t] w fun e w'=>Below w.heap.size w w'∧SetP w' B w.heap.size e n t (setL L n t):=by
 obtain⟨Aa,ca,A,c,rs,hm,hap,hrs,hsay,hS⟩:=h.ex;have hll:rs.length=L.length:=by have:=congrArg List.length hsay;simpa using this
 have HRS:=hid (And.intro hrs (And.intro hsay h.good));have HN:=hid (And.intro hAn hn);obtain⟨_,m1,_⟩:=cells2 hm;have hmw:=lt_block hm;obtain⟨ln,hln⟩:∃ln,rs.length=ln:=⟨_,rfl⟩
 rw[hln]at HRS m1 hll;have HLL:Hid (L.length=ln):=hid hll.symm;clear hm hap hrs hsay hS h hAn hn hll hln;have b1:Below w.heap.size w (w.alloc (.cells #[.slice none 0 0,.int .u16 0,.int .u32 0,.slice none 0 0] 54)):=bAl;have c1:=heap_alloc_new w (.cells #[.slice none 0 0,.int .u16 0,.int .u32 0,.slice none 0 0] 54);go_enter func25,ntmps25
 go_upto_region 1 with fail
 generalize w.alloc (.cells #[.slice none 0 0,.int .u16 0,.int .u32 0,.slice none 0 0] 54)=w1 at *;have hs1:=b1.size;go_wp2_with fail;refine(RLower An n cn w1 (HN.out.1.below b1) HN.out.2).mono ?_;rintro e w2 ⟨v,rfl,hown,hb2⟩;obtain⟨Am,cm,rfl,_⟩:=own_form hown;have hb12:=b1.trans (hb2.mono hs1);have c12:=(hb2.block _ (lt_block c1)).trans c1;have hs2:=hb2.size;have hr1:=lt_block c1
 have b3:Below w2.heap.size w2 (w2.alloc (.cells #[.slice Am n.length cm,.int .u16 t,.int .u32 0,.slice none 0 0] 54)):=bAl;have c3:=heap_alloc_new w2 (.cells #[.slice Am n.length cm,.int .u16 t,.int .u32 0,.slice none 0 0] 54)
 go_upto_region 2 with fail
 generalize w2.alloc (.cells #[.slice Am n.length cm,.int .u16 t,.int .u32 0,.slice none 0 0] 54)=w3 at *;have hb3:=hb12.trans (b3.mono hb12.size);have hown3:=own_base (own_below hown b3) hs1;have c13:=(b3.block _ (by omega)).trans c12;have hsb3:SetB w3 w2.heap.size (.slice Am n.length cm) t 0 (.slice none 0 0):=c3;obtain⟨g,hg⟩:∃g,w2.heap.size=g:=⟨_,rfl⟩
 rw[hg]at hsb3
 try rw[hg]
 have hrg:w.heap.size < g:=by omega
 have hwg:w.heap.size≤g:=by omega
 have HG:=hid hg;have HB3:=hid hb3;have HSB3:=hid hsb3;have HO3:=hid (And.intro hown3 c13);clear b1 c1 hb2 hb12 c12 b3 c3 hown hown3 c13 hb3 hr1 hs1 hs2 hg;go_wp2_with fail
 go_loopw [9] (SetLp L n t B g (.slice Am n.length cm) w3) (fun i _=>L.length - (intOf i).toNat)
 case atStart=>exact⟨0,0,[],none,0,Nat.zero_le _,rfl,hsb3,World.ownsRow_nil _ _ _ _,by simp[setL],fun y hy=>(by cases hy),fun h=>absurd rfl h,Kept.refl _ _⟩
 case round=>
  obtain⟨j,ttl,bl,Ad,cd,hj,rfl,hsb,hrow,hbl,hbo,httl,hk⟩:=hrel;have HU:=hid (And.intro hrow (And.intro hbl (And.intro hbo httl)));have HK:=hid hk;have hbel:Below w.heap.size w wr:=HB3.out.trans (hk.below HB3.out.size (fun k hk2 e=>by omega));have hsr:=hbel.size;have mm1:=(bcl (o:=1) hbel hmw).trans m1;have hml:m < wr.heap.size:=by omega
  have hgl:g < wr.heap.size:=lt_block hsb;have hmg:g≠m:=by omega
  clear hrow hbl hbo httl hk hsb3;by_cases hlt:j < L.length
  ·obtain⟨a,bb,off,rfl,hbb,haok,hapr,haown,p0,p1,p3,p4⟩:=recAt3 (HRS.out.1.below hbel) HRS.out.2.1 HRS.out.2.2 hlt;have hlt':j < ln:=by have:=HLL.out;omega
   have hltI:(j:Int) < (ln:Int):=by omega
   have hbbw:bb < w.heap.size:=(HRS.out.1.row.lt bb rfl).2;have HAO:=hid haok;have HAW:=hid haown;have hnm:a.n=(L[j]).n:=by rw[←hapr];rfl
   have hty:(a.t:Int)=(L[j]).t:=by rw[←hapr];rfl
   have hda:a.d=(L[j]).d:=by rw[←hapr];rfl
   have hta:a.ttl=(L[j]).ttl:=by rw[←hapr];rfl
   have hlow:=(HRS.out.2.2 _ (List.getElem_mem hlt)).low;have HNM:Hid (a.n=(L[j]).n∧lower (L[j]).n=(L[j]).n∧(a.t:Int)=(L[j]).t∧a.d=(L[j]).d∧a.ttl=(L[j]).ttl):=hid ⟨hnm,hlow,hty,hda,hta⟩;have HNX:=hid (setL_next (n:=n) (t:=t) hlt);have hiff:(L[j]).n=lower n↔same a.n n=true:=by rw[same_iff,hnm,hlow]
   clear haok hapr haown hnm hlow hty hda hta;cases hm1:(decide ((a.t:Int)=t)&&same a.n n)with
   |false=>
    have hno:setL (L.take (j+1)) n t=setL (L.take j) n t:=by
     rw[HNX.out,if_neg,List.append_nil];rintro⟨e1,e2⟩;rw[hiff.1 e1,←e2,←HNM.out.2.2.1]at hm1;simp at hm1
    have HNO:=hid hno;clear hno hiff;by_cases hte:(a.t:Int)=t
    ·have hsm:same a.n n=false:=by simpa[hte]using hm1
     have HSM:=hid hsm;have hteb:((a.t:Int)==t)=true:=by simpa using hte
     clear hm1 hsm;go_wp2_with fail;refine(RSame a.A An a.n n a.cn cn wr (HAO.out.name) (HN.out.1.below hbel) HAO.out.few HN.out.2).mono ?_;rintro e W ⟨hE,rfl⟩;rw[HSM.out];have hE2:Below wr.heap.size wr W:=hE;have hbW:=hbel.trans (hE2.mono hsr);have hsz2:=hE2.size;have hsbW:SetB W g (.slice Am n.length cm) t ttl (.slice Ad bl.length cd):=SetB.ext hsb hE2
     have hkW:Kept (fun k=>k=g) w3 W:=HK.out.trans ((Kept.of_ext hE2).mono fun _ _ e=>e.elim);have HREL:Hid (SetLp L n t B g (.slice Am n.length cm) w3 (.int .i64 ((j:Int)+1)) W):=hid ⟨j+1,ttl,bl,Ad,cd,hlt,by go_num,hsbW,own_below HU.out.1 hE2,by rw[HNO.out];exact HU.out.2.1,fun y hy=>own_below (HU.out.2.2.1 y hy) hE2,by rw[HNO.out];exact HU.out.2.2.2,hkW⟩;clear hE hbW hE2 hsbW hkW
     go_wp2_with fail;exact⟨HREL.out,by simp[intOf];omega⟩
    ·have hteb:((a.t:Int)==t)=false:=by simpa using hte
     clear hm1;have HREL:Hid (SetLp L n t B g (.slice Am n.length cm) w3 (.int .i64 ((j:Int)+1)) wr):=hid ⟨j+1,ttl,bl,Ad,cd,hlt,by go_num,hsb,HU.out.1,by rw[HNO.out];exact HU.out.2.1,HU.out.2.2.1,by rw[HNO.out];exact HU.out.2.2.2,HK.out⟩;go_wp2_with fail;exact⟨HREL.out,by simp[intOf];omega⟩
   |true=>
    have hte:(a.t:Int)=t:=by
     have:=(Bool.and_eq_true _ _).mp hm1;simpa using this.1
    have hsm:same a.n n=true:=((Bool.and_eq_true _ _).mp hm1).2;have hteb:((a.t:Int)==t)=true:=by simpa using hte
    have HSM:=hid hsm;have hyes:setL (L.take (j+1)) n t=setL (L.take j) n t++[L[j]]:=by
     rw[HNX.out,if_pos ⟨hiff.2 hsm,by rw[←HNM.out.2.2.1];exact hte⟩]
    have HYES:=hid hyes;have hvl:∀k,(Value.slice Ad bl.length cd).ownBlock=some k→k < wr.heap.size:=fun k hk=>(HU.out.1.lt k hk).2;have hgv:¬(Value.slice Ad bl.length cd).ownBlock=some g:=fun e=>by
     obtain⟨cs,q1,_⟩:=row_block HU.out.1 e;exact ne_cells q1 hsb (by decide) rfl
    have hbll:bl.length≤j:=by
     have h1:=congrArg List.length HU.out.2.1;have h2:(setL (L.take j) n t).length≤(L.take j).length:=List.length_filter_le _ _;simp at h1 h2;omega
    clear hm1 hsm hyes hiff;go_wp2_with fail;refine(RSame a.A An a.n n a.cn cn wr (HAO.out.name) (HN.out.1.below hbel) HAO.out.few HN.out.2).mono ?_;rintro e W ⟨hE,rfl⟩;rw[HSM.out];have hE2:Below wr.heap.size wr W:=hE;have hbW:=hbel.trans (hE2.mono hsr);obtain⟨s0,s1,s2,s3,sf⟩:=cells4 (SetB.ext hsb hE2);have mW:=(bcl (o:=1) hE2 hml).trans mm1;have p3W:=(bcl (o:=off+j *5+3) hE2 hbb).trans p3
    have p4W:=(bcl (o:=off+j *5+4) hE2 hbb).trans p4;have hgl2:g < W.heap.size:=by have:=hE2.size;omega
    have hbbg:g≠bb:=by omega
    have hsbW:=SetB.ext hsb hE2;clear hE
    go_upto_region 7 with fail
    have k6:Kept (fun k=>k=g) W (W.setCell ⟨g,2,none⟩ (.int .u32 a.ttl)):=(Kept.refl (fun k=>k=g) W).setCell (p:=⟨g,2,none⟩) (fun _=>rfl) _;have hsb6:SetB (W.setCell ⟨g,2,none⟩ (.int .u32 a.ttl)) g (.slice Am n.length cm) t a.ttl (.slice Ad bl.length cd):=heap_set hsbW
    have m6:(W.setCell ⟨g,2,none⟩ (.int .u32 a.ttl)).cell? ⟨m,1,none⟩=some (.slice (some ⟨bb,off,none⟩) ln c):=(setc_far hmg).trans mW;have p6:(W.setCell ⟨g,2,none⟩ (.int .u32 a.ttl)).cell? ⟨bb,off+j *5+4,none⟩=some (.slice a.D a.d.length a.cd):=(setc_far hbbg).trans p4W;generalize W.setCell ⟨g,2,none⟩ (.int .u32 a.ttl)=w6 at *
    have hkw6:Kept (fun k=>k=g) wr w6:=((Kept.of_ext hE2).mono fun _ _ e=>e.elim).trans k6;have hrow6:=row_far HU.out.1 hsb (by decide) hkw6;have hsz6:=hkw6.size;have hgl6:g < w6.heap.size:=by omega
    have hml6:m < w6.heap.size:=by omega
    have hbb6:bb < w6.heap.size:=by omega
    have hvl6:∀k,(Value.slice Ad bl.length cd).ownBlock=some k→k < w6.heap.size:=fun k hk=>by have:=hvl k hk;omega
    have hw3s:=HK.out.size;obtain⟨z0,z1,z2,z3,zf⟩:=cells4 hsb6;have HROW6:=hid hrow6;clear hbW hE2 s0 s1 s2 s3 sf mW p3W p4W hgl2 hsbW k6 hrow6;go_wp2_with fail
    refine wp_region_r2 mixed0 (by kernel_rfl) (fun i j=>i==13&&j==11) (by kernel_rfl) (TS g (.slice Ad bl.length cd)) (fun W=>Kept (fun k=>(Value.slice Ad bl.length cd).ownBlock=some k∨k=g) w6 W) (RS w3.heap.size w6.heap.size g m bb off ln c j (.slice Ad bl.length cd) (.slice Am n.length cm) t a.ttl bl.length (bl.map Blob.v) (.slice a.D a.d.length a.cd)) (fun W=>Below w6.heap.size w6 W) (fun i=>i==11||i==13) (Below.refl _ w6).drew ?_ ((Kept.refl _ w6).trans ⟨rfl,rfl,rfl,Nat.le_refl _,fun _ _ _=>rfl⟩) (fun i W W' h1 h2=>TS_keep h2 h1) (fun i j v W W' h1 h2 h3 _ h5 h6=>RS_keep hgl6 hvl6 (by kernel_rfl) h1 h2 h3 h5 h6) ?_ ?_
    ·intro i W W' hk hC h1 h2;have hi:i≠11∧i≠13:=by simpa using hk
     unfold TS at h2;rw[if_neg hi.1,if_neg hi.2]at h2;exact h1.trans (h2.mono h1.size)
    ·intro i o hio vals W hC haf hI;rcases i with _|_|_|_|_|_|_|_|_|_|_|_|_|_|i
     all_goals first
      |(exfalso;simp at hio;done)
      |skip
     all_goals
      simp at hio;subst hio;simp[bindD,rdB,Region.binds,RS]at haf
     ·simp[opU,go_sem,haf,TS,RS,Ext.refl]
     ·have hE:Below w6.heap.size w6 W:=hI (fun k hk h=>by
       have h20:k=11∨k=13:=by simpa using h
       rcases h20 with rfl|rfl <;> exact .inr (by kernel_rfl))
      have em:=(bcl (o:=3) hE hgl6).trans z3;simp[opU,go_sem,haf,em,TS,RS,Ext.refl]
     ·simp[opU,go_sem,haf,TS,RS,Ext.refl]
     ·simp[opU,go_sem,haf,TS,RS,Ext.refl]
     ·simp[opU,go_sem,haf,TS,RS,Ext.refl]
     ·have hE:Below w6.heap.size w6 W:=hI (fun k hk h=>by
       have h20:k=11∨k=13:=by simpa using h
       rcases h20 with rfl|rfl <;> exact .inr (by kernel_rfl))
      have em:=(bcl (o:=1) hE hml6).trans m6;simp[opU,go_sem,haf,em,TS,RS,Ext.refl]
     ·simp[opU,go_sem,haf,TS,RS,Ext.refl]
     ·simp[opU,go_sem,haf,TS,RS,Ext.refl,hltI,hlt']
     ·simp[opU,go_sem,haf,TS,RS,Ext.refl]
     ·have hE:Below w6.heap.size w6 W:=hI (fun k hk h=>by
       have h20:k=11∨k=13:=by simpa using h
       rcases h20 with rfl|rfl <;> exact .inr (by kernel_rfl))
      have em:=(bcl (o:=off+j *5+4) hE hbb6).trans p6;simp[opU,go_sem,haf,em,TS,RS,Ext.refl]
     ·have hsz:=hC.size;simp[opU,go_sem,haf,TS,RS];exact⟨bAl,own_rowB _ _ _ hsz⟩
     ·have hE:Below w6.heap.size w6 W:=hI (fun k hk h=>by
       have h20:k=11∨k=13:=by simpa using h
       rcases h20 with rfl|rfl
       ·exact .inl rfl
       ·exact .inr (by kernel_rfl))
      obtain⟨h1,h7⟩:=haf;obtain⟨b7,c7,e7,hc7⟩:=own_one h7;have hrow:=own_below HROW6.out hE
      refine yield_blob1 rfl (.tmp 55) (.tmp 64) underlying52 rfl (v:=.slice Ad bl.length cd) (by simp[relAct,dstAt,Act.put,Act.eval,h1]) hrow (by have:=hE.size;omega) (us:=[.slice a.D a.d.length a.cd]) (b:=b7) (c:=c7) (by simp[relAct,dstAt,Act.put,Act.eval,e7]) hc7 (fun u hu=>by simp at hu;subst hu;rfl) (by simp;omega) ?_;intro v' W' g1 g2
      have g3:Kept (fun k=>(Value.slice Ad bl.length cd).ownBlock=some k) W W':=g2.kept.mono fun _ _ e=>e.symm;refine⟨by simp only[TS];exact g3,by simpa[RS]using g1, ?_⟩;exact(g3.block g (by have:=hE.size;omega) (fun e=>hgv e)).trans ((hE.block g hgl6).trans hsb6)
     ·simp[opU,go_sem,haf,TS,RS,Ext.refl]
     ·obtain⟨h9,h8,hM8⟩:=haf;obtain⟨A8,c8,e8,_⟩:=own_form h8;rw[e8]at h8;have hM8:SetB W g (.slice Am n.length cm) t a.ttl (.slice Ad bl.length cd):=hM8;obtain⟨y0,y1,y2,y3,wf⟩:=cells4 hM8;simp[opU,go_sem,h9,e8,y3,wf,TS,RS];have hks:=(Kept.refl (fun k=>k=g) W).setCell (p:=⟨g,3,none⟩) (fun _=>rfl) (.slice A8 (bl.length+1) c8)
      exact⟨hks,A8,c8,by simpa using row_far h8 hM8 (by decide) hks,heap_set hM8⟩
    ·intro vals W9 hC hR;obtain⟨A8,c8,hrow8,hM8⟩:∃A cc,W9.ownsRow w3.heap.size 37 1 (.slice A (bl.length+1) cc) (bl.length+1) (bl.map Blob.v++[Value.slice a.D a.d.length a.cd])∧SetB W9 g (.slice Am n.length cm) t a.ttl (.slice A (bl.length+1) cc):=hR 13 (by decide) (fun i _=>by simp);have hC:Kept (fun k=>(Value.slice Ad bl.length cd).ownBlock=some k∨k=g) w6 W9:=hC
     have hCr:Kept (fun k=>(Value.slice Ad bl.length cd).ownBlock=some k∨k=g) wr W9:=(hkw6.mono fun _ _ e=>.inr e).trans hC;have hbo9:∀{y:Blob},BlobOwn wr B y→BlobOwn W9 B y:=fun{y} hy=>Kept.row hy hCr fun k hk2 ek=>by
      obtain⟨cs2,q1,_⟩:=row_block hy hk2;rcases ek with ek|ek
      ·obtain⟨cs3,q3,_⟩:=row_block HU.out.1 ek;exact ne_cells q1 q3 (by decide) rfl
      ·subst ek;exact ne_cells q1 hsb (by decide) rfl
     have hbl9:bl.length+1=(bl++[(⟨a.D,a.d,a.cd⟩:Blob)]).length:=by simp
     have hk9:Kept (fun k=>k=g) w3 W9:=HK.out.then hCr (fun k hk e=>by
      rcases e with e|e
      ·have:=(HU.out.1.lt k e).1;omega
      ·exact e)
     have HREL:Hid (SetLp L n t B g (.slice Am n.length cm) w3 (.int .i64 ((j:Int)+1)) W9):=hid (by
      refine⟨j+1,a.ttl,bl++[⟨a.D,a.d,a.cd⟩],A8,c8,hlt,by go_num,by rw[←hbl9];exact hM8,by rw[←hbl9,List.map_append];exact hrow8, ?_, ?_, ?_,hk9⟩
      ·rw[HYES.out,List.map_append,List.map_append,HU.out.2.1,List.map_singleton,List.map_singleton,HNM.out.2.2.2.1]
      ·intro y hy;rcases List.mem_append.1 hy with hy|hy
       ·exact hbo9 (HU.out.2.2.1 y hy)
       ·have:y=⟨a.D,a.d,a.cd⟩:=by simpa using hy
        rw[this];exact hbo9 HAW.out
      ·intro _;exact⟨L[j],by rw[HYES.out];simp,HNM.out.2.2.2.2.symm⟩)
     clear hR hC hCr hbo9 hbl9 hk9 hrow8;simp[relAct,dstAt,Act.put];generalize vals 0=k0,vals 1=k1;generalize vals 2=k2,vals 3=k3;generalize vals 4=k4,vals 5=k5;generalize vals 6=k6,vals 7=k7;generalize vals 8=k8,vals 9=k9;generalize vals 10=k10,vals 11=k11;generalize vals 12=k12,vals 13=k13;go_wp2_with fail
     exact⟨HREL.out,by simp[intOf];omega⟩
  ·have hlt':¬j < ln:=by have:=HLL.out;omega
   have hltI:¬(j:Int) < (ln:Int):=by omega
   have hjl:j=L.length:=by omega
   have HE:Hid (bl.map (·.l)=(setL L n t).map (·.d)∧(bl≠[]→∃x∈setL L n t,x.ttl=ttl)):=hid (by
    have h1:=HU.out.2.1;have h2:=HU.out.2.2.2;rw[hjl,List.take_length]at h1 h2;exact⟨h1,h2⟩)
   have cr:=(HK.out.block w.heap.size (by have:=lt_block HO3.out.2;omega) (by omega)).trans HO3.out.2;have hownr:=row_far HO3.out.1 HSB3.out (by decide) HK.out;obtain⟨s0,s1,s2,s3,sf⟩:=cells4 hsb;obtain⟨r0,r1,r2,r3,rf⟩:=cells4 cr;have HOR:=hid hownr;have HCR:=hid cr;have HBL:=hid hbel;clear hownr cr hbel hjl;by_cases hbn:bl=[]
   ·have hM:setL L n t=[]:=by
     have:=HE.out.1;rw[hbn]at this;exact List.map_eq_nil_iff.1 this.symm
    have hbl0:((bl.length:Nat):Int)=0:=by rw[hbn];rfl
    have HM:=hid hM;clear hM hbn;go_wp2_with fail;refine set_fin (v:=.tuple #[.agg #[.slice none 0 0,.int .u16 0,.int .u32 0,.slice none 0 0],.bool false]) HCR.out rfl (fun W y0 y1 y2 y3=> ?_) fun W hkW=> ?_
    ·simp[results,results25,go_sem,y0,y1,y2,y3]
    exact⟨HBL.out.trans (hkW.below HBL.out.size (fun k hk2 e=>by omega)),.inl ⟨HM.out,rfl⟩⟩
   ·have hbl0:¬((bl.length:Nat):Int)=0:=by have:=List.length_pos_iff.2 hbn;omega
    have HBN:=hid (HE.out.2 hbn);clear hbn;go_wp2_with fail;refine set_fin (v:=.tuple #[.agg #[.slice Am n.length cm,.int .u16 t,.int .u32 ttl,.slice Ad bl.length cd],.bool true]) HCR.out rfl (fun W y0 y1 y2 y3=> ?_) fun W hkW=> ?_
    ·simp[results,results25,go_sem,y0,y1,y2,y3]
    have hwl:=HBL.out.size;have hw3:=HB3.out.size;refine⟨HBL.out.trans (hkW.below HBL.out.size (fun k hk2 e=>by omega)),.inr ⟨Am,cm,Ad,cd,ttl,bl,rfl,row_far HOR.out HCR.out (by decide) hkW,row_far (own_base HU.out.1 hw3) HCR.out (by decide) hkW,HE.out.1,fun y hy=>row_far (HU.out.2.2.1 y hy) HCR.out (by decide) hkW,HBN.out⟩⟩
theorem zonalK{w:World}{B z:Nat}{S:Nat→Prop}{ap:List Lab}{F:Cont}{N T:Nat}(h:Zo w B z S ap F N T):Zonal (fun k=>k=z) w:=fun k hk cs t fr hg=>by
 subst hk;exact h.zonal _ h.at_z cs t fr hg
theorem keeps_ser2{F:Cont}(h:UK F){us:List UR}(hr:∀r∈us,URok r){L M:List PR}(hL:LstP F L)(hM:LstP (applyC F us) M)(r1:∀x∈L.map PR.says,ROk x)(r2:∀x∈M.map PR.says,ROk x):
 serF (applyC F us)=serF F↔diffL (L.map PR.says) (M.map PR.says)=[]:=by
 have ha:=h.apply hr;have h1:=h.steps hr;obtain⟨ttl,s,m,g1,g2,g3,g4,_⟩:=h.serF_lt;constructor
 ·intro he;by_cases hc:changedB F (us.foldl stepD F)=true
  ·exfalso;have hn:=(h1.next (old:=serF F) (by omega)).2;unfold applyC at he;rw[if_pos hc]at he;exact hn he
  ·have h2:applyC F us=us.foldl stepD F:=by unfold applyC;rw[if_neg hc]
   rw[h2]at hM;rcases Classical.em (diffL (L.map PR.says) (M.map PR.says)=[])with e|e
   ·exact e
   ·exact absurd ((changedB_of hL hM).2 e) hc
 ·intro he;exact told_ser h ha hL hM (diffL_nil r1 r2 he)
theorem soa_one{F:Cont}{L:List PR}(hL:LstP F L){ttl:Int}{d c:Lab}(hF:F [exL] 6=some (ttl,[(d,c)])):setL L [exL] 6=[⟨[exL],6,ttl,d,c⟩]:=by
 refine srt_uniq (hL.srt.sublist List.filter_sublist) (List.pairwise_singleton _ _) fun x=> ?_;have hlo:lower [exL]=[exL]:=by decide
 rw[setL_mem,hlo,List.mem_singleton];constructor
 ·rintro⟨h1,h2,h3⟩;obtain⟨ds,h4,h5⟩:=(hL.mem x).1 h1;rw[h2,h3,hF]at h4;injection h4 with h4;injection h4 with h6 h7;subst h7;simp only[List.mem_singleton,Prod.mk.injEq]at h5;obtain⟨xn,xt,xttl,xd,xc⟩:=x;simp only at h2 h3 h5 h6;rw[h2,h3,h5.1,h5.2,h6]
 ·rintro rfl;exact⟨(hL.mem _).2 ⟨_,hF,by simp⟩,rfl,rfl⟩
theorem keep_n{N1 N2 j:Nat}(h1:N2≤N1+160000)(h2:N1≤100000+160000 *j):N2≤100000+160000 *(j+1):=
 Nat.le_trans h1 (Nat.le_trans (Nat.add_le_add_right h2 160000) (Nat.le_of_eq (Nat.add_assoc _ _ _)))
theorem keep_t{N1 N2 j:Nat}(h1:N2≤N1+6)(h2:N1≤14+6 *j):N2≤14+6 *(j+1):=by omega
theorem soa_le(s m:Nat):∀e∈[(soaD s m,soaD s m)],e.1.length≤100000:=fun e he=>by
 have h:e=(soaD s m,soaD s m):=by simpa using he
 have h2:=soaD_len s m;rw[h];show(soaD s m).length≤100000;omega
theorem list_one{bl:List Blob}{d:Lab}(h:bl.map (·.l)=[d]):∃b:Blob,bl=[b]∧b.l=d:=by
 match bl,h with
 |[b],h=>exact⟨b,rfl,by simpa using h⟩
end Nm
open Go.ChangeShapes Go.WideShapes
section
variable {H:Type} {enc:TypeId×Value→H} {P:Program} {w:World} {base:Nat} {spare:Nat→Bool} {held:Bool}
theorem cs_of_add2{a:Addr}{xs:List Value}(h:∀i u,xs[i]? =some u→w.cell? (a.add i)=some u):Cs w (some a) xs:=by
 intro i u hu;have hc:=h i u hu;obtain⟨b,off,spot⟩:=a;have hlt:=(List.getElem?_eq_some_iff.1 hu).1;have hspot:spot=none:=by
  have h0:=h 0 xs[0] (List.getElem?_eq_getElem (by omega));have:=World.cell?_spot h0;simpa[Addr.add]using this
 subst hspot;refine⟨b,off,rfl, ?_, ?_⟩
 ·rw[add_plain]at hc;exact World.block_lt_of_cell? w _ hc
 ·rw[add_plain]at hc;exact hc
theorem bounds_u32{n:Int}(h:(Lit.int .u32 n).wf=true):0≤n∧n < 4294967296:=by
 simp[Lit.wf,IntKind.min,IntKind.max,IntKind.signed,IntKind.bits]at h;omega
theorem bounds_u8'{n:Int}(h:(Lit.int .u8 n).wf=true):0≤n∧n < 256:=by
 simp[Lit.wf,IntKind.min,IntKind.max,IntKind.signed,IntKind.bits]at h;omega
structure UpsV where
 A:Option Addr
 l:List (Nat×Nat)
 cap:Nat
def UpsV.v(u:UpsV):Value:=.slice u.A u.l.length u.cap
def UpsV.ok(w:World)(u:UpsV):Prop:=Cs w u.A (u.l.flatMap Nm.upC)∧∀p∈u.l,p.1 < 256∧p.2 < 4294967296
theorem openUps{t e:TypeId}{f0 f1:Field}{fuel:Nat}{cs:List Value}{x:DataW H×List MemPlace}(ht:P.underlying t=some (.slice e))(he:P.underlying e=some (.struct #[f0,f1]))
 (ce:P.cellsOf e=2) (o0:f0.offset=0) (o1:f1.offset=1) (c0:P.cellsOf f0.type=1) (c1:P.cellsOf f1.type=1) (u0:P.underlying f0.type=some (.int .u8)) (u1:P.underlying f1.type=some (.int .u32))
 (h:DataW.trod enc P w base spare held fuel t cs=some x):∃u:UpsV,cs=[u.v]∧u.ok w:=by
 rcases Deep.open_slice_pairs ht he ce o0 o1 c0 c1 h with⟨rfl,_⟩|⟨a,len,cap,m,n,V0,V1,D0,D1,P0,P1,rfl,_,hl,hm,hmm,_,hx⟩
 ·exact⟨⟨none,[],0⟩,rfl,Cs.nil _ _,fun p hp=>by cases hp⟩
 ·have hlen:len≤m:=by rw[hmm];split <;> omega
  have key:∀k,k≤len→∃ps:List (Nat×Nat),ps.length=k∧(∀i u,(ps.flatMap Nm.upC)[i]? =some u→w.cell? (a.add i)=some u)∧∀p∈ps,p.1 < 256∧p.2 < 4294967296:=by
   intro k
   induction k with
   |zero=>intro _;exact⟨[],rfl,(fun i u h=>by simp at h),fun p hp=>by cases hp⟩
   |succ k ih=>
    intro hk;obtain⟨ps,h1,h2,h3⟩:=ih (by omega);obtain⟨g0,g1,g2,g3⟩:=hx k (by omega);obtain⟨n0,e0,_,w0⟩:=DataW.trod_int u0 g2;obtain⟨n1,e1,_,w1⟩:=DataW.trod_int u1 g3;have b0:=bounds_u8' w0;have b1:=bounds_u32 w1;have e0:V0 k=.int .u8 n0:=by simpa using e0
    have e1:V1 k=.int .u32 n1:=by simpa using e1
    rw[e0]at g0;rw[e1]at g1;have hfl:∀(l:List (Nat×Nat)),(l.flatMap Nm.upC).length=l.length *2:=by
     intro l
     induction l with
     |nil=>rfl
     |cons p l ih=>
      rw[List.flatMap_cons,List.length_append,ih,List.length_cons];show 2+l.length *2=(l.length+1) *2;omega
    refine⟨ps++[(n0.toNat,n1.toNat)],by simp[h1], ?_, ?_⟩
    ·intro i u hu;rw[List.flatMap_append,List.getElem?_append]at hu;split at hu
     ·exact h2 i u hu
     ·rename_i hi;rw[hfl,h1]at hi hu;have hq:([(n0.toNat,n1.toNat)].flatMap Nm.upC)=[Value.int .u8 ((n0.toNat:Nat):Int),Value.int .u32 ((n1.toNat:Nat):Int)]:=rfl;rw[hq,show((n0.toNat:Nat):Int)=n0 from by omega,show((n1.toNat:Nat):Int)=n1 from by omega]at hu;have hlt:=(List.getElem?_eq_some_iff.1 hu).1;simp at hlt;have hij:i=k *2∨i=k *2+1:=by omega
      rcases hij with rfl|rfl
      ·simp at hu;rw[g0,hu]
      ·rw[show k *2+1 - k *2=1 from by omega]at hu;simp at hu;rw[g1,hu]
    ·intro p hp;rcases List.mem_append.1 hp with hp|hp
     ·exact h3 p hp
     ·have:p=(n0.toNat,n1.toNat):=by simpa using hp
      rw[this];exact⟨by show n0.toNat < 256;omega,by show n1.toNat < 4294967296;omega⟩
  obtain⟨ps,h1,h2,h3⟩:=key len (Nat.le_refl _);subst h1;exact⟨⟨some a,ps,cap⟩,rfl,cs_of_add2 h2,h3⟩
theorem openUpss{t s e:TypeId}{f0 f1:Field}{fuel:Nat}{cs:List Value}{x:DataW H×List MemPlace}(hs:P.underlying t=some (.slice s))(cs1:P.cellsOf s=1)(ht:P.underlying s=some (.slice e))(he:P.underlying e=some (.struct #[f0,f1]))
 (ce:P.cellsOf e=2) (o0:f0.offset=0) (o1:f1.offset=1) (c0:P.cellsOf f0.type=1) (c1:P.cellsOf f1.type=1) (u0:P.underlying f0.type=some (.int .u8)) (u1:P.underlying f1.type=some (.int .u32))
 (h:DataW.trod enc P w base spare held fuel t cs=some x):∃(A:Option Addr) (us:List UpsV) (cap:Nat),cs=[.slice A us.length cap]∧Cs w A (us.map UpsV.v)∧∀u∈us,u.ok w:=by
 rcases Deep.open_slice1 hs cs1 h with⟨rfl,_⟩|⟨a,len,cap,m,n,V,D,Pl,rfl,_,hl,hm,hmm,_,hx⟩
 ·exact⟨none,[],0,rfl,Cs.nil _ _,fun u hu=>by cases hu⟩
 ·have hlen:len≤m:=by rw[hmm];split <;> omega
  have key:∀k,k≤len→∃us:List UpsV,us.length=k∧(∀i u,(us.map UpsV.v)[i]? =some u→w.cell? (a.add i)=some u)∧∀u∈us,u.ok w:=by
   intro k
   induction k with
   |zero=>intro _;exact⟨[],rfl,(fun i u h=>by simp at h),fun p hp=>by cases hp⟩
   |succ k ih=>
    intro hk;obtain⟨us,h1,h2,h3⟩:=ih (by omega);obtain⟨g0,g1⟩:=hx k (by omega);obtain⟨u,e1,hu⟩:=openUps ht he ce o0 o1 c0 c1 u0 u1 g1;have e1:V k=u.v:=by simpa using e1
    rw[e1]at g0;refine⟨us++[u],by simp[h1], ?_, ?_⟩
    ·intro i v hv;rw[List.map_append,List.getElem?_append]at hv;split at hv
     ·exact h2 i v hv
     ·rename_i hi;rw[List.length_map,h1]at hi hv;have hlt:=(List.getElem?_eq_some_iff.1 hv).1;simp at hlt;have hik:i=k:=by omega
      subst hik;simp at hv;rw[g0,hv]
    ·intro y hy;rcases List.mem_append.1 hy with hy|hy
     ·exact h3 y hy
     ·have:y=u:=by simpa using hy
      rw[this];exact hu
  obtain⟨us,h1,h2,h3⟩:=key len (Nat.le_refl _);subst h1;exact⟨some a,us,cap,rfl,cs_of_add2 h2,h3⟩
end
end Go.Proofs.YtmbdoacafhljkaaGreat
namespace Go.Proofs.YtmbdoacafhljkaaGreat
open Go.RowKit
namespace Nm
structure KeepS(w:World)(Bz z m B1:Nat)(R:Nat→Prop)(L:List PR)(j s:Nat)(wr:World):Prop where
 ex:∃F S N T,UK F∧serF F=s∧Zo wr Bz z S [exL] F N T∧N≤100000+160000 *j∧T≤14+6 *j
 doc:RZo wr B1 m R L
 bel:Below w.heap.size w wr
def KeepR(w:World)(Bz z m B1:Nat)(R:Nat→Prop)(L:List PR)(k:Nat)(last i:Value)(wr:World):Prop:=
 ∃j s:Nat,j≤k∧i=.int .i64 (j:Int)∧last=.int .u32 (s:Int)∧KeepS w Bz z m B1 R L j s wr
theorem RZo.apex{w:World}{B m:Nat}{S:Nat→Prop}{L:List PR}(h:RZo w B m S L):∃Aa ca,m < w.heap.size∧w.cell? ⟨m,0,none⟩=some (.slice Aa 1 ca)∧Cs w Aa (([exL]:List Lab).map strV):=by
 obtain⟨Aa,ca,A,c,rs,h1,h2,_⟩:=h.ex;exact⟨Aa,ca,lt_block h1,(cells2 h1).1,(cs_own h2).2⟩
theorem ApplyK(w:World)(B z:Nat)(S:Nat→Prop)(F:Cont)(N T:Nat)(h:Zo w B z S [exL] F N T)(hU:UK F)(bq:Nat)(Aq:Option Addr)(cn cq:Nat)(Ap:Option Addr)(cp:Nat)(Au:Option Addr)(us:List UcB)(cu Bp Bu:Nat)(hq:QueU w bq 0 Aq cn)
 (hps:UcV w Bp (.slice Ap 0 cp) []) (hus:UcV w Bu (.slice Au us.length cu) us) (hul:us.length≤6) (hT:T≤100) (hN:N≤2000000) (huo:∀r∈us,URok r.says):
 Calls prog 47 #[.pointer (some ⟨z,0,none⟩),.int .u32 60,.agg (msgV 9 5 (.slice (some ⟨bq,0,none⟩) 1 cq) (.slice Ap 0 cp) (.slice Au us.length cu))] w fun e w'=>
  ∃(cd:Int) (A9:Option Addr) (n9 c9:Nat) (F':Cont) (S':Nat→Prop) (N' T':Nat),e=.returned (.tuple #[.int .i64 cd,.slice A9 n9 c9])∧Kept (fun k=>k=z) w w'∧Zo w' B z S' [exL] F' N' T'∧UK F'∧N'≤N+160000∧T'≤T+6∧(n9=0↔serF F'=serF F):=by
 have hA:=UApply w B z S F N T h hU.uf 60 9 5 bq 0 cq Aq cn Ap [] cp Bp Au us cu Bu hq hps hus (by simp) (by omega) (by omega) (by omega) (fun r hr=>by cases hr) (fun r hr=>(huo r hr).ok) (fun _=>huo);refine hA.mono ?_;rintro e w9 (⟨h0,rfl,hb9⟩|⟨h0,S',N',T',v9,xs,L',M,rfl,hz9,hN9,hT9,hk9,hS9,hch9,hL9,hM9,hxs9⟩)
 ·exact⟨_,none,0,0,F,S,N,T,rfl,(Kept.of_ext hb9).mono fun _ _ e=>e.elim,h.ext hb9,hU,by omega,by omega,by simp⟩
 ·obtain⟨A9,c9,rfl,_⟩:=own_form hch9.row;have hrs:∀r∈us.map UcB.says,URok r:=fun r hr=>by
   obtain⟨u,hu,rfl⟩:=List.mem_map.1 hr;exact huo u hu
  have hUK9:=hU.apply hrs;refine⟨_,A9,xs.length,c9,_,S',N',T',rfl,hk9,hz9,hUK9,by omega,by omega, ?_⟩;rw[keeps_ser2 hU hrs hL9 hM9 (rok_zo h hU.uf hL9) (rok_zo hz9 hUK9.uf hM9),←hxs9,List.map_eq_nil_iff,List.length_eq_zero_iff]
theorem WKeeps(w:World)(A:Option Addr)(l:List Nat)(cap:Nat)(A2:Option Addr)(us:List UpsV)(cap2:Nat)(hA:Cs w A (l.map u32K))(hl:∀k∈l,k < 4294967296)(hA2:Cs w A2 (us.map UpsV.v))(hus:∀u∈us,u.ok w):
 Calls prog 8 #[.slice A l.length cap,.slice A2 us.length cap2] w fun e w'=>e=.returned (.bool true)∧Below w.heap.size w w':=by
 have HA:=hid hA;have HL:=hid hl;have HA2:=hid (And.intro hA2 hus);clear hA hl hA2 hus;go_enter func8,ntmps8;go_wp2_with fail;refine(Known17 w).mono ?_;rintro e w1 ⟨rfl,hb1⟩;have hs01:=hb1.size;by_cases h12:12 < l.length
 ·have h12I:(12:Int) < (l.length:Int):=by omega
  go_wp2_with fail;go_ret;exact⟨rfl,hb1⟩
 have h12':l.length≤12:=by omega
 have h12I:¬(12:Int) < (l.length:Int):=by omega
 by_cases h8:8 < us.length
 ·have h8I:(8:Int) < (us.length:Int):=by omega
  go_wp2_with fail;go_ret;exact⟨rfl,hb1⟩
 have h8I:¬(8:Int) < (us.length:Int):=by omega
 go_wp2_with fail;refine(Made17 w1 A l cap (HA.out.below hb1) HL.out h12').mono ?_;rintro e w2 ⟨hb2,⟨Bz,z,m,S,R,N,T,L,rfl,hBz,hZ,hR,hL,hN,hT,hLl,hSR⟩⟩;have hUK:=uk_made hZ;have hb12:=hb1.trans (hb2.mono hb1.size);have hs12:=hb12.size;have hzw:w1.heap.size≤z:=by have:=(hZ.lt hZ.at_z).2;omega
 obtain⟨F,hF⟩:∃F,madeF l=F:=⟨_,rfl⟩
 rw[hF]at hZ hL hUK;obtain⟨ttl0,s0,m0,hs0,hm0,hF6,hser0,_⟩:=hUK.serF_lt;obtain⟨Aa,ca,hmw,ma,hap⟩:=hR.apex;have HZ:=hid (And.intro hZ (And.intro hR (And.intro hL (And.intro hUK hser0))));have HS0:=hid (And.intro hs0 hm0);have HSE:=hid (RSet w2 w1.heap.size m R L hR (by omega) Aa [exL] ca 6 hap exL_small.few);have HSO:=hid (soa_one hL hF6)
 clear hZ hR hL hUK hSR hF hb2 hb1 hF6 hap hs0 hm0 hser0;have ha1:([exL]:List Lab).length=1:=rfl;rw[ha1]at HSE;clear ha1;go_wp2_with fail;refine HSE.out.mono ?_;rintro e w3 ⟨hb3,hset⟩;rw[HSO.out]at hset;rcases hset with⟨h,_⟩|⟨Am,cm,Ad,cd,ttl,bl,rfl,_,hrow,hbl,hbo,_⟩
 ·cases h
 obtain⟨b0,rfl,hb0⟩:=list_one hbl;have hbb:=hbo b0 (by simp);have hbc:=own_caps hbb;obtain⟨bd,od,e0,hbdl,hc0⟩:=cs_own2 hrow 0 b0.v rfl;have e0:Ad=some ⟨bd,od,none⟩:=e0;subst e0;have b4:Below w3.heap.size w3 (w3.alloc (.cells #[.slice Am 1 cm,.int .u16 6,.int .u32 ttl,.slice (some ⟨bd,od,none⟩) 1 cd] 54)):=bAl
 have c4:=heap_alloc_new w3 (.cells #[.slice Am 1 cm,.int .u16 6,.int .u32 ttl,.slice (some ⟨bd,od,none⟩) 1 cd] 54);have hs3:=hb3.size
 go_upto_region 9 with fail
 have hk1:([b0]:List Blob).length=1:=rfl;have hk2:([exL]:List Lab).length=1:=rfl
 try rw[hk1]
 try rw[hk2]
 generalize w3.alloc (.cells #[.slice Am 1 cm,.int .u16 6,.int .u32 ttl,.slice (some ⟨bd,od,none⟩) 1 cd] 54)=w4 at *;obtain⟨x0,x1,x2,x3,_⟩:=cells4 c4;replace hc0:=(bcl b4 hbdl).trans hc0;have hb24:Below w2.heap.size w2 w4:=hb3.trans (b4.mono hs3);have hg4:=lt_block c4;have hbd4:bd < w4.heap.size:=by have:=b4.size;omega
 have hbok:=(cs_own (own_below hbb b4)).2;have hd1:=hb0;have HSA:=hid (RSoa b0.A b0.l b0.cap w4 hbok (by rw[hb0,soaD_len];omega) hbc.1 hbc.2);have HB0:=hid hb0;have hs4:=hb24.size;have HB4:=hid hb24;have hcv:w4.cell? ⟨bd,od,none⟩=some (.slice b0.A b0.l.length b0.cap):=hc0;clear hc0 c4 b4 hb3 hrow hbl hbo hbb hbc hb0 hbok hd1 hk1 hk2 x0 x1 x2;generalize w3.heap.size=g4 at *
 go_wp2_with fail;refine HSA.out.mono ?_;rintro e w5 ⟨hb5,v5,rfl,hv5⟩;rw[HB0.out]at hv5 ⊢;obtain⟨Am5,ca5,Bx5,cb5,rfl,_⟩:=hv5.2 (soaD_b s0 m0);rw[soaD_m HS0.out.1 HS0.out.2,soaD_b];unfold SoaM.v
 have b6:Below w5.heap.size w5 (w5.alloc (.cells #[.slice Am5 (soaG s0 m0).m.length ca5,.slice Bx5 (soaG s0 m0).x.length cb5,.int .u32 ((soaG s0 m0).s1:Int),.int .u32 ((soaG s0 m0).s2:Int),.int .u32 ((soaG s0 m0).s3:Int),.int .u32 ((soaG s0 m0).s4:Int),.int .u32 ((soaG s0 m0).s5:Int)] 91)):=bAl
 have c6:=heap_alloc_new w5 (.cells #[.slice Am5 (soaG s0 m0).m.length ca5,.slice Bx5 (soaG s0 m0).x.length cb5,.int .u32 ((soaG s0 m0).s1:Int),.int .u32 ((soaG s0 m0).s2:Int),.int .u32 ((soaG s0 m0).s3:Int),.int .u32 ((soaG s0 m0).s4:Int),.int .u32 ((soaG s0 m0).s5:Int)] 91)
 go_upto_region 10 with fail
 generalize w5.alloc (.cells #[.slice Am5 (soaG s0 m0).m.length ca5,.slice Bx5 (soaG s0 m0).x.length cb5,.int .u32 ((soaG s0 m0).s1:Int),.int .u32 ((soaG s0 m0).s2:Int),.int .u32 ((soaG s0 m0).s3:Int),.int .u32 ((soaG s0 m0).s4:Int),.int .u32 ((soaG s0 m0).s5:Int)] 91)=w6 at *;have hser:w6.cell? ⟨w5.heap.size,2,none⟩=some (.int .u32 (s0:Int)):=by rw[cell_of_row w6 w5.heap.size _ _ _ _ c6];rfl
 have hb26:Below w2.heap.size w2 w6:=HB4.out.trans ((hb5.trans (b6.mono hb5.size)).mono hs4);have hg6:=lt_block c6;have hK6:KeepS w Bz z m w1.heap.size R L 0 s0 w6:=⟨⟨F,S,N,T,HZ.out.2.2.2.1,HZ.out.2.2.2.2,HZ.out.1.ext hb26,by omega,by omega⟩,HZ.out.2.1.below hb26,hb12.trans (hb26.mono hs12)⟩
 have HK6:=hid hK6;clear hb26 c6 b6 hv5 hb5 hK6;go_wp2_with fail
 go_loopw [7,12] (KeepR w Bz z m w1.heap.size R L us.length) (fun _ i _=>us.length - (intOf i).toNat)
 case atStart=>exact⟨0,s0,Nat.zero_le _,rfl,rfl,HK6.out⟩
 case round=>
  obtain⟨j,s,hj,rfl,rfl,hks⟩:=hrel;have HKS:=hid hks;have hsr:=hks.bel.size;clear hks;by_cases hlt:j < us.length
  ·have hltI:(j:Int) < (us.length:Int):=by omega
   obtain⟨bu,ou,rfl,hbul,hcu⟩:=(HA2.out.1.below HKS.out.bel) j (us[j]).v (by rw[List.getElem?_map,List.getElem?_eq_getElem hlt];rfl);have huok:=HA2.out.2 _ (List.getElem_mem hlt);generalize us[j]=u at *;replace hcu:wr.cell? ⟨bu,ou+j,none⟩=some (.slice u.A u.l.length u.cap):=hcu;have HUO:=hid huok;clear huok;by_cases h6:6 < u.l.length
   ·have h6I:(6:Int) < (u.l.length:Int):=by omega
    go_wp2_with fail;go_ret;exact⟨rfl,HKS.out.bel⟩
   have h6I:¬(6:Int) < (u.l.length:Int):=by omega
   obtain⟨⟨F1,S1,N1,T1,hUK1,hse1,hZ1,hN1,hT1⟩,hdoc,hbel⟩:=HKS.out;have HUU:=hid (UUpdate wr none [] 0 u.A u.l u.cap (Cs.nil _ none) (HUO.out.1.below hbel) (fun p hp=>by cases hp) HUO.out.2 (by simp) (by omega));have HZ1:=hid (And.intro hUK1 (And.intro hse1 (And.intro hZ1 (And.intro hdoc hbel))));clear hUK1 hse1 hZ1 hdoc hbel;go_wp2_with fail;refine HUU.out.mono ?_
   rintro e w8 ⟨hb8,bq,Aq,cn8,cq,Ap,cp,Au,cu,pb,ub,rfl,hq,hpu,huu,hps,hus⟩;have hps0:pb.map UcB.says=[]:=hps;obtain rfl:pb=[]:=List.map_eq_nil_iff.1 hps0;have hul:ub.length=u.l.length:=by have:=congrArg List.length hus;simpa using this
   have hmem:∀r∈ub,URok r.says:=fun r hr=>by
    have:r.says∈ub.map UcB.says:=List.mem_map.2 ⟨r,hr,rfl⟩;rw[hus]at this;obtain⟨p,_,e⟩:=List.mem_map.1 this;rw[←e];exact upR_rok p.1 p.2
   have hZ8:=HZ1.out.2.2.1.ext hb8;have hj8:j≤8:=by omega
   have HAp:=hid (ApplyK w8 Bz z S1 F1 N1 T1 hZ8 HZ1.out.1 bq Aq cn8 cq Ap cp Au ub cu _ _ hq hpu huu (by omega) (by omega) (by omega) hmem);have HB8:=hid (And.intro (HZ1.out.2.2.2.2.trans (hb8.mono hsr)) (And.intro hZ8 (HZ1.out.2.2.2.1.below hb8)));have hl0:([]:List UcB).length=0:=rfl;clear hb8 hq hpu huu hps hus hmem hZ8 hps0 hul HUU;go_wp2_with fail;refine HAp.out.mono ?_
   rintro e w9 ⟨cdv,A9,n9,c9,F2,S2,N2,T2,rfl,hk9,hZ9,hUK9,hN9,hT9,hn9⟩;have hb09:Below w.heap.size w w9:=HB8.out.1.trans (hk9.below HB8.out.1.size (fun k2 hk2 e=>by omega));have hR9:=HB8.out.2.2.kept hk9 (zonalK HB8.out.2.1);obtain⟨ttl2,s2,m2,hs2,hm2,hF62,hser2,_⟩:=hUK9.serF_lt;obtain⟨Aa9,ca9,hmw9,ma9,hap9⟩:=hR9.apex;have hapx:=hap9;cases hF2:F2 [exL] 2 with
   |none=>exact absurd hF2 hUK9.ns
   |some p2=>
   obtain⟨tt2,ds2⟩:=p2;have hok2:=hUK9.uf.ok _ _ _ _ hF2;have hN29:N2≤100000+160000 *(j+1):=keep_n hN9 hN1;have hT29:T2≤14+6 *(j+1):=keep_t hT9 hT1;have hF63:F2 (lower [exL]) 6=some (ttl2,[(soaD s2 m2,soaD s2 m2)]):=by rw[show lower [exL]=[exL]from by decide];exact hF62
   have hF23:F2 (lower [exL]) 2=some (tt2,ds2):=by rw[show lower [exL]=[exL]from by decide];exact hF2
   have HNT:=hid (And.intro hN29 (And.intro hT29 hF23));have hS1:=hZ9.set_some Aa9 [exL] ca9 6 hap9 exL_small (by omega) hF63 (soa_le s2 m2);have HS1:=hid hS1;have HZ9:=hid (And.intro hZ9 (And.intro hUK9 (And.intro hb09 (And.intro hR9 (And.intro hapx (And.intro hF2 (And.intro hok2.2.2 (And.intro hs2 (And.intro hm2 (And.intro hser2 hn9))))))))));have hs9:=hb09.size
   clear hN29 hT29 hF63 hF23 hk9 hb09 hR9 hZ9 hUK9 hap9 hapx hF2 hok2 hF62 hS1 hs2 hm2 hser2 hn9 HAp;rw[show([exL]:List Lab).length=1 from rfl,show([(soaD s2 m2,soaD s2 m2)]:List (Lab×Lab)).length=1 from rfl]at HS1;go_wp2_with fail;refine HS1.out.mono ?_;rintro e w10 ⟨hb10,Am,cm,Ad,cd,bl,rfl,_,hrow,hbl,hbo⟩;obtain⟨b0,rfl,hb0⟩:=list_one (by simpa using hbl);have hbb:=hbo b0 (by simp)
   have hbc:=own_caps hbb;obtain⟨bd,od,e0,hbdl,hc0⟩:=cs_own2 hrow 0 b0.v rfl;have e0:Ad=some ⟨bd,od,none⟩:=e0;subst e0;have b11:Below w10.heap.size w10 (w10.alloc (.cells #[.slice Am 1 cm,.int .u16 6,.int .u32 ttl2,.slice (some ⟨bd,od,none⟩) 1 cd] 54)):=bAl
   have c11:=heap_alloc_new w10 (.cells #[.slice Am 1 cm,.int .u16 6,.int .u32 ttl2,.slice (some ⟨bd,od,none⟩) 1 cd] 54);have hs10:=hb10.size
   go_upto_region 18 with fail
   generalize w10.alloc (.cells #[.slice Am 1 cm,.int .u16 6,.int .u32 ttl2,.slice (some ⟨bd,od,none⟩) 1 cd] 54)=w11 at *;replace hc0:w10.cell? ⟨bd,od,none⟩=some (.slice b0.A b0.l.length b0.cap):=hc0;have hb911:Below w9.heap.size w9 w11:=hb10.trans (b11.mono hs10);obtain⟨x0,x1,x2,x3,_⟩:=cells4 c11;have hg11:=lt_block c11;have hc0':=(bcl b11 hbdl).trans hc0
   have hbd11:bd < w11.heap.size:=by have:=b11.size;omega
   have hs11:=hb911.size;have ma11:=(bcl (o:=0) hb911 hmw9).trans ma9;have hmw11:m < w11.heap.size:=by omega
   have hlt2:ds2.length=ds2.length:=rfl;have HS2:=hid ((HZ9.out.1.ext hb911).set_some Aa9 [exL] ca9 2 (HZ9.out.2.2.2.2.1.below hb911) exL_small (by omega) HNT.out.2.2 HZ9.out.2.2.2.2.2.2.1);have HBB:=hid (And.intro (own_below hbb b11) (And.intro hbc hb0));have HB11:=hid hb911;rw[show([exL]:List Lab).length=1 from rfl]at HS2
   clear hc0 c11 b11 hb10 hrow hbl hbo hbb hbc hb0 ma9 hmw9 x0 x1 x2 hb911 hlt2 HS1;generalize w10.heap.size=g11 at *;go_wp2_with fail;refine HS2.out.mono ?_;rintro e w12 ⟨hb12b,Am2,cm2,Ad2,cd2,bl2,rfl,_⟩;have b13:Below w12.heap.size w12 (w12.alloc (.cells #[.slice Am2 1 cm2,.int .u16 2,.int .u32 tt2,.slice Ad2 ds2.length cd2] 54)):=bAl
   go_upto_region 19 with fail
   generalize w12.alloc (.cells #[.slice Am2 1 cm2,.int .u16 2,.int .u32 tt2,.slice Ad2 ds2.length cd2] 54)=w13 at *;have hb1113:Below w11.heap.size w11 w13:=hb12b.trans (b13.mono hb12b.size);replace x3:=(bcl hb1113 hg11).trans x3;replace hc0':=(bcl hb1113 hbd11).trans hc0';have hs13:=hb1113.size;have hbd13:bd < w13.heap.size:=by omega
   have hg13:g11 < w13.heap.size:=by omega
   have hbok:=(cs_own (own_below HBB.out.1 hb1113)).2;have HSA:=hid (RSoa b0.A b0.l b0.cap w13 hbok (by rw[HBB.out.2.2,soaD_len];omega) HBB.out.2.1.1 HBB.out.2.1.2);have hb913:Below w9.heap.size w9 w13:=HB11.out.trans (hb1113.mono hs11);have HB13:=hid hb913;clear hb1113 b13 hb12b hbok hb913 HS2 ma11;go_wp2_with fail;refine HSA.out.mono ?_;rintro e w14 ⟨hb14,v14,rfl,hv14⟩
   rw[HBB.out.2.2]at hv14 ⊢;obtain⟨Am5,ca5,Bx5,cb5,rfl,_⟩:=hv14.2 (soaD_b s2 m2);rw[soaD_m HZ9.out.2.2.2.2.2.2.2.1 HZ9.out.2.2.2.2.2.2.2.2.1,soaD_b];unfold SoaM.v
   have b15:Below w14.heap.size w14 (w14.alloc (.cells #[.slice Am5 (soaG s2 m2).m.length ca5,.slice Bx5 (soaG s2 m2).x.length cb5,.int .u32 ((soaG s2 m2).s1:Int),.int .u32 ((soaG s2 m2).s2:Int),.int .u32 ((soaG s2 m2).s3:Int),.int .u32 ((soaG s2 m2).s4:Int),.int .u32 ((soaG s2 m2).s5:Int)] 91)):=bAl
   have c15:=heap_alloc_new w14 (.cells #[.slice Am5 (soaG s2 m2).m.length ca5,.slice Bx5 (soaG s2 m2).x.length cb5,.int .u32 ((soaG s2 m2).s1:Int),.int .u32 ((soaG s2 m2).s2:Int),.int .u32 ((soaG s2 m2).s3:Int),.int .u32 ((soaG s2 m2).s4:Int),.int .u32 ((soaG s2 m2).s5:Int)] 91)
   go_upto_region 22 with fail
   generalize w14.alloc (.cells #[.slice Am5 (soaG s2 m2).m.length ca5,.slice Bx5 (soaG s2 m2).x.length cb5,.int .u32 ((soaG s2 m2).s1:Int),.int .u32 ((soaG s2 m2).s2:Int),.int .u32 ((soaG s2 m2).s3:Int),.int .u32 ((soaG s2 m2).s4:Int),.int .u32 ((soaG s2 m2).s5:Int)] 91)=w15 at *
   have hser15:w15.cell? ⟨w14.heap.size,2,none⟩=some (.int .u32 (s2:Int)):=by rw[cell_of_row w15 w14.heap.size _ _ _ _ c15];rfl
   have hg15:=lt_block c15;have hb915:Below w9.heap.size w9 w15:=HB13.out.trans ((hb14.trans (b15.mono hb14.size)).mono (Nat.le_trans hs11 hs13))
   have HFIN:Hid (KeepR w Bz z m w1.heap.size R L us.length (.int .u32 (s2:Int)) (.int .i64 ((j:Int)+1)) w15):=hid ⟨j+1,s2,hlt,by go_num,rfl,⟨⟨F2,S2,N2,T2,HZ9.out.2.1,HZ9.out.2.2.2.2.2.2.2.2.2.1,HZ9.out.1.ext hb915,HNT.out.1,HNT.out.2.1⟩,HZ9.out.2.2.2.1.below hb915,HZ9.out.2.2.1.trans (hb915.mono hs9)⟩⟩
   have hiff:n9=0↔s2=s:=by rw[HZ9.out.2.2.2.2.2.2.2.2.2.2,HZ9.out.2.2.2.2.2.2.2.2.2.1,HZ1.out.2.1]
   clear hb915 b15 c15 hb14 hv14 x3 hc0';by_cases hn0:n9=0
   ·have hnI:((n9:Nat):Int)=0:=by omega
    have hsN:s2=s:=hiff.1 hn0;have hsI:((s2:Nat):Int)=(s:Int):=by rw[hsN]
    rw[hsN]at HFIN;clear hiff hn0 hsN;go_wp2_with fail;refine⟨?_,by simp[intOf];omega⟩
    (repeat apply Exists.intro)
    exact⟨HFIN.out,rfl⟩
   ·have hnI:¬((n9:Nat):Int)=0:=by omega
    have hsN:¬s2=s:=fun e=>hn0 (hiff.2 e);have hsI:¬((s2:Nat):Int)=(s:Int):=by omega
    have hsb:((s2:Int)==(s:Int))=false:=beq_eq_false_iff_ne.2 hsI;have hnb:((n9:Int)==0)=false:=beq_eq_false_iff_ne.2 hnI;clear hiff;go_wp2_with fail;refine⟨?_,by simp[intOf];omega⟩
    (repeat apply Exists.intro)
    exact⟨HFIN.out,rfl⟩
  ·have hltI:¬(j:Int) < (us.length:Int):=by omega
   go_wp2_with fail;go_ret;exact⟨rfl,HKS.out.bel⟩
end Nm
theorem ints_of_row{k:IntKind}{w:World}{a:Option Addr}{len cap:Nat}{zs:List Int}
 (h:(a=none∧len=0∧cap=0∧zs=[])∨∃x,a=some x∧len≤cap∧cap≤maxLen∧zs.length=cap∧(∀i,i < zs.length→w.cell? (x.add i)=some (.int k (zs.getD i 0)))∧∀n∈zs,(Lit.int k n).wf=true):
 ∃l:List Int,l.length=len∧Cs w a (l.map (Value.int k))∧∀n∈l,(Lit.int k n).wf=true:=by
 rcases h with⟨rfl,rfl,rfl,rfl⟩|⟨x,rfl,hl,hm,hz,hcell,hwz⟩
 ·exact⟨[],rfl,Cs.nil _ _,fun n h=>by cases h⟩
 ·refine⟨zs.take len,by simp;omega, ?_,fun n hn=>hwz n (List.mem_of_mem_take hn)⟩;intro i u hu;rw[List.getElem?_map,List.getElem?_take]at hu;by_cases hi:i < len
  ·rw[if_pos hi]at hu;have hiz:i < zs.length:=by omega
   rw[List.getElem?_eq_getElem hiz]at hu;simp only[Option.map_some,Option.some.injEq]at hu;have hc:=hcell i hiz;obtain⟨b,off,spot⟩:=x;have hspot:spot=none:=by
    have h0:=hcell 0 (by omega);have:=World.cell?_spot h0;simpa[Addr.add]using this
   subst hspot;refine⟨b,off,rfl, ?_, ?_⟩
   ·rw[add_plain]at hc;exact World.block_lt_of_cell? w _ hc
   ·rw[add_plain]at hc;rw[hc,←hu];simp[List.getD,hiz]
  ·rw[if_neg hi]at hu;cases hu
namespace Nm
theorem u32_natsK{l:List Int}(hl:∀n∈l,(Lit.int .u32 n).wf=true):l.map (Value.int .u32)=(l.map Int.toNat).map u32K∧∀k∈l.map Int.toNat,k < 4294967296:=by
 have hb:∀n∈l,0≤n∧n < 4294967296:=fun n hn=>by
  have:=hl n hn;simp[Lit.wf,IntKind.min,IntKind.max,IntKind.signed,IntKind.bits]at this;omega
 constructor
 ·rw[List.map_map];refine List.map_congr_left fun x hx=> ?_;have:=hb x hx;show Value.int .u32 x=Value.int .u32 ((x.toNat:Nat):Int);congr 1;omega
 ·intro k hk;obtain⟨x,hx,rfl⟩:=List.mem_map.1 hk;have:=hb x hx;omega
theorem WKeepsI(A:Option Addr)(cap:Nat)(l:List Int)(A2:Option Addr)(us:List UpsV)(cap2:Nat)(hl:∀n∈l,(Lit.int .u32 n).wf=true)(w:World)(hA:Cs w A (l.map (Value.int .u32)))(hA2:Cs w A2 (us.map UpsV.v))(hus:∀u∈us,u.ok w):
 Calls prog 8 #[.slice A l.length cap,.slice A2 us.length cap2] w fun e w'=>e=.returned (.bool true)∧Below w.heap.size w w':=by
 obtain⟨hm,hbl⟩:=u32_natsK hl;rw[hm]at hA;have h:=WKeeps w A (l.map Int.toNat) cap A2 us cap2 hA hbl hA2 hus;rw[List.length_map]at h;exact h
end Nm
end Go.Proofs.YtmbdoacafhljkaaGreat
