/- Texts merged by a program: YRec, Beg, RCan6, CompB, Data, CanE, RCan, ROrd, RZo. -/
import Derived.ArgAppend
import Derived.Deep.CutRange
import Derived.Test.YtmbdoacafhljkaaGreatUh1
import Derived.Test.YtmbdoacafhljkaaGreatUh2
import Derived.Test.YtmbdoacafhljkaaGreatUh4
import Derived.Test.YtmbdoacafhljkaaGreatUh8
import Derived.Test.YtmbdoacafhljkaaGreatUh9
import Derived.Test.YtmbdoacafhljkaaGreatUh11
import Derived.Test.YtmbdoacafhljkaaGreatUh14
import Derived.Test.YtmbdoacafhljkaaGreatUh15
set_option linter.unusedSimpArgs false
set_option linter.unusedVariables false
set_option maxRecDepth 1000000
set_option maxHeartbeats 20000000
open Go.Proofs.Tryz
namespace Go.Proofs.YtmbdoacafhljkaaGreat
open Go.RowKit
namespace Nm
theorem flatR2(rs:List RcB)(i:Nat)(hi:i < rs.length)(k:Nat)(hk:k < 5):(rs.flatMap RcB.cells)[i *5+k]? =(rs[i].cells)[k]?:=by
 induction rs generalizing i with
 |nil=>simp at hi
 |cons r rs ih=>
  rw[List.flatMap_cons];have hl:r.cells.length=5:=rfl;cases i with
  |zero=>rw[List.getElem?_append_left (by omega)];simp
  |succ i=>
   rw[List.getElem?_append_right (by omega),hl,show(i+1) *5+k - 5=i *5+k from by omega];simpa using ih i (by simpa using hi)
theorem RecsV.at2{w:World}{B:Nat}{A:Option Addr}{n c:Nat}{us:List RcB}(h:RecsV w B (.slice A n c) us){k:Nat}(hk:k < us.length):∃b off,A=some ⟨b,off,none⟩∧b < w.heap.size∧
 w.cell? ⟨b,off+k *5,none⟩=some us[k].nm.v∧w.cell? ⟨b,off+k *5+1,none⟩=some (.int .u16 us[k].t)∧w.cell? ⟨b,off+k *5+2,none⟩=some (.int .u16 1)∧w.cell? ⟨b,off+k *5+3,none⟩=some (.int .u32 us[k].ttl)∧w.cell? ⟨b,off+k *5+4,none⟩=some us[k].d.v:=by
 have hC:=cs_own2 h.row;obtain⟨b,off,rfl,hb,h0⟩:=hC (k *5+0) us[k].nm.v (by rw[flatR2 us k hk 0 (by omega)];rfl);obtain⟨_,_,e,_,h1⟩:=hC (k *5+1) (.int .u16 us[k].t) (by rw[flatR2 us k hk 1 (by omega)];rfl);cases e;obtain⟨_,_,e,_,h2⟩:=hC (k *5+2) (.int .u16 1) (by rw[flatR2 us k hk 2 (by omega)];rfl);cases e
 obtain⟨_,_,e,_,h3⟩:=hC (k *5+3) (.int .u32 us[k].ttl) (by rw[flatR2 us k hk 3 (by omega)];rfl);cases e;obtain⟨_,_,e,_,h4⟩:=hC (k *5+4) us[k].d.v (by rw[flatR2 us k hk 4 (by omega)];rfl);cases e;rw[←Nat.add_assoc]at h0 h1 h2 h3 h4;exact⟨b,off,rfl,hb,h0,h1,h2,h3,h4⟩
def pieceR(A:Option Addr)(c k:Nat):Option Addr:=if c=k then A else A.map fun a=>a.add (k *5)
theorem Cs.dropR{w:World}{A:Option Addr}{us:List Value}(h:Cs w A us)(k c:Nat)(hc:us.length≤c *5):Cs w (pieceR A c k) (us.drop (k *5)):=by
 have h2:=h.drop' (k *5) (c *5) hc;unfold pieceR;by_cases e:c=k
 ·rw[if_pos (by omega)]at h2;rw[if_pos e];exact h2
 ·rw[if_neg (by omega)]at h2;rw[if_neg e];exact h2
theorem yield_slice3R{ops:Array Oper}{o:Oper}{a:Act}{W:World}{R:Value→World→Prop}(hgd:o.guard=none)(x hi mx:Operand)(ho:o.op=.slice 31 x none (some hi) (some mx)){A:Option Addr}{n c k:Nat}{I:Int}
 (hx:a.eval x=.slice A n c) (hhi:a.eval hi=.int .i64 I) (hmx:a.eval mx=.int .i64 I) (hI:I=(k:Int)) (h1:k≤n) (h2:n≤c) (h:R (.slice A k k) W):opYield prog ops o a W R:=by
 have hw:Region.wanted o (yielded ops a.tmps)=true:=by simp[Region.wanted,hgd]
 have hr:(Instr.sliceAt 31 (.slice A n c) none (some (.int .i64 I)) (some (.int .i64 I))).run prog W=.ok (.slice A k k) W:=by
  subst hI;have h3:(k:Int)≤(n:Int):=by omega
  have h4:(k:Int)≤(c:Int):=by omega
  have h5:k≤c:=by omega
  cases A with
  |none=>simp[go_sem,h3,h4,h5]
  |some a=>simp[go_sem,h3,h4,h5]
 rw[opYield_def,if_pos hw];unfold execOp;simp only[ho,Option.map_some,Option.map_none,hx,hhi,hmx,hr,Sem.run_bind,Sem.run_pure,Result.andThen_ok];exact h
theorem yield_dropR{ops:Array Oper}{o:Oper}{a:Act}{W:World}{R:Value→World→Prop}(hgd:o.guard=none)(x lo:Operand)(ho:o.op=.slice 31 x (some lo) none none){A:Option Addr}{n c k:Nat}{I:Int}
 (hx:a.eval x=.slice A n c) (hlo:a.eval lo=.int .i64 I) (hI:I=(k:Int)) (h1:k≤n) (h2:n≤c) (h:R (.slice (pieceR A c k) (n - k) (c - k)) W):opYield prog ops o a W R:=by
 have hw:Region.wanted o (yielded ops a.tmps)=true:=by simp[Region.wanted,hgd]
 have hr:(Instr.sliceAt 31 (.slice A n c) (some (.int .i64 I)) none none).run prog W=.ok (.slice (pieceR A c k) (n - k) (c - k)) W:=by
  subst hI;unfold pieceR;by_cases hc:c=k
  ·have hn:n=k:=by omega
   subst hc;subst hn;simp[go_sem]
  ·have h3:(k:Int)≤(n:Int):=by omega
   have h4:(n:Int)≤(c:Int):=by omega
   cases A with
   |none=>simp[go_sem,hc,h1,h2,h3,h4]
   |some a=>simp[go_sem,hc,h1,h2,h3,h4]
 rw[opYield_def,if_pos hw];unfold execOp;simp only[ho,Option.map_some,Option.map_none,hx,hlo,hr,Sem.run_bind,Sem.run_pure,Result.andThen_ok];exact h
theorem yield_rowsR{ops:Array Oper}{o:Oper}{a:Act}{W:World}{R:Value→World→Prop}(hgd:o.guard=none)(sl x:Operand){t:TypeId}(ht:prog.underlying t=some (.slice 39))
 (ho:o.op=.call {callee:=.builtin .append,args:= #[sl,x],argTypes:= #[t,t]}) {B:Nat} {v:Value} {n:Nat} {xs us:List Value} (hs:a.eval sl=v) (hown:W.ownsRow B 39 5 v n xs) (hB:B≤W.heap.size)
 {A:Option Addr} {m c:Nat} (hx:a.eval x=.slice A m c) (hm:us.length=m *5) (hcs:Cs W A us) (h1:∀u∈us,u.oneCell'=true) (hn:n+m≤1000000)
 (h:∀v' W',W'.ownsRow B 39 5 v' (n+m) (xs++us)→Kept (fun k=>some k=v.ownBlock) W W'→R v' W'):opYield prog ops o a W R:=by
 obtain⟨i0,hi,hz0,hz1,hz2⟩:=info_parts info_rec;have hw:Region.wanted o (yielded ops a.tmps)=true:=by simp[Region.wanted,hgd]
 rw[opYield_def,if_pos hw];cases A with
 |none=>
  have hsn:us=[]:=hcs.none_nil;subst hsn;have hm0:m=0:=by simp at hm;omega
  subst hm0;have hr:=run_nothing (P:=prog) (ty:=o.type) ht hi hown c;unfold execOp;simp only[ho,resolve,invoke,builtin,Sem.run_bind,Sem.run_pure,Result.andThen_ok,List.map_toArray,List.map_cons,List.map_nil,hs,hx,hr];exact h v W (by simpa using hown) (Kept.refl _ _)
 |some b=>
  obtain⟨v',W',hr,h2,h3,_⟩:=run_append_own (P:=prog) W B t o.type 39 i0 _ 5 56 ht hi hz0 hz1 hz2 rfl (by decide) v n xs hown b m c us (by omega) hcs.cells h1 (by unfold maxLen;omega) (by omega) hB;unfold execOp;simp only[ho,resolve,invoke,builtin,Sem.run_bind,Sem.run_pure,Result.andThen_ok,List.map_toArray,List.map_cons,List.map_nil,hs,hx,hr]
  exact h v' W' h2 ((Kept.of_grown h3).mono fun k _ e=>e)
theorem yield_growR{ops:Array Oper}{o:Oper}{a:Act}{W:World}{R:Value→World→Prop}(hgd:o.guard=none)(sl x:Operand){t:TypeId}(ht:prog.underlying t=some (.slice 39))
 (ho:o.op=.call {callee:=.builtin .append,args:= #[sl,x],argTypes:= #[t,t]}) {ao:Option Addr} {n:Nat} {olds:List Value} (hs:a.eval sl=.slice ao n n) (hnone:ao=none→n=0) (hlo:olds.length=n *5) (holds:Cs W ao olds)
 {ad:Addr} {m c:Nat} {news:List Value} (hx:a.eval x=.slice (some ad) m c) (hnl:news.length=m *5) (hc:Cs W (some ad) news) (h1c:∀u∈news,u.oneCell'=true) (hm:0 < m) (b1:n+m≤1000000)
 (h:∀v' W',W'.ownsRow W.heap.size 39 5 v' (n+m) (olds++news)→Ext W W'→R v' W'):opYield prog ops o a W R:=by
 obtain⟨i0,hi,hz0,hz1,hz2⟩:=info_parts info_rec;have hw:Region.wanted o (yielded ops a.tmps)=true:=by simp[Region.wanted,hgd]
 rw[opYield_def,if_pos hw];cases ao with
 |some b=>
  obtain⟨v',W',hr,h2,h3⟩:=run_append_arg_grows (P:=prog) W t o.type 39 i0 _ 5 56 ht hi hz0 hz1 hz2 rfl (by decide) b n n olds (by omega) holds.cells ad m c news (by omega) hc.cells (by omega) (by unfold maxLen;omega) (by omega);unfold execOp;simp only[ho,resolve,invoke,builtin,Sem.run_bind,Sem.run_pure,Result.andThen_ok,List.map_toArray,List.map_cons,List.map_nil,hs,hx,hr]
  exact h v' W' h2 ((Below.refl _ _).grown h3 (Nat.le_refl _) (fun k hk=>by cases hk))
 |none=>
  obtain rfl:=hnone rfl;obtain rfl:olds=[]:=List.eq_nil_of_length_eq_zero (by omega);obtain⟨v',W',hr,h2,h3,_⟩:=run_append_own (P:=prog) W W.heap.size t o.type 39 i0 _ 5 56 ht hi hz0 hz1 hz2 rfl (by decide) (.slice none 0 0) 0 [] (World.ownsRow_nil W _ _ _) ad m c news (by omega) hc.cells h1c (by unfold maxLen;omega) (by omega) (Nat.le_refl _);unfold execOp
  simp only[ho,resolve,invoke,builtin,Sem.run_bind,Sem.run_pure,Result.andThen_ok,List.map_toArray,List.map_cons,List.map_nil,hs,hx,hr];exact h v' W' h2 ((Below.refl _ _).grown h3 (Nat.le_refl _) (fun k hk=>by cases hk))
def u32K(k:Nat):Value:=.int .u32 (k:Int)
def ok0(k:Nat):Bool:=recT k !=6&& !(recT k==43&&(recN k).length==1)&& !(recT k==2&&wild (recN k))
def ok1(k:Nat)(x:Says):Bool:= !(same x.1 (recN k)&&(x.2.1==5||recT k==5))
theorem okB_eq(out:List Says)(k:Nat):okB out k=(ok0 k&&out.all (ok1 k)):=rfl
theorem stepB_len(l:List Nat)(j:Nat):((l.take j).foldl stepB begin0).length≤2+j:=by
 obtain⟨r,h1,h2⟩:=stepB_pre (l.take j) begin0;rw[h1,List.length_append];rw[List.length_take]at h2;have:begin0.length=2:=rfl;omega
theorem fold_take(l:List Nat)(j:Nat)(hj:j < l.length):(l.take (j+1)).foldl stepB begin0=stepB ((l.take j).foldl stepB begin0) l[j]:=by
 rw[List.take_succ_eq_append_getElem hj,List.foldl_append];rfl
theorem stepB_no{out:List Says}{k:Nat}(h:okB out k=false):stepB out k=out:=by unfold stepB;rw[h];rfl
theorem stepB_yes{out:List Says}{k:Nat}(h:okB out k=true):stepB out k=out++[recS k]:=by unfold stepB;rw[h];rfl
structure BegS(w:World)(j:Nat)(l:List Nat)(rs:List RcB)(v:Value)(wr:World):Prop where
 v:RecsV wr w.heap.size v rs
 s:rs.map RcB.says=(l.take j).foldl stepB begin0
 b:Below w.heap.size w wr
theorem BegS.few{w:World}{j:Nat}{l:List Nat}{rs:List RcB}{v:Value}{wr:World}(h:BegS w j l rs v wr):∀r∈rs,Few r.nm.l:=by
 intro r hr;have h1:r.says∈(l.take j).foldl stepB begin0:=by rw[←h.s];exact List.mem_map.2 ⟨r,hr,rfl⟩
 exact(beginL_good (l.take j) _ h1).small.few
def BegR(w:World)(l:List Nat)(o i:Value)(wr:World):Prop:=∃(j:Nat) (rs:List RcB) (Av:Option Addr) (cv:Nat),j≤l.length∧i=.int .i64 (j:Int)∧o=.slice Av rs.length cv∧BegS w j l rs (.slice Av rs.length cv) wr
def InnR2(k:Nat)(rs:List RcB)(W2:World)(ok q:Value)(wr:World):Prop:=∃p:Nat,p≤rs.length∧q=.int .i64 (p:Int)∧ok=.bool (ok0 k&&((rs.take p).map RcB.says).all (ok1 k))∧Below W2.heap.size W2 wr
theorem Begin(w:World)(A:Option Addr)(l:List Nat)(cap:Nat)(hA:Cs w A (l.map u32K))(hl:∀k∈l,k < 4294967296)(h12:l.length≤12):
 Calls prog 73 #[.slice A l.length cap] w fun e w'=>Below w.heap.size w w'∧∃v,∃rs:List RcB,e=.returned v∧RecsV w' w.heap.size v rs∧rs.map RcB.says=beginL l:=by
 obtain⟨i0,hi0,hz0,hz1,hz2⟩:=info_parts info_rec;have HA:=hid hA;have HL:=hid hl;clear hA hl;have hD6:=Data6 1 (by omega);have hD2:=Data2 1 (by omega);have HB0:Hid (begin0=[([exL],6,50,dataN 6 1),([exL],2,60,dataN 2 1)]):=hid rfl;generalize dataN 6 1=D6 at *;generalize dataN 2 1=D2 at *;have HD6:=hid hD6;have HD2:=hid hD2;clear hD6 hD2;go_enter func73,ntmps73
 go_wp2_with fail;refine(Apex w).mono ?_;rintro e w1 ⟨v1,rfl,hn1,hb1⟩;obtain⟨A1,c1,rfl,_⟩:=own_form hn1;go_wp2_with fail;refine(HD6.out w1).mono ?_;rintro e w2 ⟨v2,rfl,hd2,hb2⟩;obtain⟨A2,c2,rfl,_⟩:=own_form hd2;have hb12:=hb1.trans (hb2.mono hb1.size);have hn12:=own_below hn1 hb2;have hs1:=hb1.size;clear hn1 hb1;go_wp2_with fail;refine(Apex w2).mono ?_
 rintro e w3 ⟨v3,rfl,hn3,hb3⟩;obtain⟨A3,c3,rfl,_⟩:=own_form hn3;have hb13:=hb12.trans (hb3.mono hb12.size);have hn13:=own_below hn12 hb3;have hd23:=own_below hd2 hb3;have hs2:=hb12.size;clear hn12 hd2 hb3 hb12 hb2;go_wp2_with fail;refine(HD2.out w3).mono ?_;rintro e w4 ⟨v4,rfl,hd4,hb4⟩;obtain⟨A4,c4,rfl,_⟩:=own_form hd4;have hb14:=hb13.trans (hb4.mono hb13.size)
 have hn14:=own_below hn13 hb4;have hd24:=own_below hd23 hb4;have hn34:=own_below hn3 hb4;have hs3:=hb13.size;clear hn13 hd23 hb4 hb13 hn3
 go_upto_region 2 with fail
 have b5:Below w4.heap.size w4 (w4.alloc (.cells #[.slice A1 1 c1,.int .u16 6,.int .u16 1,.int .u32 50,.slice A2 D6.length c2,.slice A3 1 c3,.int .u16 2,.int .u16 1,.int .u32 60,.slice A4 D2.length c4] 39)):=bAl
 have c5:=heap_alloc_new w4 (.cells #[.slice A1 1 c1,.int .u16 6,.int .u16 1,.int .u32 50,.slice A2 D6.length c2,.slice A3 1 c3,.int .u16 2,.int .u16 1,.int .u32 60,.slice A4 D2.length c4] 39);generalize w4.alloc (.cells #[.slice A1 1 c1,.int .u16 6,.int .u16 1,.int .u32 50,.slice A2 D6.length c2,.slice A3 1 c3,.int .u16 2,.int .u16 1,.int .u32 60,.slice A4 D2.length c4] 39)=w5 at *
 have hs4:=hb14.size;have hst:BegS w 0 l [⟨⟨A1,[exL],c1⟩,6,50,⟨A2,D6,c2⟩⟩,⟨⟨A3,[exL],c3⟩,2,60,⟨A4,D2,c4⟩⟩] (.slice (some ⟨w4.heap.size,0,none⟩) 2 2) w5:=by
  refine⟨⟨⟨rfl,.inr ⟨w4.heap.size,2,_,rfl,hs4,c5,Nat.le_refl _,by unfold maxLen;omega,rfl,rfl⟩⟩,fun r hr=> ?_⟩,by rw[List.take_zero,List.foldl_nil,HB0.out];rfl,hb14.trans (b5.mono hs4)⟩;simp only[List.mem_cons,List.not_mem_nil,or_false]at hr;rcases hr with rfl|rfl
  ·exact⟨own_base (own_below hn14 b5) (Nat.le_refl _),own_base (own_below hd24 b5) hs1⟩
  ·exact⟨own_base (own_below hn34 b5) hs2,own_base (own_below hd4 b5) hs3⟩
 have HST:=hid hst;clear hst hn14 hd24 hn34 hd4 c5 b5 hb14 HB0;go_wp2_with fail
 go_loopw [3,4] (BegR w l) (fun _ i _=>l.length - (intOf i).toNat)
 case atStart=>exact⟨0,_,_,_,Nat.zero_le _,rfl,rfl,HST.out⟩
 case round=>
  obtain⟨j,rs,Av,cv,hj,rfl,rfl,hS⟩:=hrel;have HS:=hid hS;have hrl:rs.length≤14:=by
   have h1:=congrArg List.length hS.s;have h2:=stepB_len l j;simp at h1;omega
  have hbr:=hS.b;clear hS;by_cases hlt:j < l.length
  ·obtain⟨k,hk⟩:∃k,l[j]=k:=⟨_,rfl⟩
   have hk32:k < 4294967296:=hk▸HL.out _ (List.getElem_mem hlt);have HFT:=hid (fold_take l j hlt);rw[hk]at HFT;obtain⟨ba,oa,rfl,hba,hca⟩:=HA.out j (u32K k) (by rw[List.getElem?_map,List.getElem?_eq_getElem hlt,hk];rfl);have hcr:wr.cell? ⟨ba,oa+j,none⟩=some (.int .u32 (k:Int)):=(hbr.cell (p:=⟨ba,oa+j,none⟩) hba).trans hca;have hjI:(j:Int) < (l.length:Int):=by omega
   have hj12:(j:Int) < 12:=by omega
   clear hk hca;go_wp2_with fail;refine(RecordA k hk32 wr).mono ?_;rintro e wa ⟨v,rfl,⟨An,cn,Ad,cd,rfl,hN,hD⟩,hba2⟩;have b6:Below wa.heap.size wa (wa.alloc (.cells #[.slice An (recN k).length cn,.int .u16 ((recT k:Nat):Int),.int .u16 1,.int .u32 ((ttlK k:Nat):Int),.slice Ad (recD k).length cd] 39)):=bAl
   have c6:=heap_alloc_new wa (.cells #[.slice An (recN k).length cn,.int .u16 ((recT k:Nat):Int),.int .u16 1,.int .u32 ((ttlK k:Nat):Int),.slice Ad (recD k).length cd] 39)
   go_upto_region 6 with fail
   generalize wa.alloc (.cells #[.slice An (recN k).length cn,.int .u16 ((recT k:Nat):Int),.int .u16 1,.int .u32 ((ttlK k:Nat):Int),.slice Ad (recD k).length cd] 39)=W2 at *;have hsr:=hbr.size;have hbW2:Below wr.heap.size wr W2:=hba2.trans (b6.mono hba2.size);have hsa:=hba2.size
   have HX:=hid (And.intro (own_base (own_below hN b6) hsr) (And.intro (own_base (own_below hD b6) hsr) (And.intro hbW2 c6)));have HGB:Hid (wr.heap.size≤wa.heap.size):=hid hsa;obtain⟨x0,x1,x2,x3,x4,_⟩:=cells5 c6;have hgl:=lt_block c6;clear hN hD b6 c6 hba2;generalize wa.heap.size=g at *;have HCN:=hid (cs_own HX.out.1).2
   go_cut [6]from 26 to 56 (fun v wx=>v=.bool (ok0 k)∧wx=W2)
   case first=>
    have hty:∀c:Nat,((recT k:Nat):Int)=(c:Int)↔recT k=c:=fun c=>by omega
    by_cases h6:recT k=6
    ·have e6:((recT k:Nat):Int)=6:=by omega
     have HO:Hid (ok0 k=false):=hid (by unfold ok0;rw[h6];rfl);clear h6;go_wp2_with fail;go_meet
     case rel=>exact⟨by rw[HO.out],rfl⟩
    ·have e6:¬((recT k:Nat):Int)=6:=by omega
     have e6b:(((recT k:Nat):Int) !=6)=true:=by simpa using e6
     by_cases h43:recT k=43
     ·have e43:((recT k:Nat):Int)=43:=by omega
      by_cases h1:(recN k).length=1
      ·have e1:((recN k).length:Int)=1:=by omega
       have HO:Hid (ok0 k=false):=hid (by unfold ok0;rw[h43,h1];rfl);clear h6 h43 h1;go_wp2_with fail;go_meet
       case rel=>exact⟨by rw[HO.out],rfl⟩
      ·have e1:¬((recN k).length:Int)=1:=by omega
       have e1b:((((recN k).length:Nat):Int)==1)=false:=by simpa using e1
       have HO:Hid (ok0 k=true):=hid (by unfold ok0;simp[h43,h1]);clear h6 h43 h1;go_wp2_with fail;go_meet
       case rel=>exact⟨by rw[HO.out],rfl⟩
     ·have e43:¬((recT k:Nat):Int)=43:=by omega
      have e43b:(((recT k:Nat):Int)==43)=false:=by simpa using e43
      by_cases h2:recT k=2
      ·have e2:((recT k:Nat):Int)=2:=by omega
       have HO:Hid (ok0 k= !wild (recN k)):=hid (by unfold ok0;simp[h2]);have HW:=hid (RWild An (recN k) cn W2 HCN.out);clear h6 h43 h2;go_wp2_with fail;refine HW.out.mono ?_;rintro e wb ⟨rfl,rfl⟩;generalize wild (recN k)=wl at *;go_wp2_with fail;go_meet
       case rel=>exact⟨by rw[HO.out],rfl⟩
      ·have e2:¬((recT k:Nat):Int)=2:=by omega
       have e2b:(((recT k:Nat):Int)==2)=false:=by simpa using e2
       have HO:Hid (ok0 k=true):=hid (by unfold ok0;simp[h6,h43,h2]);clear h6 h43 h2;go_wp2_with fail;go_meet
       case rel=>exact⟨by rw[HO.out],rfl⟩
   case rest=>
    obtain⟨rfl,rfl⟩:=hcut;have hgW:g < wc.heap.size:=hgl;have hWr:wr.heap.size≤wc.heap.size:=HX.out.2.2.1.size;go_wp2_with fail;generalize wr=wo at *
    go_loopw [6,7] (InnR2 k rs wc) (fun _ q _=>rs.length - (intOf q).toNat)
    case atStart=>exact⟨0,Nat.zero_le _,rfl,by simp,Below.refl _ _⟩
    case round=>
     obtain⟨p,hp,rfl,rfl,hbi⟩:=hrel;have HI:=hid hbi;have hsi:=hbi.size;have hwi:g < wr.heap.size:=by omega
     have y0:=(bcl (o:=0) hbi hgW).trans x0;have y1:=(bcl (o:=1) hbi hgW).trans x1;clear hbi;cases hb:(ok0 k&&((rs.take p).map RcB.says).all (ok1 k))with
     |false=>
      have HF:Hid (stepB ((l.take j).foldl stepB begin0) k=(l.take j).foldl stepB begin0):=hid (by
       refine stepB_no ?_;rw[okB_eq,←HS.out.s];cases hq:(ok0 k&&(rs.map RcB.says).all (ok1 k))with
       |false=>rfl
       |true=>
       exfalso;have h:=hq;rw[Bool.and_eq_true]at h;have:(ok0 k&&((rs.take p).map RcB.says).all (ok1 k))=true:=by
        rw[Bool.and_eq_true];refine⟨h.1, ?_⟩;rw[List.all_eq_true]at h ⊢;intro x hx;obtain⟨r,hr,rfl⟩:=List.mem_map.1 hx;exact h.2 _ (List.mem_map.2 ⟨r,List.mem_of_mem_take hr,rfl⟩)
       rw[hb]at this;cases this)
      have HN:Hid (BegS w (j+1) l rs (.slice Av rs.length cv) wr):=hid ⟨(HS.out.v.below HX.out.2.2.1).below HI.out,by rw[HFT.out,HF.out];exact HS.out.s,(hbr.trans (HX.out.2.2.1.mono hbr.size)).trans (HI.out.mono (Nat.le_trans hbr.size hWr))⟩;clear hb;by_cases hpl:p < rs.length
      ·have hplI:(p:Int) < (rs.length:Int):=by omega
       go_wp2_with fail;exact⟨⟨j+1,rs,Av,cv,hlt,by go_num,rfl,HN.out⟩,by simp[intOf];omega⟩
      ·have hplI:¬(p:Int) < (rs.length:Int):=by omega
       go_wp2_with fail;exact⟨⟨j+1,rs,Av,cv,hlt,by go_num,rfl,HN.out⟩,by simp[intOf];omega⟩
     |true=>
      have HBT:=hid hb;clear hb;by_cases hpl:p < rs.length
      ·have hplI:(p:Int) < (rs.length:Int):=by omega
       have hvi:=(HS.out.v.below HX.out.2.2.1).below HI.out;obtain⟨bb,off,rfl,hbb,p0,p1,p2,p3,p4⟩:=hvi.at2 hpl;have ho:=hvi.own _ (List.getElem_mem hpl);have htk:(rs.take (p+1)).map RcB.says=(rs.take p).map RcB.says++[rs[p].says]:=by rw[List.take_succ_eq_append_getElem hpl,List.map_append];rfl
       have HTK:Hid (∀b,ok1 k rs[p].says=b→(ok0 k&&((rs.take (p+1)).map RcB.says).all (ok1 k))=b):=hid fun b hb=>by
        have h1:=HBT.out;rw[Bool.and_eq_true]at h1;rw[htk,List.all_append,h1.1,h1.2];simpa using hb
       have hfw:=HS.out;have HSM:Hid (Few rs[p].nm.l):=hid (BegS.few HS.out _ (List.getElem_mem hpl));generalize rs[p]=r at *;obtain⟨⟨Rn,rn,rcn⟩,rt,rttl,⟨Rd,rd,rcd⟩⟩:=r;simp only[NmB.v,Blob.v]at p0 p1 p2 p3 p4;have hNr:=(cs_own ho.1).2;have HNR:Hid (Cs wr Rn (rn.map strV)):=hid hNr;have HNX:Hid (Cs wr An ((recN k).map strV)):=hid (HCN.out.below HI.out);clear hvi ho htk hfw hNr
       go_wp2_with fail;obtain⟨sm,hsm⟩:∃sm,same rn (recN k)=sm:=⟨_,rfl⟩
       have HSAME:=hid hsm;refine wp_region_m2 mixed0 (by kernel_rfl) [.is (.slice (some ⟨bb,off,none⟩) rs.length cv),.is (.int .i64 (p:Int)),.is (.pointer (some ⟨bb,off+p *5,none⟩)),.is (.pointer (some ⟨bb,off+p *5,none⟩)),.is (.slice Rn rn.length rcn),.is (.pointer (some ⟨g,0,none⟩)),.is (.slice An (recN k).length cn),.is (.bool sm),.is (.bool sm)] ?_ ?_
       ·intro i o hio vals W hE haf;have e0:=(bcl (o:=off+p *5) hE hbb).trans p0;have f0:=(bcl (o:=0) hE hwi).trans y0;rcases i with _|_|_|_|_|_|_|_|_|i
        all_goals first
         |(exfalso;simp at hio;done)
         |(simp at hio;subst hio;simp[bindD,rdB,Region.binds,factAt]at haf;simp[opU,go_sem,haf,e0,f0,Ext.refl,factAt,hplI,hpl];done)
         |skip
        all_goals
         simp at hio;subst hio;simp[bindD,rdB,Region.binds,factAt]at haf
        ·simp[opU,go_sem,haf,e0,f0,Ext.refl,factAt,hplI,hpl];refine(RSame Rn An rn (recN k) rcn cn W (HNR.out.below hE) (HNX.out.below hE) HSM.out (recN_ok k).1.few).mono fun e W' h=>⟨h.2.trans ?_,h.1⟩
         rw[HSAME.out]
       ·intro vals W hE hF;have h8:vals 8=.bool sm:=hF 8 (by decide);have hE:Below wr.heap.size wr W:=hE;clear hF;simp[relAct,dstAt,Act.put];rw[h8];generalize vals 0=k0,vals 1=k1;generalize vals 2=k2,vals 3=k3;generalize vals 4=k4,vals 5=k5;generalize vals 6=k6,vals 7=k7;replace p1:=(bcl hE hbb).trans p1;replace y1:=(bcl hE hwi).trans y1
        have hIW:=HI.out.trans (hE.mono hsi);have HIW:=hid hIW;clear hIW hE h8;cases sm with
        |false=>
         have HT:=HTK.out true (by unfold ok1;show(!(same rn (recN k)&&(rt==5||recT k==5)))=true;rw[HSAME.out];rfl);have HT2:=hid HT;clear HT;go_wp2_with fail;exact⟨⟨p+1,hpl,by go_num,by rw[HT2.out],HIW.out⟩,by simp[intOf];omega⟩
        |true=>
         by_cases h5:rt=5
         ·have HT:=HTK.out false (by unfold ok1;show(!(same rn (recN k)&&(rt==5||recT k==5)))=false;rw[HSAME.out,h5];rfl);have HT2:=hid HT;clear HT;go_wp2_with fail;exact⟨⟨p+1,hpl,by go_num,by rw[HT2.out],HIW.out⟩,by simp[intOf];omega⟩
         ·have h5b:(rt==5)=false:=by simpa using h5
          by_cases hk5:recT k=5
          ·have e5:((recT k:Nat):Int)=5:=by omega
           have HT:=HTK.out false (by unfold ok1;show(!(same rn (recN k)&&(rt==5||recT k==5)))=false;rw[HSAME.out,hk5];simp);have HT2:=hid HT;clear HT hk5;go_wp2_with fail;exact⟨⟨p+1,hpl,by go_num,by rw[HT2.out],HIW.out⟩,by simp[intOf];omega⟩
          ·have e5:¬((recT k:Nat):Int)=5:=by omega
           have e5b:(((recT k:Nat):Int)==5)=false:=by simpa using e5
           have HT:=HTK.out true (by unfold ok1;show(!(same rn (recN k)&&(rt==5||recT k==5)))=true;rw[h5b];rw[show(recT k==5)=false from(by simpa using hk5)];simp);have HT2:=hid HT;clear HT hk5;go_wp2_with fail;exact⟨⟨p+1,hpl,by go_num,by rw[HT2.out],HIW.out⟩,by simp[intOf];omega⟩
      ·have hplI:¬(p:Int) < (rs.length:Int):=by omega
       have hpe:rs.take p=rs:=List.take_of_length_le (by omega);have HF:Hid (stepB ((l.take j).foldl stepB begin0) k=(l.take j).foldl stepB begin0++[recS k]):=hid (by
        refine stepB_yes ?_;rw[okB_eq,←HS.out.s];have:=HBT.out;rw[hpe]at this;exact this)
       have hvi:=(HS.out.v.below HX.out.2.2.1).below HI.out;have HV:=hid hvi;have y2:=(bcl (o:=2) HI.out hgW).trans x2;have y3:=(bcl (o:=3) HI.out hgW).trans x3;have y4:=(bcl (o:=4) HI.out hgW).trans x4;have hwl:w.heap.size≤wr.heap.size:=by have:=hbr.size;omega
       clear hvi hpe x0 x1 x2 x3 x4
       go_wp2_with (first|(at_builtin;refine wpList_push3 HV.out.row hwl [.slice An (recN k).length cn,.int .u16 ((recT k:Nat):Int),.int .u16 1,.int .u32 ((ttlK k:Nat):Int),.slice Ad (recD k).length cd] rfl (by simp[Value.oneCell']) hi0 hz0 hz1 hz2 rfl (by decide) rfl (.tmp 90) _ 31 underlying31 rfl rfl rfl (by unfold maxLen;omega) (by omega) ?_;intro v4 w6 hown4 hmv4))
       obtain⟨A6,c6,rfl,_⟩:=own_form hown4;have hb6:=hmv4.below HV.out.row hwl;have HREL:Hid (BegS w (j+1) l (rs++[⟨⟨An,recN k,cn⟩,(recT k:Nat),(ttlK k:Nat),⟨Ad,recD k,cd⟩⟩]) (.slice A6 (rs.length+1) c6) w6):=hid (by
        have hkp:Kept (fun b=>some b=(Value.slice Av rs.length cv).ownBlock) wr w6:=hmv4.kept;refine⟨HV.out.push (r:=⟨⟨An,recN k,cn⟩,(recT k:Nat),(ttlK k:Nat),⟨Ad,recD k,cd⟩⟩) hkp hown4 ⟨own_below HX.out.1 HI.out,own_below HX.out.2.1 HI.out⟩, ?_, ?_⟩
        ·rw[List.map_append,HFT.out,HF.out,HS.out.s];rfl
        ·exact((hbr.trans (HX.out.2.2.1.mono hbr.size)).trans (HI.out.mono (Nat.le_trans hbr.size hWr))).trans hb6)
       clear hown4 hmv4 hb6;go_wp2_with fail;exact⟨⟨j+1,rs++[⟨⟨An,recN k,cn⟩,(recT k:Nat),(ttlK k:Nat),⟨Ad,recD k,cd⟩⟩],A6,c6,hlt,by go_num,by simp,by have:=HREL.out;simpa using this⟩,by simp[intOf];omega⟩
  ·have hjl:j=l.length:=by omega
   have hjI:¬(j:Int) < (l.length:Int):=by omega
   have HE:Hid (rs.map RcB.says=beginL l):=hid (by
    have:=HS.out.s;rw[hjl,List.take_length]at this;exact this)
   go_wp2_with fail;go_ret;exact⟨hbr,_,rfl,rs,HS.out.v,HE.out⟩
theorem RCanon6(A:Option Addr)(l:Lab)(cap:Nat)(w:World)(hc:Cs w A (l.map byteV))(hl:l.length≤100000)(hcap:l.length≤cap)(hcap2:cap≤maxLen):
 Calls prog 155 #[.int .u16 6,.slice A l.length cap] w fun e w'=>
  Below w.heap.size w w'∧∃v,e=.returned (.tuple #[v,.int .i64 (code50 (chk 6 l))])∧w'.ownsRow w.heap.size 5 1 v (canonR 6 l).length ((canonR 6 l).map byteV):=by
 have HC:=hid (RCheck 6 (by simp[goodT]) A l cap w hc hl hcap hcap2);cases hk:chk 6 l with
 |false=>
  have HE:=hid (canonR_no hk);have HK:=hid hk;clear hk hc;rw[show chk ((6:Nat):Int) l=_ from HK.out]at HC;go_enter func155,ntmps155;go_wp2_with fail;refine HC.out.mono ?_;rintro e w1 ⟨hb1,rfl⟩;unfold code50;go_wp2_with fail
  go_ret2
  exact⟨hb1,_,rfl,by rw[HE.out];exact World.ownsRow_nil _ _ _ _⟩
 |true=>
  have hsb:soaB l=true:=by rw[chk6]at hk;simp at hk;exact hk.2
  have HE:=hid ((canonR_yes hk).trans (canonO_soa hsb));have HK:=hid hk;have HSB:=hid hsb;have HF:=hid (soa_fits l);have HSo:Hid (∀W,Below w.heap.size w W→Calls prog 49 #[.slice A l.length cap] W fun e w'=>Below W.heap.size W w'∧∃v,e=.returned (.tuple #[v,.int .i64 (code50 (soaB l))])∧SoaPost W w' l v):=hid fun W hW=>RSoa A l cap W (hc.below hW) hl hcap hcap2
  rw[HSB.out]at HSo;rw[show chk ((6:Nat):Int) l=_ from HK.out]at HC;clear hk hsb hc;unfold code50 at *;go_enter func155,ntmps155;go_wp2_with fail;refine HC.out.mono ?_;rintro e w1 ⟨hb1,rfl⟩;go_wp2_with fail;refine(HSo.out w1 hb1).mono ?_;rintro e w2 ⟨hb2,v,rfl,hp⟩;obtain⟨Am,ca,Bx,cb,hv,hownM,hownX⟩:=hp.2 HSB.out
  obtain⟨_,_,hcM⟩:∃(_:True) (_:True),Cs w2 Am ((soaM l).m.map strV):=by
   obtain⟨A6,c6,e6,_,h6⟩:=Cs.of_own hownM;cases e6;exact⟨trivial,trivial,h6⟩
  obtain⟨_,_,hcX⟩:∃(_:True) (_:True),Cs w2 Bx ((soaM l).x.map strV):=by
   obtain⟨A6,c6,e6,_,h6⟩:=Cs.of_own hownX;cases e6;exact⟨trivial,trivial,h6⟩
  have hsM:Small (soaM l).m:=openN_small _;have hsX:Small (soaM l).x:=openN_small _;obtain⟨M,X,n1,n2,n3,n4,n5,hsm⟩:∃M X n1 n2 n3 n4 n5,soaM l=⟨M,X,n1,n2,n3,n4,n5⟩:=⟨_,_,_,_,_,_,_,rfl⟩
  rw[hsm]at hv hcM hcX hsM hsX HE HF;unfold SoaM.v at hv;unfold SoaM.low at HE HF;simp only at hv hcM hcX hsM hsX HE HF;subst hv;have hb12:=hb1.trans (hb2.mono hb1.size);clear hownM hownX hp hsm;go_wp2_with fail;generalize hw3:w2.alloc (.cells #[.slice Am M.length ca,.slice Bx X.length cb,.int .u32 n1,.int .u32 n2,.int .u32 n3,.int .u32 n4,.int .u32 n5] 91)=w3
  have hb3:Below w2.heap.size w2 w3:=by rw[←hw3];exact bAl
  have hz3:w3.heap.size=w2.heap.size+1:=by rw[←hw3];simp
  have hg3:w3.heap[w2.heap.size]? =some (.cells #[.slice Am M.length ca,.slice Bx X.length cb,.int .u32 n1,.int .u32 n2,.int .u32 n3,.int .u32 n4,.int .u32 n5] 91 (0,0)):=by rw[←hw3];exact heap_alloc_new w2 _
  have HLM:Hid (∀W,Below w2.heap.size w3 W→Calls prog 64 #[.slice Am M.length ca] W fun e w'=>∃v,e=.returned v∧w'.ownsRow W.heap.size 9 1 v M.length ((lower M).map strV)∧Below W.heap.size W w'):=hid fun W hW=>RLower Am M ca W (hcM.below (hb3.trans hW)) hsM.few
  have HLX:Hid (∀W,Below w2.heap.size w3 W→Calls prog 64 #[.slice Bx X.length cb] W fun e w'=>∃v,e=.returned v∧w'.ownsRow W.heap.size 9 1 v X.length ((lower X).map strV)∧Below W.heap.size W w'):=hid fun W hW=>RLower Bx X cb W (hcX.below (hb3.trans hW)) hsX.few;have hb13:=hb12.trans (hb3.mono (by have:=hb12.size;omega));have hzw:=hb12.size;clear hw3 hcM hcX
  generalize hgg:w2.heap.size=g at *;refine wp_region_rel0 (by kernel_rfl) (by kernel_rfl) (fun _ _=>false) (by kernel_rfl)
   (fun i W W'=>if i=7 then ∃v,W'=W.setCell ⟨g,0,none⟩ v else if i=9 then ∃v,W'=W.setCell ⟨g,1,none⟩ v else Ext W W')
   (fun W=>Below g w3 W∧∃c0 c1,W.heap[g]? =some (.cells #[c0,c1,.int .u32 n1,.int .u32 n2,.int .u32 n3,.int .u32 n4,.int .u32 n5] 91 (0,0)))
   (fun i v W=>match i with
     |0=>v=.pointer (some ⟨g,0,none⟩)
     |1=>v=.slice Am M.length ca
     |2=>W.ownsRow w3.heap.size 9 1 v M.length ((lower M).map strV)
     |3=>v=.pointer (some ⟨g,1,none⟩)
     |4=>v=.slice Bx X.length cb
     |5=>W.ownsRow w3.heap.size 9 1 v X.length ((lower X).map strV)
     |6=>v=.pointer (some ⟨g,0,none⟩)
     |7=>∃A5 c5,W.cell? ⟨g,0,none⟩=some (.slice A5 M.length c5)∧W.ownsRow w3.heap.size 9 1 (.slice A5 M.length c5) M.length ((lower M).map strV)
     |8=>v=.pointer (some ⟨g,1,none⟩)
     |9=>∃A5 c5,W.cell? ⟨g,1,none⟩=some (.slice A5 X.length c5)∧W.ownsRow w3.heap.size 9 1 (.slice A5 X.length c5) X.length ((lower X).map strV)
     |_=>True)
   (fun W=>W.cell? ⟨g,0,none⟩=some (.slice Am M.length ca)∧W.cell? ⟨g,1,none⟩=some (.slice Bx X.length cb)) (fun i=>i==7||i==9) ?_ ?_ ?_ ?_ ?_ ?_ ?_
  ·exact⟨(by show w3.cell? _=_;rw[cell_of_row _ _ 0 _ _ _ hg3];rfl),(by show w3.cell? _=_;rw[cell_of_row _ _ 1 _ _ _ hg3];rfl)⟩
  ·intro i W W' hk hC hI hT;have h7:i≠7:=fun h=>by subst h;cases hk
   have h9:i≠9:=fun h=>by subst h;cases hk
   simp only[h7,h9,if_false]at hT;obtain⟨_,c0,c1,hq⟩:=hC;exact⟨(bcl hT (lt_block hq)).trans hI.1,(bcl hT (lt_block hq)).trans hI.2⟩
  ·exact⟨⟨rfl,rfl,rfl,Nat.le_refl _,fun _ _=>rfl⟩,_,_,hg3⟩
  ·intro i W W' hC hT;obtain⟨hb,c0,c1,hq⟩:=hC;have hz:=hb.size;by_cases h7:i=7
   ·simp only[h7,if_true]at hT;obtain⟨v,rfl⟩:=hT;exact⟨hb.setCell (p:=⟨g,0,none⟩) (Nat.le_refl _) _,v,c1,heap_set hq⟩
   ·by_cases h9:i=9
    ·simp only[h9,if_true,show ¬(9:Nat)=7 by omega,if_false]at hT;obtain⟨v,rfl⟩:=hT;exact⟨hb.setCell (p:=⟨g,1,none⟩) (Nat.le_refl _) _,c0,v,heap_set hq⟩
    ·simp only[h7,h9,if_false]at hT;exact⟨hb.trans (hT.mono (by omega)),c0,c1,(hT.block _ (lt_block hq)).trans hq⟩
  ·intro i j v W W' hij _ hw hC hR hT;obtain⟨hb,c0,c1,hq⟩:=hC;by_cases h79:i=7∨i=9
   ·have hk:Kept (fun b=>b=g) W W':=by
     rcases h79 with rfl|rfl
     ·simp only[if_true]at hT;obtain⟨u,rfl⟩:=hT;exact(Kept.refl (fun b=>b=g) W).setCell (p:=⟨g,0,none⟩) (fun _=>rfl) u
     ·simp only[if_true,show ¬(9:Nat)=7 by omega,if_false]at hT;obtain⟨u,rfl⟩:=hT;exact(Kept.refl (fun b=>b=g) W).setCell (p:=⟨g,1,none⟩) (fun _=>rfl) u
    have hrow:∀{u:Value} {n:Nat} {xs:List Value},W.ownsRow w3.heap.size 9 1 u n xs→W'.ownsRow w3.heap.size 9 1 u n xs:=fun h=>Kept.row h hk (fun k hk2=>by have:=(h.lt k hk2).1;omega);rcases j with _|_|_|_|_|_|_|_|_|_|j
    ·exact hR
    ·exact hR
    ·exact hrow hR
    ·exact hR
    ·exact hR
    ·exact hrow hR
    ·exact hR
    ·obtain⟨A5,c5,h1,h2⟩:=hR;refine⟨A5,c5, ?_,hrow h2⟩;rcases h79 with rfl|rfl
     ·exact absurd rfl hij
     ·simp only[if_true,show ¬(9:Nat)=7 by omega,if_false]at hT;obtain⟨u,rfl⟩:=hT;rw[setc_side (by decide)];exact h1
    ·exact hR
    ·obtain⟨A5,c5,h1,h2⟩:=hR;refine⟨A5,c5, ?_,hrow h2⟩;rcases h79 with rfl|rfl
     ·simp only[if_true]at hT;obtain⟨u,rfl⟩:=hT;rw[setc_side (by decide)];exact h1
     ·exact absurd rfl hij
    ·trivial
   ·have h7:¬i=7:=fun h=>h79 (.inl h);have h9:¬i=9:=fun h=>h79 (.inr h);simp only[h7,h9,if_false]at hT;rcases j with _|_|_|_|_|_|_|_|_|_|j
    ·exact hR
    ·exact hR
    ·exact own_below hR hT
    ·exact hR
    ·exact hR
    ·exact own_below hR hT
    ·exact hR
    ·obtain⟨A5,c5,h1,h2⟩:=hR;exact⟨A5,c5,(bcl hT (lt_block hq)).trans h1,own_below h2 hT⟩
    ·exact hR
    ·obtain⟨A5,c5,h1,h2⟩:=hR;exact⟨A5,c5,(bcl hT (lt_block hq)).trans h1,own_below h2 hT⟩
    ·trivial
  ·intro i o hio vals W hC haf hI;obtain⟨hb,c0,c1,hq⟩:=hC;have hz:=hb.size;have k0:W.cell? ⟨g,0,none⟩=some c0:=by rw[cell_of_row _ _ 0 _ _ _ hq];rfl
   have k1:W.cell? ⟨g,1,none⟩=some c1:=by rw[cell_of_row _ _ 1 _ _ _ hq];rfl
   have kf:∀i,W.frozen? ⟨g,i,none⟩=false:=(cells7 hq).2.2.2.2.2.2.2;rcases i with _|_|_|_|_|_|_|_|_|_|i
   all_goals first
    |(exfalso;simp at hio;done)
    |skip
   all_goals
    simp at hio;subst hio;simp[bindD,rdB,Region.binds]at haf
   ·simp[opU,go_sem,Ext.refl]
   ·have hII:=hI (fun k hk h=>by
     have:k=7∨k=9:=by simpa using h
     rcases this with rfl|rfl
     ·exact .inr (by kernel_rfl)
     ·exact .inr (by kernel_rfl))
    simp[opU,go_sem,haf,hII.1,Ext.refl]
   ·simp[opU,go_sem,haf];refine(HLM.out W hb).mono fun e W' h5=> ?_;obtain⟨v,he,ho,hbb⟩:=h5;exact⟨v,he,hbb,own_base ho hz⟩
   ·simp[opU,go_sem,Ext.refl]
   ·have hII:=hI (fun k hk h=>by
     have:k=7∨k=9:=by simpa using h
     rcases this with rfl|rfl
     ·exact .inr (by kernel_rfl)
     ·exact .inr (by kernel_rfl))
    simp[opU,go_sem,haf,hII.2,Ext.refl]
   ·simp[opU,go_sem,haf];refine(HLX.out W hb).mono fun e W' h5=> ?_;obtain⟨v,he,ho,hbb⟩:=h5;exact⟨v,he,hbb,own_base ho hz⟩
   ·simp[opU,go_sem,Ext.refl]
   ·obtain⟨h1,h2⟩:=haf;obtain⟨A5,c5,e5,_,_⟩:=Cs.of_own h2;have hrow:=Kept.row h2 ((Kept.refl (fun b=>b=g) W).setCell (p:=⟨g,0,none⟩) (fun _=>rfl) (.slice A5 M.length c5)) (fun k hk2=>by have:=(h2.lt k hk2).1;omega);rw[e5]at hrow;simp[opU,go_sem,h1,e5,k0,kf];exact⟨⟨_,rfl⟩,A5,c5,⟨rfl,rfl⟩,hrow⟩
   ·simp[opU,go_sem,Ext.refl]
   ·obtain⟨h1,h2⟩:=haf;obtain⟨A5,c5,e5,_,_⟩:=Cs.of_own h2;have hrow:=Kept.row h2 ((Kept.refl (fun b=>b=g) W).setCell (p:=⟨g,1,none⟩) (fun _=>rfl) (.slice A5 X.length c5)) (fun k hk2=>by have:=(h2.lt k hk2).1;omega);rw[e5]at hrow;simp[opU,go_sem,h1,e5,k1,kf];exact⟨⟨_,rfl⟩,A5,c5,⟨rfl,rfl⟩,hrow⟩
  ·intro vals W hC hR;obtain⟨hb,c0,c1,hq⟩:=hC;obtain⟨A5,c5,h7,o7⟩:=hR 7 (by show 7 < 10;omega) (fun _ _=>rfl);obtain⟨A6,c6,h9,o9⟩:=hR 9 (by show 9 < 10;omega) (fun _ _=>rfl);obtain⟨k0,k1,k2,k3,k4,k5,k6,_⟩:=cells7 hq;have e0:=k0.symm.trans h7;have e1:=k1.symm.trans h9;cases e0;cases e1;simp[relAct,dstAt,Act.put];have hz:=hb.size;have hbW:=hb13.trans (hb.mono (by omega))
   have hc7:Cs W A5 ((lower M).map strV):=by
    obtain⟨A8,c8,e8,_,h8⟩:=Cs.of_own o7;cases e8;exact h8
   have hc9:Cs W A6 ((lower X).map strV):=by
    obtain⟨A8,c8,e8,_,h8⟩:=Cs.of_own o9;cases e8;exact h8
   have hSB:=RSoaBytes ⟨lower M,lower X,n1,n2,n3,n4,n5⟩ HF.out A5 A6 c5 c6 W hc7 hc9;unfold SoaM.v at hSB;simp only[lower_len]at hSB;have HSB2:=hid hSB;clear hR hSB h7 h9 hq;generalize vals 0=v0 at *;generalize vals 1=v1 at *;generalize vals 2=v2 at *;generalize vals 3=v3 at *;generalize vals 4=v4 at *;generalize vals 5=v5 at *;generalize vals 6=v6 at *;generalize vals 8=v8 at *
   go_wp2_with fail;refine HSB2.out.mono ?_;rintro e w9 ⟨v,rfl,ho,hbb⟩;have hb9:=hbW.trans (hbb.mono (by omega));have hoF:=own_base ho (show w.heap.size≤W.heap.size by omega);go_wp2_with fail
   go_ret2
   refine⟨hb9,_,rfl, ?_⟩;rw[HE.out];exact hoF
theorem heap_setB{w:World}{g i:Nat}{cs:Array Value}{T:TypeId}{fr:Nat×Nat}{v:Value}(h:w.heap[g]? =some (.cells cs T fr)):(w.setCell ⟨g,i,none⟩ v).heap[g]? =some (.cells (cs.setIfInBounds i v) T fr):=by
 simp[World.setCell,Array.getElem?_modify,h]
structure RowM(w:World)(g n:Nat)(ys bs:List Blob)(p:Nat):Prop where
 lo:∀i b,ys[i]? =some b→w.cell? ⟨g,i,none⟩=some b.v
 hi:∀i b,p≤i→bs[i]? =some b→w.cell? ⟨g,i,none⟩=some b.v
 cs:∃cs,w.heap[g]? =some (.cells cs 37 (0,0))∧n≤cs.size
theorem RowM.frozen{w:World}{g n p:Nat}{ys bs:List Blob}(h:RowM w g n ys bs p)(i:Nat):w.frozen? ⟨g,i,none⟩=false:=by
 obtain⟨cs,h1,_⟩:=h.cs;simp[World.frozen?,h1]
theorem RowM.size{w:World}{g n p:Nat}{ys bs:List Blob}(h:RowM w g n ys bs p):g < w.heap.size:=by
 obtain⟨cs,h1,_⟩:=h.cs;exact lt_block h1
theorem RowM.any{w:World}{g n p:Nat}{ys bs:List Blob}(h:RowM w g n ys bs p){i:Nat}(hi:i < n):∃v,w.cell? ⟨g,i,none⟩=some v:=by
 obtain⟨cs,h1,h2⟩:=h.cs;exact⟨cs[i],by rw[cell_of_row w g i _ _ _ h1];exact Array.getElem?_eq_getElem _⟩
theorem RowM.kept{w w':World}{g n p:Nat}{ys bs:List Blob}(h:RowM w g n ys bs p)(hb:w'.heap[g]? =w.heap[g]?):RowM w' g n ys bs p:=by
 have hc:∀i,w'.cell? ⟨g,i,none⟩=w.cell? ⟨g,i,none⟩:=fun i=>World.cell?_of_block (a:=⟨g,i,none⟩) hb;obtain⟨cs,h1,h2⟩:=h.cs;exact⟨fun i b hib=>(hc i).trans (h.lo i b hib),fun i b hp hib=>(hc i).trans (h.hi i b hp hib),cs,hb.trans h1,h2⟩
theorem RowM.set{w:World}{g n p:Nat}{ys bs:List Blob}{b:Blob}(h:RowM w g n ys bs p)(hk:ys.length < n)(hp:ys.length≤p):RowM (w.setCell ⟨g,ys.length,none⟩ b.v) g n (ys++[b]) bs (p+1):=by
 obtain⟨v,hv⟩:=h.any hk;obtain⟨cs,h1,h2⟩:=h.cs;have hfar:∀i,i≠ys.length→(w.setCell ⟨g,ys.length,none⟩ b.v).cell? ⟨g,i,none⟩=w.cell? ⟨g,i,none⟩:=fun i hi=>
  World.cell?_setCell_other (w:=w) (a:=⟨g,ys.length,none⟩) (b:=⟨g,i,none⟩) (v:=b.v) (by intro e;cases e;exact hi rfl)
 refine⟨fun i c hic=> ?_,fun i c hpi hic=> ?_,cs.setIfInBounds ys.length b.v,heap_setB h1,by simpa using h2⟩
 ·rw[List.getElem?_append]at hic;split at hic
  ·rename_i hi;rw[hfar i (by omega)];exact h.lo i c hic
  ·rename_i hi;have hlt:=(List.getElem?_eq_some_iff.1 hic).1;simp at hlt;have e:i=ys.length:=by omega
   subst e;simp at hic;subst hic;exact setc_same hv
 ·rw[hfar i (by omega)];exact h.hi i c (by omega) hic
theorem ro_id(t:Nat)(ht:t=1∨t=28∨t=16∨t=43∨t=99)(b:Lab):canonO t b=b:=by
 rcases ht with rfl|rfl|rfl|rfl|rfl <;> rfl
theorem ro_nm(t:Nat)(ht:t=2∨t=5)(b:Lab):canonO t b=wire (lower (openN b)):=by
 rcases ht with rfl|rfl <;> rfl
theorem ro_mx(b:Lab):canonO ((15:Nat):Int) b=b.take 2++wire (lower (openN (b.drop 2))):=rfl
theorem whole_yes{b:Lab}(h:wholeB b=true):openE b=0:=by
 rw[whole_eq]at h;simp at h;exact h.1
theorem RCanon(t:Nat)(ht:goodT t)(A:Option Addr)(b:Lab)(cap:Nat)(w:World)(hc:Cs w A (b.map byteV))(hb:b.length≤100000)(hcap:b.length≤cap)(hcap2:cap≤maxLen):
 Calls prog 155 #[.int .u16 (t:Int),.slice A b.length cap] w fun e w'=>
  Below w.heap.size w w'∧∃v,e=.returned (.tuple #[v,.int .i64 (code50 (chk t b))])∧w'.ownsRow w.heap.size 5 1 v (canonR t b).length ((canonR t b).map byteV):=by
 by_cases h6:t=6
 ·subst h6;exact RCanon6 A b cap w hc hb hcap hcap2
 have HC:=hid (RCheck t ht A b cap w hc hb hcap hcap2);cases hk:chk t b with
 |false=>
  have HE:=hid (canonR_no hk);rw[hk]at HC;clear hk;go_enter func155,ntmps155;go_wp2_with fail;refine HC.out.mono ?_;rintro e w1 ⟨hb1,rfl⟩;unfold code50;go_wp2_with fail
  go_ret2
  exact⟨hb1,_,rfl,by rw[HE.out];exact World.ownsRow_nil _ _ _ _⟩
 |true=>
  have HE:=hid (canonR_yes hk);have HK:=hid hk;rw[hk]at HC;clear hk;have H0:∀W:World,W.ownsRow w.heap.size 5 1 (.slice none 0 0) 0 (([]:Lab).map byteV):=fun W=>World.ownsRow_nil _ _ _ _;have HH0:=hid H0;clear H0;go_enter func155,ntmps155;have ht2:t=15∨(t=2∨t=5)∨(t=1∨t=28∨t=16∨t=43∨t=99):=by unfold goodT at ht;omega
  rcases ht2 with rfl|ht2|ht2
  ·have hw2:2≤b.length∧wholeB (b.drop 2)=true:=by
    have:=HK.out;rw[rk15]at this;simp at this;exact⟨this.2.1,this.2.2⟩
   have h2l:2 < b.length:=by
    rcases Nat.lt_or_ge 2 b.length with h|h
    ·exact h
    ·have:=hw2.2;rw[List.drop_eq_nil_of_le h,whole_nil]at this;cases this
   obtain⟨bk,off,rfl,hbl,_⟩:=Cs.byte hc h2l;have hO:Hid (∀W,Below w.heap.size w W→Calls prog 100 #[.slice (some ⟨bk,off+2,none⟩) (b.length - 2) (cap - 2)] W fun e w'=>∃v,e=.returned (.tuple #[v,.int .i64 (openK (b.drop 2):Int),.int .i64 0])∧w'.ownsRow W.heap.size 9 1 v (openN (b.drop 2)).length ((openN (b.drop 2)).map strV)∧Below W.heap.size W w'):=hid fun W hW=>by
    have h:=(hc.below hW).drop' 2 cap (by simpa using hcap);rw[←List.map_drop,if_neg (by omega),Option.map_some,add_plain]at h;have h2:=RNOpen (some ⟨bk,off+2,none⟩) (b.drop 2) (cap - 2) W h (by rw[List.length_drop];omega) (by rw[List.length_drop];omega) (by omega);rw[List.length_drop,whole_yes hw2.2]at h2;exact h2
   have hs:=openN_small (b.drop 2);have h2i:(2:Int)≤(b.length:Int):=by omega
   have h2c:¬cap=2:=by omega
   have h2d:(2:Int)≤(cap:Int):=by omega
   have HS:=hid hs;have HM:Hid (canonR ((15:Nat):Int) b=b.take 2++wire (lower (openN (b.drop 2)))):=hid (HE.out.trans (ro_mx b));have hl2:(b.take 2).length=2:=by rw[List.length_take];omega
   have ht2:Cs w (some ⟨bk,off,none⟩) ((b.take 2).map byteV):=by rw[List.map_take];exact hc.take' 2
   have HT:=hid (And.intro ht2 hl2);clear hw2 hs ht2 hl2 hc HE HK;generalize openN (b.drop 2)=nm at *;generalize openK (b.drop 2)=kk at *;generalize b.take 2=p2 at *;go_wp2_with fail;refine HC.out.mono ?_;rintro e w1 ⟨hb1,rfl⟩;unfold code50;go_wp2_with fail;refine(hO.out w1 hb1).mono ?_;rintro e w2 ⟨v,rfl,hown,hb2⟩;obtain⟨A3,c3,rfl,_,h3c⟩:=Cs.of_own hown
   have hb02:=hb1.trans (hb2.mono hb1.size);have ht3:=HT.out.1.below hb02;have H3:=hid (And.intro h3c hb02);clear hown h3c;have h0:w2.ownsRow w2.heap.size 5 1 (.slice none 0 0) 0 (([]:Lab).map byteV):=World.ownsRow_nil _ _ _ _;have hbs:=Nat.le_refl w2.heap.size;have hl2:=HT.out.2
   go_wp2_with (first
    |(at_builtin;refine wpList_bytes h0 hbs ht3 rfl _ (.tmp 43) underlying37 rfl rfl (by rw[hl2];rfl) (by omega) ?_;intro v4 w4 hown4 hbw4;have HX4:=hid (And.intro hown4 hbw4);clear hown4 hbw4))
   refine(RLower A3 nm c3 w4 (H3.out.1.below HX4.out.2) HS.out.few).mono ?_;rintro e w5 ⟨v5,rfl,hown5,hb5⟩;obtain⟨A5,c5,rfl,_,h5c⟩:=Cs.of_own hown5;have HL5:=hid (And.intro h5c hb5);clear hown5 h5c hb5;go_wp2_with fail;have h6:=RWire A5 (lower nm) c5 w5 HL5.out.1 HS.out.lower;rw[lower_len]at h6;refine h6.mono ?_;rintro e w6 ⟨v6,rfl,hown6,hb6⟩
   obtain⟨A6,c6,rfl,_,h6c⟩:=Cs.of_own hown6;have hb46:=HL5.out.2.trans (hb6.mono HL5.out.2.size);have h4:=own_below HX4.out.1 hb46;have hB6:w2.heap.size≤w6.heap.size:=Nat.le_trans HX4.out.2.size hb46.size;have hb26:=HX4.out.2.trans (hb46.mono HX4.out.2.size);have hwl:=wire_len_few HS.out.lower;have HZ:=hid hb26;clear hown6 h6 hb6 hb46 hb26 h0
   go_wp2_with (first
    |(at_builtin;refine wpList_bytes h4 hB6 h6c rfl (.tmp 44) (.tmp 47) underlying37 rfl rfl rfl (by simp[hl2];omega) ?_;intro v7 w7 hown7 hbw7))
   go_ret2
   refine⟨H3.out.2.trans ((HZ.out.trans hbw7).mono H3.out.2.size),_,rfl, ?_⟩;rw[HM.out,List.length_append];have h8:=own_base hown7 H3.out.2.size;simpa[hl2]using h8
  ·have hwh:wholeB b=true:=by
    have:=HK.out;rcases ht2 with rfl|rfl
    ·rw[rk2]at this;simp at this;exact this.2
    ·rw[rk5]at this;simp at this;exact this.2
   have HO:Hid (∀W,Below w.heap.size w W→Calls prog 100 #[.slice A b.length cap] W fun e w'=>∃v,e=.returned (.tuple #[v,.int .i64 (openK b:Int),.int .i64 0])∧w'.ownsRow W.heap.size 9 1 v (openN b).length ((openN b).map strV)∧Below W.heap.size W w'):=hid fun W hW=>by
    have h2:=RNOpen A b cap W (hc.below hW) hb hcap hcap2;rw[whole_yes hwh]at h2;exact h2
   have HS:=hid (openN_small b);have HM:Hid (canonR (t:Int) b=wire (lower (openN b))):=hid (HE.out.trans (ro_nm t ht2 b));clear hwh hc HE HK;generalize openN b=nm at *;generalize openK b=kk at *;have ht3:((t:Int)==2)=true∨(((t:Int)==2)=false∧((t:Int)==5)=true):=by rcases ht2 with rfl|rfl <;> decide
   clear ht2 ht h6;rcases ht3 with h1|⟨h1,h2⟩
   ·go_wp2_with fail;refine HC.out.mono ?_;rintro e w1 ⟨hb1,rfl⟩;unfold code50;go_wp2_with fail;refine(HO.out w1 hb1).mono ?_;rintro e w2 ⟨v,rfl,hown,hb2⟩;obtain⟨A3,c3,rfl,_,h3c⟩:=Cs.of_own hown;have hb02:=hb1.trans (hb2.mono hb1.size);clear hown;go_wp2_with fail;refine(RLower A3 nm c3 w2 h3c HS.out.few).mono ?_;rintro e w3 ⟨v3,rfl,hown3,hb3⟩
    obtain⟨A4,c4,rfl,_,h4c⟩:=Cs.of_own hown3;have hb03:=hb02.trans (hb3.mono hb02.size);clear hown3 h3c;go_wp2_with fail;have h5:=RWire A4 (lower nm) c4 w3 h4c HS.out.lower;rw[lower_len]at h5;refine h5.mono ?_;rintro e w4 ⟨v4,rfl,hown4,hb4⟩;have hb04:=hb03.trans (hb4.mono hb03.size);have HF:=hid (And.intro (own_base hown4 hb03.size) hb04);clear hown4 hb04 h5 h4c;go_wp2_with fail
    go_ret2
    exact⟨HF.out.2,_,rfl,by rw[HM.out];exact HF.out.1⟩
   ·go_wp2_with fail;refine HC.out.mono ?_;rintro e w1 ⟨hb1,rfl⟩;unfold code50;go_wp2_with fail;refine(HO.out w1 hb1).mono ?_;rintro e w2 ⟨v,rfl,hown,hb2⟩;obtain⟨A3,c3,rfl,_,h3c⟩:=Cs.of_own hown;have hb02:=hb1.trans (hb2.mono hb1.size);clear hown;go_wp2_with fail;refine(RLower A3 nm c3 w2 h3c HS.out.few).mono ?_;rintro e w3 ⟨v3,rfl,hown3,hb3⟩
    obtain⟨A4,c4,rfl,_,h4c⟩:=Cs.of_own hown3;have hb03:=hb02.trans (hb3.mono hb02.size);clear hown3 h3c;go_wp2_with fail;have h5:=RWire A4 (lower nm) c4 w3 h4c HS.out.lower;rw[lower_len]at h5;refine h5.mono ?_;rintro e w4 ⟨v4,rfl,hown4,hb4⟩;have hb04:=hb03.trans (hb4.mono hb03.size);have HF:=hid (And.intro (own_base hown4 hb03.size) hb04);clear hown4 hb04 h5 h4c;go_wp2_with fail
    go_ret2
    exact⟨HF.out.2,_,rfl,by rw[HM.out];exact HF.out.1⟩
  ·have hrid:=ro_id t ht2 b;have HM:Hid (canonR (t:Int) b=b):=hid (HE.out.trans hrid);have h2:((t:Int)==2)=false:=by rcases ht2 with rfl|rfl|rfl|rfl|rfl <;> decide
   have h5:((t:Int)==5)=false:=by rcases ht2 with rfl|rfl|rfl|rfl|rfl <;> decide
   have h15:((t:Int)==15)=false:=by rcases ht2 with rfl|rfl|rfl|rfl|rfl <;> decide
   have h6':((t:Int)==6)=false:=by rcases ht2 with rfl|rfl|rfl|rfl|rfl <;> decide
   have h46:((t:Int)==46)=false:=by rcases ht2 with rfl|rfl|rfl|rfl|rfl <;> decide
   have HCs:=hid hc;clear hrid HE HK hc ht2 ht h6;go_wp2_with fail;refine HC.out.mono ?_;rintro e w1 ⟨hb1,rfl⟩;unfold code50;have h0:=HH0.out w1;have hc1:=HCs.out.below hb1;have hbs:=hb1.size
   go_wp2_with (first
    |(at_builtin;refine wpList_bytes h0 hbs hc1 rfl _ (.tmp 79) underlying37 rfl rfl rfl (by omega) ?_;intro v4 w4 hown4 hbw4))
   go_ret2
   refine⟨hb1.trans hbw4,_,rfl, ?_⟩;rw[HM.out];simpa using hown4
def ordP(a b:PR):Int:=if cmpN a.n b.n=0 then(if a.t=b.t then Lib.compareBytes a.c b.c else if a.t < b.t then -1 else 1)else cmpN a.n b.n
theorem ordP_lt(a b:PR):ordP a b < 0↔ltP a b:=by
 unfold ordP ltP;split
 ·rename_i h;split
  ·rename_i h2;constructor
   ·intro h3;exact .inr ⟨h,.inr ⟨h2,h3⟩⟩
   ·rintro(h3|⟨_,h3|⟨_,h3⟩⟩)
    ·omega
    ·omega
    ·exact h3
  ·rename_i h2;split
   ·rename_i h3;exact⟨fun _=>.inr ⟨h,.inl h3⟩,fun _=>by decide⟩
   ·rename_i h3;constructor
    ·intro h4;exact absurd h4 (by decide)
    ·rintro(h4|⟨_,h4|⟨h4,_⟩⟩) <;> omega
 ·rename_i h;constructor
  ·intro h2;exact .inl h2
  ·rintro(h2|⟨h2,_⟩)
   ·exact h2
   ·exact absurd h2 h
theorem ordP_eq(a b:PR):ordP a b=0↔cmpN a.n b.n=0∧a.t=b.t∧a.c=b.c:=by
 unfold ordP;split
 ·rename_i h;split
  ·rename_i h2;rw[cb_zero];exact⟨fun h3=>⟨h,h2,h3⟩,fun h3=>h3.2.2⟩
  ·rename_i h2;constructor
   ·intro h3;split at h3 <;> omega
   ·intro h3;exact absurd h3.2.1 h2
 ·rename_i h;exact⟨fun h2=>absurd h2 h,fun h2=>absurd h2.1 h⟩
theorem RCan15(t:Nat)(ht:goodT t)(A:Option Addr)(b:Lab)(cap:Nat)(w:World)(hc:Cs w A (b.map byteV))(hb:b.length≤100000)(hcap:b.length≤cap)(hcap2:cap≤maxLen)(hk:chk t b=true):
 Calls prog 112 #[.int .u16 (t:Int),.slice A b.length cap] w fun e w'=>Below w.heap.size w w'∧e=.returned (.string (strB (canonD t b))):=by
 have HC:=hid (RCanon t ht A b cap w hc hb hcap hcap2);have hD:canonR t b=canonD t b:=by unfold canonD;rw[hk,canonR_yes hk];rfl
 rw[hk,hD]at HC;clear hc hD hk;generalize canonD (t:Int) b=y at *;go_enter func112,ntmps112;go_wp2_with fail;refine HC.out.mono ?_;rintro e w1 ⟨hb1,v,rfl,hown⟩;have hcv:(convert 37 9 v).run prog w1=.ok (.string (strB y)) w1:=run_str_own w1 (e:=5) underlying37 underlying5 underlying9 hown;unfold code50;obtain⟨A1,c1,rfl,_⟩:=own_form hown;clear HC hown
 go_wp2_with fail;go_ret;exact⟨hb1,rfl⟩
structure RcV where
 A:Option Addr
 n:List Lab
 cn:Nat
 t:Nat
 cl:Int
 ttl:Int
 D:Option Addr
 d:Lab
 cd:Nat
def RcV.cells(r:RcV):Array Value:= #[.slice r.A r.n.length r.cn,.int .u16 (r.t:Int),.int .u16 r.cl,.int .u32 r.ttl,.slice r.D r.d.length r.cd]
structure RcV.ok(w:World)(r:RcV):Prop where
 name:Cs w r.A (r.n.map strV)
 few:Few r.n
 ty:goodT r.t
 data:Cs w r.D (r.d.map byteV)
 chk:chk r.t r.d=true
 len:r.d.length≤100000
 cap:r.d.length≤r.cd
 cap2:r.cd≤maxLen
def RcV.pr(r:RcV):PR:=⟨r.n,r.t,r.ttl,r.d,canonD r.t r.d⟩
theorem RcV.ok.below{w w':World}{r:RcV}(h:r.ok w)(hb:Below w.heap.size w w'):r.ok w':=⟨h.name.below hb,h.few,h.ty,h.data.below hb,h.chk,h.len,h.cap,h.cap2⟩
theorem ROrder(a b:RcV)(w:World)(ha:a.ok w)(hb:b.ok w):
 Calls prog 109 #[.agg a.cells,.agg b.cells] w fun e w'=>Below w.heap.size w w'∧e=.returned (.int .i64 (ordP a.pr b.pr)):=by
 have b1:Below w.heap.size w (w.alloc (.cells a.cells 39)):=bAl;have c1:=heap_alloc_new w (.cells a.cells 39);have b2:Below (w.alloc (.cells a.cells 39)).heap.size (w.alloc (.cells a.cells 39)) ((w.alloc (.cells a.cells 39)).alloc (.cells b.cells 39)):=bAl
 have c2:=heap_alloc_new (w.alloc (.cells a.cells 39)) (.cells b.cells 39);have c12:=(b2.block _ (lt_block c1)).trans c1;have b12:=b1.trans (b2.mono b1.size);rw[show(w.alloc (.cells a.cells 39)).heap.size=w.heap.size+1 from by simp]at c2;have HA:=hid (ha.below b12);have HB:=hid (hb.below b12);obtain⟨An,an,acn,at',acl,attl,Ad,ad,acd⟩:=a;obtain⟨Bn,bn,bcn,bt,bcl',bttl,Bd,bd,bcd⟩:=b
 unfold RcV.cells at *;dsimp only at *;clear b1 b2 c1 ha hb;go_enter func109,ntmps109
 go_upto_region 1 with fail
 generalize((w.alloc (.cells #[.slice An an.length acn,.int .u16 (at':Int),.int .u16 acl,.int .u32 attl,.slice Ad ad.length acd] 39)).alloc (.cells #[.slice Bn bn.length bcn,.int .u16 (bt:Int),.int .u16 bcl',.int .u32 bttl,.slice Bd bd.length bcd] 39))=w2 at *;obtain⟨a0,a1,a2,a3,a4,_⟩:=cells5 c12;obtain⟨d0,d1,d2,d3,d4,_⟩:=cells5 c2;have hl1:=lt_block c12;have hl2:=lt_block c2
 have HP:Hid (ordP (RcV.pr ⟨An,an,acn,at',acl,attl,Ad,ad,acd⟩) (RcV.pr ⟨Bn,bn,bcn,bt,bcl',bttl,Bd,bd,bcd⟩)=if cmpN an bn=0 then(if at'=bt then Lib.compareBytes (canonD at' ad) (canonD bt bd)else if at' < bt then -1 else 1)else cmpN an bn):=hid (by
  unfold ordP RcV.pr;dsimp only;split
  ·by_cases e:at'=bt
   ·rw[if_pos e,if_pos (by omega)]
   ·rw[if_neg e,if_neg (by omega)];by_cases e2:at' < bt
    ·rw[if_pos e2,if_pos (by omega)]
    ·rw[if_neg e2,if_neg (by omega)]
  ·rfl)
 have hC:=hid (RCompare An Bn an bn acn bcn w2 HA.out.name HB.out.name HA.out.few HB.out.few);generalize cmpN an bn=c at *;clear c12 c2;go_wp2_with fail;refine hC.out.mono ?_;rintro e w3 ⟨hb3,rfl⟩;have b13:=b12.trans (hb3.mono b12.size);have hHA:=HA.out.below hb3;have hHB:=HB.out.below hb3;have HA3:=hid hHA;have HB3:=hid hHB;replace a1:=(bcl hb3 hl1).trans a1
 replace a4:=(bcl hb3 hl1).trans a4;replace d1:=(bcl hb3 hl2).trans d1;replace d4:=(bcl hb3 hl2).trans d4;have hl1':=Nat.lt_of_lt_of_le hl1 hb3.size;have hl2':=Nat.lt_of_lt_of_le hl2 hb3.size;clear HA HB hC a0 a2 a3 d0 d2 d3 hb3 b12 hHA hHB hl1 hl2;by_cases hc:c=0
 ·subst hc;rw[if_pos rfl]at HP;by_cases ht:at'=bt
  ·subst ht;rw[if_pos rfl]at HP;go_wp2_with fail;have HK1:=hid (fun W hW=>RCan15 at' HA3.out.ty Ad ad acd W (HA3.out.below hW).data HA3.out.len HA3.out.cap HA3.out.cap2 HA3.out.chk);have HK2:=hid (fun W hW=>RCan15 at' HB3.out.ty Bd bd bcd W (HB3.out.below hW).data HB3.out.len HB3.out.cap HB3.out.cap2 HB3.out.chk);generalize canonD (at':Int) ad=x at *;generalize canonD (at':Int) bd=y at *
   have hbs:=b13.size
   refine wp_region_mono mixed0 (by kernel_rfl) [.is (.pointer (some ⟨w.heap.size,1,none⟩)),.is (.int .u16 (at':Int)),.is (.pointer (some ⟨w.heap.size,4,none⟩)),.is (.slice Ad ad.length acd),.is (.string (strB x)),.is (.pointer (some ⟨w.heap.size+1,1,none⟩)),.is (.int .u16 (at':Int)),.is (.pointer (some ⟨w.heap.size+1,4,none⟩)),.is (.slice Bd bd.length bcd),.is (.string (strB y)),.is (.string (strB x)),.is (.string (strB y))] rfl ?_ ?_
   ·intro i o hio vals W hE haf;have e1:=(bcl (o:=1) hE hl1').trans a1;have e2:=(bcl (o:=4) hE hl1').trans a4;have e3:=(bcl (o:=1) hE hl2').trans d1;have e4:=(bcl (o:=4) hE hl2').trans d4;rcases i with _|_|_|_|_|_|_|_|_|_|_|_|i
    all_goals first
     |(exfalso;simp at hio;done)
     |(simp at hio;subst hio;simp[bindD,rdB,Region.binds,factAt]at haf;simp[opU,go_sem,haf,e1,e2,e3,e4,Ext.refl,factAt];done)
     |skip
    all_goals
     simp at hio;subst hio;simp[bindD,rdB,Region.binds,factAt]at haf
    ·simp[opU,go_sem,haf,e1,e2,e3,e4,Ext.refl,factAt];exact(HK1.out W hE).mono fun e W' h=>⟨h.2,h.1⟩
    ·simp[opU,go_sem,haf,e1,e2,e3,e4,Ext.refl,factAt];exact(HK2.out W hE).mono fun e W' h=>⟨h.2,h.1⟩
   ·intro vals W hE hF;simp[facts]at hF;simp[relAct,dstAt,Act.put,hF];clear hF;have hb5:=b13.trans (Below.mono hE hbs);rcases str3 x y with⟨hc,hl,hne⟩|⟨hc,hl,hne⟩|⟨hc,hl,hne⟩
    ·rw[hc]at HP;clear hc;go_wp2_with fail;go_ret;exact⟨hb5,ret_int HP.out.symm⟩
    ·rw[hc]at HP;clear hc;go_wp2_with fail;go_ret;exact⟨hb5,ret_int HP.out.symm⟩
    ·rw[hc]at HP;clear hc;go_wp2_with fail;go_ret;exact⟨hb5,ret_int HP.out.symm⟩
  ·rw[if_neg ht]at HP;have htI:¬(at':Int)=(bt:Int):=by omega
   by_cases hlt:at' < bt
   ·rw[if_pos hlt]at HP;have hltI:(at':Int) < (bt:Int):=by omega
    go_wp2_with fail;go_ret;exact⟨b13,ret_int HP.out.symm⟩
   ·rw[if_neg hlt]at HP;have hltI:¬(at':Int) < (bt:Int):=by omega
    go_wp2_with fail;go_ret;exact⟨b13,ret_int HP.out.symm⟩
 ·rw[if_neg hc]at HP;go_wp2_with fail;go_ret;exact⟨b13,ret_int HP.out.symm⟩
theorem own_set{w:World}{B:Nat}{e:TypeId}{size n c g:Nat}{xs:List Value}(h:w.ownsRow B e size (.slice (some ⟨g,0,none⟩) n c) n xs)(j:Nat)(u:Value):(w.setCell ⟨g,j,none⟩ u).ownsRow B e size (.slice (some ⟨g,0,none⟩) n c) n (xs.set j u):=by
 obtain⟨h0,h1⟩:=h;refine⟨by rw[List.length_set];exact h0, ?_⟩;rcases h1 with⟨h1,_⟩|⟨g',cap,cur,h1,hg,hh,hc1,hc2,hsz,htake⟩
 ·cases h1
 ·cases h1;right;refine⟨g,c,_,rfl,hg,heap_set hh,hc1,hc2, ?_, ?_⟩
  ·simpa using hsz
  ·rw[←htake];simp[List.take_set]
structure PG(x:PR):Prop where
 low:lower x.n=x.n
 small:Small x.n
 ty:∃m:Nat,x.t=(m:Int)∧goodT m
 chk:chk x.t x.d=true
 len:x.d.length≤100000
 can:x.c=canonD x.t x.d
def rblk(m:Nat)(v:Value)(k:Nat):Prop:=k=m∨v.ownBlock=some k
structure RZo(w:World)(B m:Nat)(S:Nat→Prop)(L:List PR):Prop where
 ex:∃Aa ca A c,∃rs:List RcB,w.heap[m]? =some (.cells #[.slice Aa 1 ca,.slice A rs.length c] 33 (0,0))∧w.ownsRow B 9 1 (.slice Aa 1 ca) 1 (([exL]:List Lab).map strV)∧RecsV w B (.slice A rs.length c) rs∧rs.map RcB.says=L.map PR.says∧S=rblk m (.slice A rs.length c)
 good:∀x∈L,PG x
 hm:B≤m
section
variable {w w':World} {B m:Nat} {S:Nat→Prop} {L:List PR}
theorem RZo.below(h:RZo w B m S L)(hb:Below w.heap.size w w'):RZo w' B m S L:=by
 obtain⟨Aa,ca,A,c,rs,h1,h2,h3,h4⟩:=h.ex;exact⟨⟨Aa,ca,A,c,rs,(hb.block _ (lt_block h1)).trans h1,own_below h2 hb,h3.below hb,h4⟩,h.good,h.hm⟩
theorem RZo.kept{S':Nat→Prop}(h:RZo w B m S L)(hk:Kept S' w w')(hZ:Zonal S' w)(hT:¬zT 33:=by unfold zT;decide):RZo w' B m S L:=by
 obtain⟨Aa,ca,A,c,rs,h1,h2,h3,h4⟩:=h.ex;exact⟨⟨Aa,ca,A,c,rs,cells_zonal h1 hk hZ hT,row_zonal h2 hk hZ zT_str,⟨row_zonal h3.row hk hZ zT_rec,fun r hr=>⟨row_zonal (h3.own r hr).1 hk hZ zT_str,row_zonal (h3.own r hr).2 hk hZ zT_u8⟩⟩,h4⟩,h.good,h.hm⟩
theorem RZo.far(h:RZo w B m S L){k:Nat}(hk:S k):k < w.heap.size∧B≤k∧∃cs T,w.heap[k]? =some (.cells cs T (0,0))∧farT T:=by
 obtain⟨Aa,ca,A,c,rs,h1,h2,h3,h4,rfl⟩:=h.ex;rcases hk with rfl|hk
 ·exact⟨lt_block h1,h.hm,_,_,h1,by unfold farT;decide⟩
 ·obtain⟨cs,g1,_⟩:=row_block h3.row hk;exact⟨lt_block g1,(h3.row.lt k hk).1,_,_,g1,by unfold farT;decide⟩
end
def FarS(S:Nat→Prop)(w:World):Prop:=∀k,S k→k < w.heap.size→∃cs T,w.heap[k]? =some (.cells cs T (0,0))∧farT T
theorem row_fars{w w':World}{B:Nat}{e:TypeId}{size:Nat}{v:Value}{n:Nat}{xs:List Value}{S:Nat→Prop}(h:w.ownsRow B e size v n xs)(hS:FarS S w)(he:∀T,farT T→e≠T)(hk:Kept S w w'):w'.ownsRow B e size v n xs:=by
 refine Kept.row h hk fun k hkb e1=> ?_;obtain⟨cs2,g1,_⟩:=row_block h hkb;obtain⟨cs,T,g2,hT⟩:=hS k e1 (lt_block g1);rw[g1]at g2;injection g2 with g2;injection g2 with _ g2;exact he T hT g2
theorem ZG.fars{w w':World}{B z bn bb:Nat}{ap:List Lab}{P:List Nq}{Q:List Sq}{N:Nat}(h:ZG w B z bn bb ap P Q N){S:Nat→Prop}(hS:FarS S w)(hk:Kept S w w'):ZG w' B z bn bb ap P Q N:=by
 have hc:∀{k:Nat} {cs:Array Value} {T:TypeId},w.heap[k]? =some (.cells cs T (0,0))→¬farT T→w'.heap[k]? =some (.cells cs T (0,0)):=fun{k cs T} h1 hT=>(hk.block _ (lt_block h1) (fun e=>by
  obtain⟨cs',T',g2,hT'⟩:=hS k e (lt_block h1);rw[h1]at g2;injection g2 with g2;injection g2 with _ g2;subst g2;exact hT hT')).trans h1
 have hm:∀{Pg:Program} {k:TypeId} {R:Value→Option (DataW Unit×List MemPlace)} {b n:Nat} {D:DataW Unit},w.ownsMap Pg k R b n D→¬S b:=fun{Pg k R b n D} h1 e=>by
  obtain⟨cs',T',g2,_⟩:=hS b e h1.lt;obtain⟨es,cl,hb,_⟩:=h1;rw[hb]at g2;cases g2
 have tz:¬farT 103:=fun h=>h.1 rfl;have ts:¬farT 119:=fun h=>h.2.1 rfl;have tn:¬farT 112:=fun h=>h.2.2.2.1 rfl;have hstr:∀T,farT T→9≠T:=fun T h=>Ne.symm h.2.2.2.2.1;have hdat:∀T,farT T→121≠T:=fun T h=>Ne.symm h.2.2.1;have hu8:∀T,farT T→5≠T:=fun T h=>Ne.symm h.2.2.2.2.2;obtain⟨D,hz,hE⟩:=h.zn;obtain⟨A,ca,g1,g2⟩:=hz.blk;obtain⟨E,g3,g4⟩:=hz.below
 refine⟨⟨D,⟨⟨A,ca,hc g1 tz,row_fars g2 hS hstr hk⟩,ownsMap_block hz.nodes (hk.block _ hz.nodes.lt (hm hz.nodes)),⟨E,ownsMap_block g3 (hk.block _ g3.lt (hm g3)),g4⟩,hz.ne,hz.h1,hz.h2,hz.h3⟩,hE⟩,fun p hp=> ?_,fun q hq=> ?_,h.dbs,h.ds,h.dv⟩
 ·obtain⟨D2,h3,h4⟩:=h.nd p hp;obtain⟨A',c',g5,g6⟩:=h3.node;exact⟨D2,⟨⟨A',c',hc g5 tn,row_fars g6 hS hstr hk⟩,ownsMap_block h3.sets (hk.block _ h3.sets.lt (hm h3.sets)),h3.h1⟩,h4⟩
 ·have h3:=h.sd q hq;exact⟨hc h3.set ts,row_fars h3.row hS hdat hk,fun d hd=>⟨row_fars (h3.dat d hd).1 hS hu8 hk,row_fars (h3.dat d hd).2 hS hu8 hk⟩,h3.h2⟩
theorem Zo.fars{w w':World}{B z:Nat}{S:Nat→Prop}{ap:List Lab}{F:Cont}{N T:Nat}(h:Zo w B z S ap F N T){S':Nat→Prop}(hS:FarS S' w)(hk:Kept S' w w'):Zo w' B z S ap F N T:=by
 obtain⟨bn,bb,P,Q,h1,h2⟩:=h.ex;exact⟨bn,bb,P,Q,h1.fars hS hk,h2⟩
theorem RZo.farS{w:World}{B m:Nat}{S:Nat→Prop}{L:List PR}(h:RZo w B m S L):FarS S w:=fun k hk _=>(h.far hk).2.2
end Nm
end Go.Proofs.YtmbdoacafhljkaaGreat
