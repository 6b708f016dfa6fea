/- Texts merged by a program: Gz3, ZPut, ZOrdM, Types2, Recs, RecsG, Seat, Seat2, RefW. -/
import Derived.Test.YtmbdoacafhljkaaGreatUh1
import Derived.Test.YtmbdoacafhljkaaGreatUh2
import Derived.Test.YtmbdoacafhljkaaGreatUh7
set_option linter.unusedSimpArgs false
set_option linter.unusedVariables false
set_option maxRecDepth 1000000
set_option maxHeartbeats 20000000
open Go.Proofs.Tryz
namespace Go.Proofs.YtmbdoacafhljkaaGreat
open Go.RowKit
namespace Nm
theorem total_snoc(Q:List Sq)(q:Sq):total (Q++[q])=total Q+q.ds.length:=by simp[total]
theorem cntP_snoc(ap:List Lab)(P:List Nq)(p:Nq):cntP ap (P++[p])=cnt (cntP ap P) p.n 1 (p.n.length - ap.length+1):=by
 funext m;simp[cntP,cnt]
theorem setsOf_snoc(Q:List Sq)(q:Sq)(n:List Lab):setsOf (Q++[q]) n=setsOf Q n++(if q.n=n then[q]else[]):=by
 unfold setsOf;rw[List.filter_append,List.filter_cons];by_cases h:q.n=n <;> simp[h]
theorem Zn.mono{w:World}{B z bn bb:Nat}{ap:List Lab}{c:Int}{D:DataW Unit}{f:Lab→Int}{N N':Nat}(h:Zn w B z bn bb ap c D f N)(hN:N≤N'):Zn w B z bn bb ap c D f N':=by
 obtain⟨E,g3,g4⟩:=h.below;exact⟨h.blk,h.nodes.mono hN,⟨E,g3.mono hN,g4⟩,h.ne,h.h1,h.h2,h.h3⟩
theorem NdG.mono{w:World}{B x bs:Nat}{n:List Lab}{N N':Nat}{D2:DataW Unit}(h:NdG w B x bs n N D2)(hN:N≤N'):NdG w B x bs n N' D2:=⟨h.node,h.sets.mono hN,h.h1⟩
section
variable {w w':World} {B z bn bb:Nat} {ap:List Lab} {P:List Nq} {Q:List Sq} {N N':Nat}
theorem uniq_of{α β:Type}(f:α→β){l:List α}(h:(l.map f).Nodup){a b:α}(ha:a∈l)(hb:b∈l)(e:f a=f b):a=b:=by
 induction l with
 |nil=>cases ha
 |cons q l ih=>
  rw[List.map_cons,List.nodup_cons]at h;rcases List.mem_cons.1 ha with e1|ha'
  ·rcases List.mem_cons.1 hb with e2|hb'
   ·rw[e1,e2]
   ·exact absurd (List.mem_map.2 ⟨b,hb',by rw[←e1];exact e.symm⟩) h.1
  ·rcases List.mem_cons.1 hb with e2|hb'
   ·exact absurd (List.mem_map.2 ⟨a,ha',by rw[←e2];exact e⟩) h.1
   ·exact ih h.2 ha' hb'
theorem dbs_ne{a b:Nat}{P:List Nq}(h:(a::b::P.map (·.bs)).Nodup){p r:Nq}(hp:p∈P)(hr:r∈P)(e:p.bs=r.bs):p=r:=by
 rw[List.nodup_cons,List.nodup_cons]at h;exact uniq_of _ h.2.2 hp hr e
theorem uniq_n{ap:List Lab}{P:List Nq}{Q:List Sq}(h:Wf ap P Q){p r:Nq}(hp:p∈P)(hr:r∈P)(e:p.n=r.n):p=r:=uniq_of _ h.kP hp hr e
theorem ZG.addS(h:ZG w B z bn bb ap P Q N)(hw:Wf ap P Q){p:Nq}(hp:p∈P){q2:Sq}(hn:q2.n=p.n){S:Nat→Prop}(hk:Kept S w w')(hS:∀k,S k→k=z∨k=p.bs)
 {D D2:DataW Unit} {c:Int} (hD:Ents D (P.map Nq.ent)) (hzn:Zn w' B z bn bb ap c D (cntP ap P) N) (hc:c=total Q+q2.ds.length) (hnd:NdG w' B p.x p.bs p.n N' D2) (hD2:Ents D2 ((setsOf Q p.n).map Sq.ent++[q2.ent])) (hN:N≤N')
 (hsd:SdG w' B q2.s q2.ttl q2.v q2.ds) (hs:w.heap.size≤q2.s) (hat:∀k,q2.v.ownBlock=some k→w.heap.size≤k):
 ZG w' B z bn bb ap P (Q++[q2]) N'∧(∀k,zblk z bn bb P (Q++[q2]) k→zblk z bn bb P Q k∨w.heap.size≤k):=by
 obtain⟨D0,h1,_⟩:=h.zn;obtain⟨A,ca,g1,_⟩:=h1.blk;obtain⟨D20,h20,_⟩:=h.nd p hp;have hZ:Zonal S w:=fun k e=>h.zonal k (by
  rcases hS k e with e|e
  ·exact .inl e
  ·exact .inr (.inr (.inr (.inl ⟨p,hp,e⟩))))
 have hcS:∀{g:Nat} {cs:Array Value} {T:TypeId} {fr:Nat×Nat},w.heap[g]? =some (.cells cs T fr)→T≠103→¬S g:=fun hg hT e=>by
  rcases hS _ e with e|e
  ·exact ne_cells hg g1 hT e
  ·exact ne_map h20.sets hg e.symm
 refine⟨⟨⟨D, ?_,hD⟩,fun r hr=> ?_,fun r hr=> ?_,h.dbs, ?_, ?_⟩, ?_⟩
 ·rw[total_snoc];have:((total Q+q2.ds.length:Nat):Int)=c:=by omega
  rw[this];exact hzn.mono hN
 ·by_cases e:r.n=p.n
  ·have:=uniq_n hw hr hp e;subst this;refine⟨D2,hnd, ?_⟩;rw[setsOf_snoc,if_pos hn,List.map_append];exact hD2
  ·obtain⟨D3,h3,h4⟩:=h.nd r hr;refine⟨D3,(h3.kept hk hZ (fun es=> ?_)).mono hN, ?_⟩
   ·rcases hS _ es with e1|e1
    ·exact ne_map h3.sets g1 e1
    ·exact e (by rw[dbs_ne h.dbs hr hp e1])
   ·rw[setsOf_snoc,if_neg (fun e1=>e (by rw[←e1,hn])),List.append_nil];exact h4
 ·rcases List.mem_append.1 hr with hr|hr
  ·have h3:=h.sd r hr;refine h3.kept hk hZ (hcS h3.set (by decide)) (fun b hb=> ?_);obtain⟨cs,e1,_⟩:=row_block h3.row hb;exact hcS e1 (by decide)
  ·rcases List.mem_cons.1 hr with rfl|hr
   ·exact hsd
   ·cases hr
 ·rw[List.map_append];refine List.nodup_append.2 ⟨h.ds,by simp,fun a ha b hb e=> ?_⟩;simp at hb;obtain⟨r,hr,rfl⟩:=List.mem_map.1 ha;have:=lt_block (h.sd r hr).set;omega
 ·refine List.pairwise_append.2 ⟨h.dv,by simp,fun a ha b hb k h1 h2=> ?_⟩;simp at hb;subst hb;have:=((h.sd a ha).row.lt k h1).2;have:=hat k h2;omega
 ·rintro k (e|e|e|e|⟨r,hr,e⟩)
  ·exact .inl (.inl e)
  ·exact .inl (.inr (.inl e))
  ·exact .inl (.inr (.inr (.inl e)))
  ·exact .inl (.inr (.inr (.inr (.inl e))))
  ·rcases List.mem_append.1 hr with hr|hr
   ·exact .inl (.inr (.inr (.inr (.inr ⟨r,hr,e⟩))))
   ·simp at hr;subst hr;rcases e with e|e
    ·exact .inr (by omega)
    ·exact .inr (hat k e.symm)
theorem ZG.addN(h:ZG w B z bn bb ap P Q N)(hw:Wf ap P Q){p2:Nq}{q2:Sq}(hn:q2.n=p2.n)(hfr:∀p∈P,p.n≠p2.n){S:Nat→Prop}(hk:Kept S w w')(hS:∀k,S k→k=z∨k=bn∨k=bb)
 {D:DataW Unit} {c:Int} (hD:Ents D (P.map Nq.ent++[p2.ent])) (hzn:Zn w' B z bn bb ap c D (cntP ap (P++[p2])) N') (hc:c=total Q+q2.ds.length) {N2:Nat} (hnd:NdG w' B p2.x p2.bs p2.n N2 (.map [q2.ent])) (hN:N≤N') (hN2:N2≤N')
 (hsd:SdG w' B q2.s q2.ttl q2.v q2.ds) (hs:w.heap.size≤q2.s) (hb:w.heap.size≤p2.bs) (hat:∀k,q2.v.ownBlock=some k→w.heap.size≤k):
 ZG w' B z bn bb ap (P++[p2]) (Q++[q2]) N'∧(∀k,zblk z bn bb (P++[p2]) (Q++[q2]) k→zblk z bn bb P Q k∨w.heap.size≤k):=by
 obtain⟨D0,h1,_⟩:=h.zn;obtain⟨A,ca,g1,_⟩:=h1.blk;obtain⟨E,g3,_⟩:=h1.below;have hnl:=h1.nodes.lt;have hbl:=g3.lt;have hZ:Zonal S w:=fun k e=>h.zonal k (by
  rcases hS k e with e|e|e
  ·exact .inl e
  ·exact .inr (.inl e)
  ·exact .inr (.inr (.inl e)))
 have hcS:∀{g:Nat} {cs:Array Value} {T:TypeId} {fr:Nat×Nat},w.heap[g]? =some (.cells cs T fr)→T≠103→¬S g:=fun hg hT e=>by
  rcases hS _ e with e|e|e
  ·exact ne_cells hg g1 hT e
  ·exact ne_map h1.nodes hg e.symm
  ·exact ne_map g3 hg e.symm
 have hnone:∀q∈Q,q.n≠p2.n:=fun q hq e=>by
  obtain⟨p,hp,e2⟩:=hw.own q hq;exact hfr p hp (e2.trans e)
 refine⟨⟨⟨D, ?_, ?_⟩,fun r hr=> ?_,fun r hr=> ?_, ?_, ?_, ?_⟩, ?_⟩
 ·rw[total_snoc];have:((total Q+q2.ds.length:Nat):Int)=c:=by omega
  rw[this];exact hzn
 ·rw[List.map_append];exact hD
 ·rcases List.mem_append.1 hr with hr|hr
  ·obtain⟨D3,h3,h4⟩:=h.nd r hr;refine⟨D3,(h3.kept hk hZ (fun es=> ?_)).mono hN, ?_⟩
   ·obtain⟨b1,b2⟩:=h.bs_ne hr;rcases hS _ es with e1|e1|e1
    ·exact ne_map h3.sets g1 e1
    ·exact b1 e1
    ·exact b2 e1
   ·rw[setsOf_snoc,if_neg (fun e1=>hfr r hr (by rw[←e1,hn])),List.append_nil];exact h4
  ·simp at hr;subst hr;refine⟨_,hnd.mono hN2, ?_⟩;rw[setsOf_snoc,if_pos hn];have:setsOf Q r.n=[]:=List.filter_eq_nil_iff.2 fun q hq e=>hnone q hq (by simpa using e);rw[this];exact⟨_,rfl,List.Perm.refl _⟩
 ·rcases List.mem_append.1 hr with hr|hr
  ·have h3:=h.sd r hr;refine h3.kept hk hZ (hcS h3.set (by decide)) (fun b hb=> ?_);obtain⟨cs,e1,_⟩:=row_block h3.row hb;exact hcS e1 (by decide)
  ·simp at hr;subst hr;exact hsd
 ·have hd:=h.dbs;rw[List.map_append,←List.cons_append,←List.cons_append];refine List.nodup_append.2 ⟨hd,by simp,fun a ha b hb2 e=> ?_⟩;simp at hb2;rcases List.mem_cons.1 ha with rfl|ha
  ·omega
  ·rcases List.mem_cons.1 ha with rfl|ha
   ·omega
   ·obtain⟨r,hr,rfl⟩:=List.mem_map.1 ha;obtain⟨D3,h3,_⟩:=h.nd r hr;have:=h3.sets.lt;omega
 ·rw[List.map_append];refine List.nodup_append.2 ⟨h.ds,by simp,fun a ha b hb e=> ?_⟩;simp at hb;obtain⟨r,hr,rfl⟩:=List.mem_map.1 ha;have:=lt_block (h.sd r hr).set;omega
 ·refine List.pairwise_append.2 ⟨h.dv,by simp,fun a ha b hb k h1 h2=> ?_⟩;simp at hb;subst hb;have:=((h.sd a ha).row.lt k h1).2;have:=hat k h2;omega
 ·rintro k (e|e|e|⟨r,hr,e⟩|⟨r,hr,e⟩)
  ·exact .inl (.inl e)
  ·exact .inl (.inr (.inl e))
  ·exact .inl (.inr (.inr (.inl e)))
  ·rcases List.mem_append.1 hr with hr|hr
   ·exact .inl (.inr (.inr (.inr (.inl ⟨r,hr,e⟩))))
   ·simp at hr;subst hr;exact .inr (by omega)
  ·rcases List.mem_append.1 hr with hr|hr
   ·exact .inl (.inr (.inr (.inr (.inr ⟨r,hr,e⟩))))
   ·simp at hr;subst hr;rcases e with e|e
    ·exact .inr (by omega)
    ·exact .inr (hat k e.symm)
end
end Nm
namespace Nm
theorem find_ex{ds:List (Blob×Blob)}(hs:SortD ds)(c:Lab):∃p,FindAt ds c p:=by
 induction ds with
 |nil=>exact⟨0,Nat.le_refl _,fun j h=>absurd h (by simp),fun j h=>absurd h (by simp)⟩
 |cons d ds ih=>
  obtain⟨g1,g2⟩:=List.pairwise_cons.1 hs;by_cases hd:Lib.compareBytes d.2.l c < 0
  ·obtain⟨p,h1,h2,h3⟩:=ih g2;refine⟨p+1,by simpa using h1,fun j h hj=> ?_,fun j h hj=> ?_⟩
   ·cases j with
    |zero=>exact hd
    |succ j=>exact h2 j (by simpa using h) (by omega)
   ·cases j with
    |zero=>omega
    |succ j=>exact h3 j (by simpa using h) (by omega)
  ·refine⟨0,Nat.zero_le _,fun j h hj=>by omega,fun j h hj=> ?_⟩;cases j with
   |zero=>exact hd
   |succ j=>
    intro hlt;exact hd (cb_trans _ _ _ (g1 _ (List.getElem_mem (by simpa using h))) hlt)
theorem hit_iff{ds:List (Blob×Blob)}{c:Lab}{p:Nat}(hs:SortD ds)(hp:FindAt ds c p):hitB ds c p=true↔∃e∈ds,e.2.l=c:=by
 obtain⟨h1,h2,h3⟩:=hp;unfold hitB;rw[Bool.and_eq_true,decide_eq_true_iff,decide_eq_true_iff];constructor
 ·rintro⟨g1,g2⟩;have e:ds.getD p default=ds[p]:=by simp[List.getD,g1]
  rw[e]at g2;exact⟨ds[p],List.getElem_mem g1,(cb_zero _ _).1 g2⟩
 ·rintro⟨e,he,rfl⟩;obtain⟨j,hj,rfl⟩:=List.mem_iff_getElem.1 he;have hz:Lib.compareBytes ds[j].2.l ds[j].2.l=0:=(cb_zero _ _).2 rfl;have hpj:p≤j:=by
   rcases Nat.lt_or_ge j p with g|g
   ·have:=h2 j hj g;omega
   ·exact g
  have hjp:p=j:=by
   rcases Nat.lt_or_ge p j with g|g
   ·have g1:=h3 p (by omega) (Nat.le_refl _);have:=List.pairwise_iff_getElem.1 hs p j (by omega) hj g;exact absurd this g1
   ·omega
  subst hjp;refine⟨hj, ?_⟩;have e:ds.getD p default=ds[p]:=by simp[List.getD,hj]
  rw[e];exact hz
theorem SortD.ins{ds:List (Blob×Blob)}{c:Lab}{p:Nat}(hs:SortD ds)(hp:FindAt ds c p)(hn:∀e∈ds,e.2.l≠c){b1 b2:Blob}(hb:b2.l=c):SortD (insD ds p (b1,b2)):=by
 obtain⟨h1,h2,h3⟩:=hp;unfold insD SortD;have htk:∀a∈ds.take p,Lib.compareBytes a.2.l c < 0:=fun a ha=>by
  obtain⟨j,hj,rfl⟩:=List.mem_iff_getElem.1 ha;rw[List.getElem_take];have hjl:j < p:=by rw[List.length_take]at hj;omega
  exact h2 j (by omega) hjl
 have hdr:∀a∈ds.drop p,Lib.compareBytes c a.2.l < 0:=fun a ha=>by
  have hne:=hn a (List.mem_of_mem_drop ha);obtain⟨j,hj,rfl⟩:=List.mem_iff_getElem.1 ha;rw[List.getElem_drop]at hne ⊢;have hj2:p+j < ds.length:=by rw[List.length_drop]at hj;omega
  have h9:=h3 (p+j) hj2 (by omega);have hz:Lib.compareBytes ds[p+j].2.l c≠0:=fun e=>hne ((cb_zero _ _).1 e);rw[cb_flip];generalize Lib.compareBytes ds[p+j].2.l c=z at *;omega
 rw[List.append_assoc];refine List.pairwise_append.2 ⟨hs.sublist (List.take_sublist _ _),List.pairwise_cons.2 ⟨fun a ha=> ?_,hs.sublist (List.drop_sublist _ _)⟩,fun a ha b hb2=> ?_⟩
 ·show Lib.compareBytes b2.l a.2.l < 0;rw[hb];exact hdr a ha
 ·rcases List.mem_cons.1 hb2 with rfl|hb2
  ·show Lib.compareBytes a.2.l b2.l < 0;rw[hb];exact htk a ha
  ·exact cb_trans _ _ _ (htk a ha) (hdr b hb2)
def PutR(n:List Lab)(t ttl:Int)(d c:Lab)(P:List Nq)(Q:List Sq)(P':List Nq)(Q':List Sq)(r:Bool):Prop:=
 (∃q∈Q,q.n=lower n∧q.t=t∧(∃e∈q.ds,e.2.l=c)∧q.ttl=ttl∧P'=P∧Q'=Q∧r=false)∨
 (∃q∈Q,q.n=lower n∧q.t=t∧(∃e∈q.ds,e.2.l=c)∧q.ttl≠ttl∧P'=P∧Q'=updS Q q.s {q with ttl:=ttl}∧r=true)∨
 (∃q∈Q,q.n=lower n∧q.t=t∧(∀e∈q.ds,e.2.l≠c)∧P'=P∧r=true∧∃v b1 b2 p,b1.l=d∧b2.l=c∧FindAt q.ds c p∧Q'=updS Q q.s {q with ttl:=ttl,v:=v,ds:=insD q.ds p (b1,b2)})∨
 ((∀q∈Q,¬(q.n=lower n∧q.t=t))∧(∃p∈P,p.n=lower n)∧P'=P∧r=true∧∃s v b1 b2,b1.l=d∧b2.l=c∧Q'=Q++[⟨lower n,t,ttl,s,v,[(b1,b2)]⟩])∨
 ((∀p∈P,p.n≠lower n)∧r=true∧∃x bs s v b1 b2,b1.l=d∧b2.l=c∧P'=P++[⟨lower n,x,bs⟩]∧Q'=Q++[⟨lower n,t,ttl,s,v,[(b1,b2)]⟩])
theorem NdG.to_n{w:World}{B x bs:Nat}{m n:List Lab}{N2:Nat}{D2:DataW Unit}(h:NdG w B x bs m N2 D2)(hl:n.length=m.length)(hn:lower n=lower m):NdG w B x bs n N2 D2:=by
 obtain⟨A,c,g1,g2⟩:=h.node;exact⟨⟨A,c,by rw[hl];exact g1,by rw[hl,hn];exact g2⟩,h.sets,h.h1⟩
theorem len_total{Q:List Sq}{q:Sq}(h:q∈Q):q.ds.length≤total Q:=by
 induction Q with
 |nil=>cases h
 |cons r Q ih=>
  have e1:total (r::Q)=r.ds.length+total Q:=by simp[total]
  rcases List.mem_cons.1 h with rfl|h
  ·omega
  ·have:=ih h;omega
theorem cntP_bound(ap:List Lab){P:List Nq}(h:∀p∈P,p.n.length≤1000)(m:Lab):0≤cntP ap P m∧cntP ap P m≤1001 *P.length:=by
 induction P with
 |nil=>exact⟨Int.le_refl _,by simp[cntP]⟩
 |cons p P ih=>
  have e:cntP ap (p::P) m=occ p.n (p.n.length - ap.length+1) m+cntP ap P m:=by simp[cntP]
  have h1:=ih (fun q hq=>h q (by simp[hq]));have h2:=occ_le p.n (p.n.length - ap.length+1) m;have h3:=h p (by simp);rw[e,List.length_cons];omega
theorem ZPut(w:World)(B z bn bb:Nat)(ap n:List Lab)(P:List Nq)(Q:List Sq)(N:Nat)(h:ZG w B z bn bb ap P Q N)(hw:Wf ap P Q)(An:Option Addr)(cn:Nat)(Ad:Option Addr)(d:Lab)(cd:Nat)(t ttl:Int)(hAn:Cs w An (n.map strV))(hAd:w.ownsRow 0 5 1 (.slice Ad d.length cd) d.length (d.map byteV))(c:Lab)(hr:RecG n ap t d c cn cd)
 (hap:Small ap) (hap1:1≤ap.length) (hapl:lower ap=ap) (hN:N≤2000000000000) (ht:total Q≤900) (hPl:P.length≤900):
 Calls prog 50 #[.pointer (some ⟨z,0,none⟩),.agg #[.slice An n.length cn,.int .u16 t,.int .u16 1,.int .u32 ttl,.slice Ad d.length cd]] w fun e w'=>∃P' Q' N' r,e=.returned (.tuple #[.bool r,.int .i64 0])∧ZG w' B z bn bb ap P' Q' N'∧N'≤N+2000∧
  Kept (zblk z bn bb P Q) w w'∧(∀k,zblk z bn bb P' Q' k→zblk z bn bb P Q k∨w.heap.size≤k)∧PutR n t ttl d c P Q P' Q' r:=by
 have hln:lower n=lower (lower n):=(lower_idem n).symm;have hcd:=hr;by_cases hq:∃q∈Q,q.n=lower n∧q.t=t
 ·obtain⟨q,hq,hqn,hqt⟩:=hq;obtain⟨p,hp,hpn⟩:=hw.own q hq;obtain⟨D,D2,hF,hD,hD2⟩:=h.foc hw hp hq hpn (n:=n) (by rw[hpn,hqn]);subst hqt;obtain⟨k,hk⟩:=find_ex (hw.srt q hq) c;have hit:=hit_iff (hw.srt q hq) hk;have hqd:=h.sd q hq;have hql:=len_total hq;have hSq:∀k,(k=z∨k=q.s∨some k=q.v.ownBlock)→zblk z bn bb P Q k:=by
   rintro k (e|e|e)
   ·exact .inl e
   ·exact .inr (.inr (.inr (.inr ⟨q,hq,.inl e⟩)))
   ·exact .inr (.inr (.inr (.inr ⟨q,hq,.inr e⟩)))
  by_cases hh:hitB q.ds c k=true
  ·by_cases he:q.ttl=ttl
   ·refine(GPutSame w B z bn bb p.x p.bs q.s ap n q.t q.ttl q.v q.ds _ D D2 _ N N hF An cn Ad d cd ttl hAn hAd c hr hap k hk (by omega) hh he).mono ?_;rintro e w' ⟨rfl,hb⟩;exact⟨P,Q,N,false,rfl,h.ext hb,by omega,(Kept.of_ext hb).mono (fun _ _ h=>h.elim),fun k hk=>.inl hk,.inl ⟨q,hq,hqn,rfl,hit.1 hh,he,rfl,rfl,rfl⟩⟩
   ·refine(GPutTtl w B z bn bb p.x p.bs q.s ap n q.t q.ttl q.v q.ds _ D D2 _ N N hF An cn Ad d cd ttl hAn hAd c hr hap k hk (by omega) hh he).mono ?_;rintro e w' ⟨rfl,hk1,hs1⟩;have hZ:Zonal (fun k=>k=q.s) w:=Zonal.cells hqd.set (.inr (.inl rfl));obtain⟨A,ca,g1,_⟩:=hF.zn.blk;obtain⟨E,g3,_⟩:=hF.zn.below
    have hzn:=hF.zn.kept hk1 hZ (ne_cells g1 hqd.set (by decide)) (ne_map hF.zn.nodes hqd.set) (ne_map g3 hqd.set);have hu:=h.upd (w':=w') hq (q2:={q with ttl:=ttl}) rfl rfl rfl hk1 (fun k e=>.inr (.inl e)) hD hzn (by show _=((total Q:Nat):Int)+(q.ds.length:Int);omega)
     ⟨hs1,Kept.row hqd.row hk1 (fun b hb e=>by
      obtain⟨cs,e1,_⟩:=row_block hqd.row hb;exact ne_cells e1 hqd.set (by decide) e),hqd.dat.zonal hk1 hZ,hqd.h2⟩ (fun k e=>.inl e.symm)
    exact⟨P,_,N,true,rfl,hu.1,by omega,hk1.mono (fun k _ e=>hSq k (.inr (.inl e))),hu.2,.inr (.inl ⟨q,hq,hqn,rfl,hit.1 hh,he,rfl,rfl,rfl⟩)⟩
  ·have hm:∀e∈q.ds,e.2.l≠c:=fun e he e2=>hh (hit.2 ⟨e,he,e2⟩);have hh':hitB q.ds c k=false:=by simpa using hh
   refine(GPutMore w B z bn bb p.x p.bs q.s ap n q.t q.ttl q.v q.ds _ D D2 _ N N hF An cn Ad d cd ttl hAn hAd c hr hap k hk hh' (by omega) (by omega) (by omega)).mono ?_;rintro e w' ⟨rfl,v2,b1,b2,hb1,hb2,hM⟩;have hu:=h.upd (w':=w') hq (q2:={q with ttl:=ttl,v:=v2,ds:=insD q.ds k (b1,b2)}) rfl rfl rfl hM.kept (fun k e=>e) hD hM.zn (by
    show((total Q:Nat):Int)+1+(q.ds.length:Int)=((total Q:Nat):Int)+((insD q.ds k (b1,b2)).length:Int)
    rw[insD_len _ _ _ hk.1];omega)
    ⟨hM.set,hM.row,hM.dat,hqd.h2⟩ hM.at_
   exact⟨P,_,N,true,rfl,hu.1,by omega,hM.kept.mono (fun k _ e=>hSq k e),hu.2,.inr (.inr (.inl ⟨q,hq,hqn,rfl,hm,rfl,rfl,v2,b1,b2,k,hb1,hb2,hk,rfl⟩))⟩
 ·have hq':∀q∈Q,¬(q.n=lower n∧q.t=t):=fun q hq1 h2=>hq ⟨q,hq1,h2⟩;obtain⟨D,hz,hD⟩:=h.zn;by_cases hp:∃p∈P,p.n=lower n
  ·obtain⟨p,hp,hpn⟩:=hp;obtain⟨D2,hnd,hD2⟩:=h.nd p hp;have hn1:n.length=p.n.length:=by rw[hpn,lower_len]
   have hn2:lower n=lower p.n:=by rw[hpn,lower_idem]
   refine(GPutSet w B z bn bb ap n t _ (by omega) (by omega) D _ N hz p.x p.bs N D2 (hnd.to_n hn1 hn2) (h.bs_ne hp) (hD.at_mem hw.apartP (key_lit _) (List.mem_map.2 ⟨p,hp,by unfold Nq.ent;rw[hpn,zkey_low];rfl⟩) _)
    (hD2.at_not (fun e he=>by
      obtain⟨q,hq1,rfl⟩:=List.mem_map.1 he;obtain⟨hq1,hq2⟩:=mem_setsOf.1 hq1;intro e3;have e3:Lit.int .u16 q.t=Lit.int .u16 t:=e3;injection e3 with _ e3;exact hq' q hq1 ⟨by rw[hq2,hpn],e3⟩) _) (by omega) An cn Ad d cd ttl hAn hAd c hr hap).mono ?_
   rintro e w' ⟨rfl,s,v2,b1,b2,hb1,hb2,hM⟩;have hnv:∀k,v2.ownBlock=some k→w.heap.size≤k:=fun k e=>by
    rcases hM.more.at_ k e with e|e
    ·cases e
    ·exact e
   obtain⟨D0,hz0,_⟩:=h.zn;have hu:=h.addS (w':=w') (N':=N+1) hw hp (q2:=⟨lower n,t,ttl,s,v2,[(b1,b2)]⟩) hpn.symm hM.more.kept (fun k e=>e) hD hM.more.zn (by
    show((total Q:Nat):Int)+1=((total Q:Nat):Int)+(([(b1,b2)]:List (Blob×Blob)).length:Int)
    rfl) (hM.nd.to_n hn1.symm hn2.symm) (hD2.put (fun e he=>by
    obtain⟨q,hq1,rfl⟩:=List.mem_map.1 he;obtain⟨hq1,hq2⟩:=mem_setsOf.1 hq1;intro e3;have e3:Lit.int .u16 q.t=Lit.int .u16 t:=e3;injection e3 with _ e3;exact hq' q hq1 ⟨by rw[hq2,hpn],e3⟩) _) (by omega) ⟨hM.more.set,hM.more.row,hM.more.dat,Nat.le_trans (Nat.le_trans hz0.h1 (Nat.le_of_lt (h.lt (.inl rfl)).1)) hM.hs⟩ hM.hs hnv
   refine⟨P,_,N+1,true,rfl,hu.1,by omega,hM.more.kept.mono (fun k _ e=> ?_),hu.2,.inr (.inr (.inr (.inl ⟨hq',⟨p,hp,hpn⟩,rfl,rfl,s,v2,b1,b2,hb1,hb2,rfl⟩)))⟩;rcases e with e|e
   ·exact .inl e
   ·exact .inr (.inr (.inr (.inl ⟨p,hp,e⟩)))
  ·have hp':∀p∈P,p.n≠lower n:=fun p hp1 h2=>hp ⟨p,hp1,h2⟩;have hkey:∀e∈P.map Nq.ent,e.1≠Lit.string (zkey n):=fun e he=>by
    obtain⟨p,hp1,rfl⟩:=List.mem_map.1 he;intro e3;have e3:Lit.string (zkey p.n)=Lit.string (zkey n):=e3;injection e3 with e3;have:=zkey_inj (hw.ok p hp1).ok hr.name e3;rw[(hw.ok p hp1).low]at this;exact hp' p hp1 this
   refine(GPutNew w B z bn bb ap n t _ (by omega) (by omega) D _ N hz (hD.at_not hkey _) An cn Ad d cd ttl hAn hAd c hr hap hap1 (by omega) (fun m=>by
    have:=cntP_bound ap (fun p hp=>(hw.ok p hp).small.1) m;omega)).mono ?_
   rintro e w' ⟨rfl,x,bs,s,v2,b1,b2,N',hb1,hb2,hN',hM⟩;have hnv:∀k,v2.ownBlock=some k→w.heap.size≤k:=fun k e=>by
    rcases hM.more.at_ k e with e|e
    ·cases e
    ·exact e
   have hcn:cnt (cntP ap P) (lower n) 1 (n.length - ap.length+1)=cntP ap (P++[⟨lower n,x,bs⟩]):=by
    rw[cntP_snoc];show _=cnt (cntP ap P) (lower n) 1 ((lower n).length - ap.length+1);rw[lower_len]
   have hzn:=hM.more.zn;rw[hcn]at hzn;have hDp:=hD.put hkey (.lit (.int .i64 (x:Int)));have hent:Nq.ent ⟨lower n,x,bs⟩=(.string (zkey n),.lit (.int .i64 (x:Int))):=by unfold Nq.ent;rw[zkey_low]
   rw[←hent]at hDp;have hu:=h.addN (w':=w') (N':=max (N+1) N') hw (p2:=⟨lower n,x,bs⟩) (q2:=⟨lower n,t,ttl,s,v2,[(b1,b2)]⟩) rfl hp' hM.more.kept (fun k e=>e) hDp (hzn.mono (by omega)) (by
    show((total Q:Nat):Int)+1=((total Q:Nat):Int)+(([(b1,b2)]:List (Blob×Blob)).length:Int)
    rfl) (N2:=1) (hM.nd.to_n (lower_len n) (lower_idem n)) (by omega) (by omega) ⟨hM.more.set,hM.more.row,hM.more.dat,Nat.le_trans (Nat.le_trans hz.h1 (Nat.le_of_lt (h.lt (.inl rfl)).1)) hM.hs⟩ hM.hs hM.hb hnv
   refine⟨_,_,max (N+1) N',true,rfl,hu.1,by omega,hM.more.kept.mono (fun k _ e=> ?_),hu.2,.inr (.inr (.inr (.inr ⟨hp',rfl,x,bs,s,v2,b1,b2,hb1,hb2,rfl,rfl⟩)))⟩;rcases e with e|e|e
   ·exact .inl e
   ·exact .inr (.inl e)
   ·exact .inr (.inr (.inl e))
def keysQ(Q:List Sq):List (List Lab×Int×Lab):=Q.flatMap fun q=>q.ds.map fun d=>(q.n,q.t,d.2.l)
theorem keysQ_len(Q:List Sq):(keysQ Q).length=total Q:=by
 induction Q with
 |nil=>rfl
 |cons q Q ih=>
  have e1:total (q::Q)=q.ds.length+total Q:=by simp[total]
  have e2:keysQ (q::Q)=(q.ds.map fun d=>(q.n,q.t,d.2.l))++keysQ Q:=rfl;rw[e1,e2,List.length_append,ih,List.length_map]
theorem mem_keysQ{Q:List Sq}{k:List Lab×Int×Lab}:k∈keysQ Q↔∃q∈Q,∃d∈q.ds,(q.n,q.t,d.2.l)=k:=by
 unfold keysQ;rw[List.mem_flatMap];constructor
 ·rintro⟨q,hq,hk⟩;obtain⟨d,hd,e⟩:=List.mem_map.1 hk;exact⟨q,hq,d,hd,e⟩
 ·rintro⟨q,hq,d,hd,e⟩;exact⟨q,hq,List.mem_map.2 ⟨d,hd,e⟩⟩
theorem SortD.nodup{ds:List (Blob×Blob)}(h:SortD ds):(ds.map (·.2.l)).Nodup:=by
 unfold SortD at h;show(ds.map (·.2.l)).Pairwise (· ≠·);rw[List.pairwise_map];refine h.imp fun{a b} hlt e=> ?_;rw[e,(cb_zero _ _).2 rfl]at hlt;omega
theorem keysQ_nodup{Q:List Sq}(h1:(Q.map fun q=>(q.n,q.t)).Nodup)(h2:∀q∈Q,SortD q.ds):(keysQ Q).Nodup:=by
 induction Q with
 |nil=>exact List.nodup_nil
 |cons q Q ih=>
  rw[List.map_cons,List.nodup_cons]at h1;have e2:keysQ (q::Q)=(q.ds.map fun d=>(q.n,q.t,d.2.l))++keysQ Q:=rfl;rw[e2,List.nodup_append];refine⟨?_,ih h1.2 (fun r hr=>h2 r (by simp[hr])),fun a ha b hb e=> ?_⟩
  ·have:=(h2 q (by simp)).nodup;have h3:(q.ds.map (·.2.l)).Pairwise (· ≠·):=this;show(q.ds.map fun d=>(q.n,q.t,d.2.l)).Pairwise (· ≠·);rw[List.pairwise_map]at h3 ⊢;exact h3.imp fun{a b} hne e=>hne (by injection e with _ e;injection e)
  ·obtain⟨d,hd,rfl⟩:=List.mem_map.1 ha;subst e;obtain⟨r,hr,d2,hd2,e⟩:=mem_keysQ.1 hb;injection e with e1 e;injection e with e2 _;exact h1.1 (List.mem_map.2 ⟨r,hr,by rw[e1,e2]⟩)
theorem Wf.keys_nodup{ap:List Lab}{P:List Nq}{Q:List Sq}(h:Wf ap P Q):(keysQ Q).Nodup:=keysQ_nodup h.kQ h.srt
theorem Wf.total_le{ap:List Lab}{P:List Nq}{Q:List Sq}(h:Wf ap P Q){l:List (List Lab×Int×Lab)}(hl:∀k∈keysQ Q,k∈l):total Q≤l.length:=by
 rw[←keysQ_len];exact List.Nodup.length_le_of_subset h.keys_nodup hl
theorem Wf.names{ap:List Lab}{P:List Nq}{Q:List Sq}(h:Wf ap P Q)(n:List Lab):n∈P.map (·.n)↔∃k∈keysQ Q,k.1=n:=by
 constructor
 ·intro hn;obtain⟨p,hp,rfl⟩:=List.mem_map.1 hn;obtain⟨q,hq,e⟩:=h.has p hp;have:=h.full q hq;obtain⟨d,hd⟩:=List.exists_mem_of_ne_nil _ this;exact⟨_,mem_keysQ.2 ⟨q,hq,d,hd,rfl⟩,e⟩
 ·rintro⟨k,hk,rfl⟩;obtain⟨q,hq,d,hd,rfl⟩:=mem_keysQ.1 hk;obtain⟨p,hp,e⟩:=h.own q hq;exact List.mem_map.2 ⟨p,hp,e⟩
theorem Wf.len_le{ap:List Lab}{P:List Nq}{Q:List Sq}(h:Wf ap P Q):P.length≤total Q:=by
 have h1:P.length=(P.map (·.n)).length:=by simp
 rw[h1,←keysQ_len,←List.length_map (f:=fun k:List Lab×Int×Lab=>k.1)];refine List.Nodup.length_le_of_subset h.kP fun n hn=> ?_;obtain⟨k,hk,e⟩:=(h.names n).1 hn;exact List.mem_map.2 ⟨k,hk,e⟩
theorem mem_insD{ds:List (Blob×Blob)}{p:Nat}{d e:Blob×Blob}:e∈insD ds p d↔e=d∨e∈ds:=by
 unfold insD;constructor
 ·intro h;rcases List.mem_append.1 h with h|h
  ·rcases List.mem_append.1 h with h|h
   ·exact .inr (List.mem_of_mem_take h)
   ·exact .inl (by simpa using h)
  ·exact .inr (List.mem_of_mem_drop h)
 ·rintro(rfl|h)
  ·simp
  ·rw[←List.take_append_drop p ds]at h;rcases List.mem_append.1 h with h|h <;> simp[h]
theorem map_updS{α:Type}(f:Sq→α){Q:List Sq}(h:(Q.map (·.s)).Nodup){q q2:Sq}(hq:q∈Q)(hf:f q2=f q):(updS Q q.s q2).map f=Q.map f:=by
 unfold updS;rw[List.map_map];refine List.map_congr_left fun x hx=> ?_;show f (if x.s=q.s then q2 else x)=f x;split
 ·rename_i e;rw[uniq_s h hx hq e,hf]
 ·rfl
theorem mem_updS2{Q:List Sq}(h:(Q.map (·.s)).Nodup){q q2:Sq}(hq:q∈Q)(r:Sq):r∈updS Q q.s q2↔r=q2∨(r∈Q∧r≠q):=by
 constructor
 ·intro hr;rcases mem_updS hr with e|⟨e,hne⟩
  ·exact .inl e
  ·exact .inr ⟨e,fun e2=>hne (by rw[e2])⟩
 ·rintro(rfl|⟨hr,hne⟩)
  ·exact List.mem_map.2 ⟨q,hq,by simp⟩
  ·exact List.mem_map.2 ⟨r,hr,by rw[if_neg (fun e=>hne (uniq_s h hr hq e))]⟩
theorem Wf.upd{ap:List Lab}{P:List Nq}{Q:List Sq}(h:Wf ap P Q)(hs:(Q.map (·.s)).Nodup){q q2:Sq}(hq:q∈Q)(hn:q2.n=q.n)(ht:q2.t=q.t)(hf:q2.ds≠[])(ho:SortD q2.ds):Wf ap P (updS Q q.s q2):=by
 refine⟨h.ok,h.kP, ?_, ?_, ?_, ?_, ?_, ?_⟩
 ·rw[map_updS (fun q=>(q.n,q.t)) hs hq (by rw[hn,ht])];exact h.kQ
 ·intro r hr;rcases mem_updS hr with rfl|⟨hr,_⟩
  ·rw[ht];exact h.wt q hq
  ·exact h.wt r hr
 ·intro r hr;rcases mem_updS hr with rfl|⟨hr,_⟩
  ·rw[hn];exact h.own q hq
  ·exact h.own r hr
 ·intro p hp;obtain⟨r,hr,e⟩:=h.has p hp;by_cases hrq:r=q
  ·exact⟨q2,(mem_updS2 hs hq q2).2 (.inl rfl),by rw[hn,←hrq,e]⟩
  ·exact⟨r,(mem_updS2 hs hq r).2 (.inr ⟨hr,hrq⟩),e⟩
 ·intro r hr;rcases mem_updS hr with rfl|⟨hr,_⟩
  ·exact hf
  ·exact h.full r hr
 ·intro r hr;rcases mem_updS hr with rfl|⟨hr,_⟩
  ·exact ho
  ·exact h.srt r hr
theorem SortD.one(d:Blob×Blob):SortD [d]:=by unfold SortD;simp
theorem PutR.wf{ap n:List Lab}{t ttl:Int}{d c:Lab}{P P':List Nq}{Q Q':List Sq}{r:Bool}(hp:PutR n t ttl d c P Q P' Q' r)(h:Wf ap P Q)(hs:(Q.map (·.s)).Nodup)(h1:Small n)(h2:nameE n=0)(h3:within n ap=true)(h4:(Lit.int .u16 t).wf=true)(h5:InZ ap (lower n)):Wf ap P' Q':=by
 rcases hp with⟨q,hq,hqn,hqt,hit,e1,rfl,rfl,rfl⟩|⟨q,hq,hqn,hqt,hit,e1,rfl,rfl,rfl⟩|⟨q,hq,hqn,hqt,hno,rfl,rfl,v,b1,b2,p,e1,e2,hf,rfl⟩|⟨hno,hpe,rfl,rfl,s,v,b1,b2,e1,e2,rfl⟩|⟨hno,rfl,x,bs,s,v,b1,b2,e1,e2,rfl,rfl⟩
 ·exact h
 ·exact h.upd hs hq rfl rfl (h.full q hq) (h.srt q hq)
 ·refine h.upd hs hq rfl rfl (fun e=> ?_) ((h.srt q hq).ins hf hno e2);have:=insD_len q.ds p (b1,b2) hf.1;rw[show insD q.ds p (b1,b2)=[]from e]at this;simp at this
 ·refine⟨h.ok,h.kP, ?_, ?_, ?_, ?_, ?_, ?_⟩
  ·rw[List.map_append,List.nodup_append];refine⟨h.kQ,by simp,fun a ha b hb e=> ?_⟩;simp at hb;obtain⟨q,hq,rfl⟩:=List.mem_map.1 ha;rw[hb]at e;injection e with e3 e4;exact hno q hq ⟨e3,e4⟩
  ·intro q hq;rcases List.mem_append.1 hq with hq|hq
   ·exact h.wt q hq
   ·simp at hq;subst hq;exact h4
  ·intro q hq;rcases List.mem_append.1 hq with hq|hq
   ·exact h.own q hq
   ·simp at hq;subst hq;exact hpe
  ·intro p hp;obtain⟨q,hq,e⟩:=h.has p hp;exact⟨q,List.mem_append.2 (.inl hq),e⟩
  ·intro q hq;rcases List.mem_append.1 hq with hq|hq
   ·exact h.full q hq
   ·simp at hq;subst hq;simp
  ·intro q hq;rcases List.mem_append.1 hq with hq|hq
   ·exact h.srt q hq
   ·simp at hq;subst hq;exact SortD.one _
 ·refine⟨?_, ?_, ?_, ?_, ?_, ?_, ?_, ?_⟩
  ·intro p hp;rcases List.mem_append.1 hp with hp|hp
   ·exact h.ok p hp
   ·simp at hp;subst hp;exact h5
  ·rw[List.map_append,List.nodup_append];refine⟨h.kP,by simp,fun a ha b hb e=> ?_⟩;simp at hb;obtain⟨p,hp,rfl⟩:=List.mem_map.1 ha;exact hno p hp (by rw[e,hb])
  ·rw[List.map_append,List.nodup_append];refine⟨h.kQ,by simp,fun a ha b hb e=> ?_⟩;simp at hb;obtain⟨q,hq,rfl⟩:=List.mem_map.1 ha;rw[hb]at e;injection e with e3 e4;obtain⟨p,hp,e5⟩:=h.own q hq;exact hno p hp (by rw[e5,e3])
  ·intro q hq;rcases List.mem_append.1 hq with hq|hq
   ·exact h.wt q hq
   ·simp at hq;subst hq;exact h4
  ·intro q hq;rcases List.mem_append.1 hq with hq|hq
   ·obtain⟨p,hp,e⟩:=h.own q hq;exact⟨p,List.mem_append.2 (.inl hp),e⟩
   ·simp at hq;subst hq;exact⟨⟨lower n,x,bs⟩,List.mem_append.2 (.inr (by simp)),rfl⟩
  ·intro p hp;rcases List.mem_append.1 hp with hp|hp
   ·obtain⟨q,hq,e⟩:=h.has p hp;exact⟨q,List.mem_append.2 (.inl hq),e⟩
   ·simp at hp;subst hp;exact⟨_,List.mem_append.2 (.inr (List.mem_singleton.2 rfl)),rfl⟩
  ·intro q hq;rcases List.mem_append.1 hq with hq|hq
   ·exact h.full q hq
   ·simp at hq;subst hq;simp
  ·intro q hq;rcases List.mem_append.1 hq with hq|hq
   ·exact h.srt q hq
   ·simp at hq;subst hq;exact SortD.one _
theorem keysQ_append(A B:List Sq):keysQ (A++B)=keysQ A++keysQ B:=by simp[keysQ]
theorem PutR.keys{n:List Lab}{t ttl:Int}{d c:Lab}{P P':List Nq}{Q Q':List Sq}{r:Bool}(hp:PutR n t ttl d c P Q P' Q' r)(hs:(Q.map (·.s)).Nodup)(k:List Lab×Int×Lab):k∈keysQ Q'↔k∈keysQ Q∨k=(lower n,t,c):=by
 rcases hp with⟨q,hq,hqn,hqt,⟨e,he,hec⟩,e1,rfl,rfl,rfl⟩|⟨q,hq,hqn,hqt,⟨e,he,hec⟩,e1,rfl,rfl,rfl⟩|⟨q,hq,hqn,hqt,hno,rfl,rfl,v,b1,b2,p,e1,e2,hf,rfl⟩|⟨hno,hpe,rfl,rfl,s,v,b1,b2,e1,e2,rfl⟩|⟨hno,rfl,x,bs,s,v,b1,b2,e1,e2,rfl,rfl⟩
 ·refine⟨.inl,fun h=> ?_⟩;rcases h with h|rfl
  ·exact h
  ·exact mem_keysQ.2 ⟨q,hq,e,he,by rw[hqn,hqt,hec]⟩
 ·constructor
  ·intro h;obtain⟨r,hr,d',hd',rfl⟩:=mem_keysQ.1 h;rcases mem_updS hr with rfl|⟨hr,_⟩
   ·exact .inl (mem_keysQ.2 ⟨q,hq,d',hd',rfl⟩)
   ·exact .inl (mem_keysQ.2 ⟨r,hr,d',hd',rfl⟩)
  ·intro h;have h':k∈keysQ Q:=by
    rcases h with h|rfl
    ·exact h
    ·exact mem_keysQ.2 ⟨q,hq,e,he,by rw[hqn,hqt,hec]⟩
   obtain⟨r,hr,d',hd',rfl⟩:=mem_keysQ.1 h';by_cases hrq:r=q
   ·subst hrq;exact mem_keysQ.2 ⟨_,(mem_updS2 hs hq _).2 (.inl rfl),d',hd',rfl⟩
   ·exact mem_keysQ.2 ⟨r,(mem_updS2 hs hq r).2 (.inr ⟨hr,hrq⟩),d',hd',rfl⟩
 ·constructor
  ·intro h;obtain⟨r,hr,d',hd',rfl⟩:=mem_keysQ.1 h;rcases mem_updS hr with rfl|⟨hr,_⟩
   ·rcases mem_insD.1 hd' with rfl|hd'
    ·exact .inr (by rw[←hqn,←hqt,←e2])
    ·exact .inl (mem_keysQ.2 ⟨q,hq,d',hd',rfl⟩)
   ·exact .inl (mem_keysQ.2 ⟨r,hr,d',hd',rfl⟩)
  ·rintro(h|rfl)
   ·obtain⟨r,hr,d',hd',rfl⟩:=mem_keysQ.1 h;by_cases hrq:r=q
    ·subst hrq;exact mem_keysQ.2 ⟨_,(mem_updS2 hs hq _).2 (.inl rfl),d',mem_insD.2 (.inr hd'),rfl⟩
    ·exact mem_keysQ.2 ⟨r,(mem_updS2 hs hq r).2 (.inr ⟨hr,hrq⟩),d',hd',rfl⟩
   ·exact mem_keysQ.2 ⟨_,(mem_updS2 hs hq _).2 (.inl rfl),(b1,b2),mem_insD.2 (.inl rfl),by rw[←hqn,←hqt,←e2]⟩
 ·rw[keysQ_append,List.mem_append];have:keysQ [⟨lower n,t,ttl,s,v,[(b1,b2)]⟩]=[(lower n,t,c)]:=by rw[←e2];rfl
  rw[this,List.mem_singleton]
 ·rw[keysQ_append,List.mem_append];have:keysQ [⟨lower n,t,ttl,s,v,[(b1,b2)]⟩]=[(lower n,t,c)]:=by rw[←e2];rfl
  rw[this,List.mem_singleton]
def secs(Q:List Sq)(n:List Lab):List Sq:=(setsOf Q n).mergeSort fun a b=>decide (a.t≤b.t)
theorem secs_perm(Q:List Sq)(n:List Lab):(secs Q n).Perm (setsOf Q n):=List.mergeSort_perm _ _
theorem secs_sorted(Q:List Sq)(n:List Lab):(secs Q n).Pairwise fun a b=>a.t≤b.t:=by
 have:=List.pairwise_mergeSort (le:=fun a b:Sq=>decide (a.t≤b.t)) (fun a b c h1 h2=>by simp at *;omega) (fun a b=>by simp;omega) (setsOf Q n);exact this.imp fun h=>by simpa using h
theorem secs_types{Q:List Sq}{n:List Lab}{ys:List Nat}(h1:ys.Pairwise (· ≤·))(h2:(ys.map fun y:Nat=>(y:Int)).Perm ((setsOf Q n).map (·.t))):(ys.map fun y:Nat=>(y:Int))=(secs Q n).map (·.t):=by
 refine List.Perm.eq_of_pairwise (le:=fun a b:Int=>a≤b) (fun a b _ _ h1 h2=>by omega) ?_ ?_ (h2.trans ((secs_perm Q n).map _).symm)
 ·rw[List.pairwise_map];exact h1.imp fun h=>by omega
 ·rw[List.pairwise_map];exact secs_sorted Q n
theorem zkey_lower(n:List Lab):zkey (lower n)=zkey n:=by unfold zkey;rw[lower_idem]
theorem One.low{w:World}{B z bn bb x bs s:Nat}{ap n:List Lab}{t ttl:Int}{v:Value}{ds:List (Blob×Blob)}{f:Lab→Int}{N:Nat}(h:One w B z bn bb x bs s ap n t ttl v ds f N):One w B z bn bb x bs s ap (lower n) t ttl v ds f N:=by
 refine⟨by rw[zkey_lower];exact h.zn,⟨?_,h.st.sets,h.st.set,h.st.row,h.st.dat,h.st.h1,h.st.h2⟩,h.n1,h.n2⟩;rw[lower_idem,lower_len];exact h.st.node
theorem info_rec:(prog.info? 39).map (fun i=>(i.zero,i.size,i.bytes))=some (some (.agg #[.slice none 0 0,.int .u16 0,.int .u16 0,.int .u32 0,.slice none 0 0]),5,56):=by kernel_rfl
structure RcB where
 nm:NmB
 t:Int
 ttl:Int
 d:Blob
def RcB.cells(r:RcB):List Value:=[r.nm.v,.int .u16 r.t,.int .u16 1,.int .u32 r.ttl,r.d.v]
def RcB.says(r:RcB):List Lab×Int×Int×Lab:=(r.nm.l,r.t,r.ttl,r.d.l)
def RcB.own(w:World)(B:Nat)(r:RcB):Prop:=r.nm.own w B∧BlobOwn w B r.d
def saysQ(q:Sq):List (List Lab×Int×Int×Lab):=q.ds.map fun d=>(q.n,q.t,q.ttl,d.1.l)
def saysN(Q:List Sq)(n:List Lab):List (List Lab×Int×Int×Lab):=(secs Q n).flatMap saysQ
structure RecsV(w:World)(B:Nat)(v:Value)(rs:List RcB):Prop where
 row:w.ownsRow B 39 5 v rs.length (rs.flatMap RcB.cells)
 own:∀r∈rs,r.own w B
theorem RecsV.below{w w':World}{B:Nat}{v:Value}{rs:List RcB}(h:RecsV w B v rs)(hb:Below w.heap.size w w'):RecsV w' B v rs:=⟨own_below h.row hb,fun r hr=>⟨own_below (h.own r hr).1 hb,own_below (h.own r hr).2 hb⟩⟩
theorem RecsV.base{w:World}{B B':Nat}{v:Value}{rs:List RcB}(h:RecsV w B v rs)(hB:B'≤B):RecsV w B' v rs:=⟨own_base h.row hB,fun r hr=>⟨own_base (h.own r hr).1 hB,own_base (h.own r hr).2 hB⟩⟩
theorem RecsV.push{w w':World}{B:Nat}{v v':Value}{rs:List RcB}{r:RcB}(h:RecsV w B v rs)(hk:Kept (fun b=>some b=v.ownBlock) w w')(hr:w'.ownsRow B 39 5 v' (rs.length+1) (rs.flatMap RcB.cells++r.cells))(ho:r.own w B):RecsV w' B v' (rs++[r]):=by
 refine⟨by rw[List.length_append,List.flatMap_append];simpa using hr,fun x hx=> ?_⟩;have hx':x.own w B:=by
  rcases List.mem_append.1 hx with hx|hx
  ·exact h.own x hx
  ·rcases List.mem_cons.1 hx with rfl|hx
   ·exact ho
   ·cases hx
 exact⟨row_type hx'.1 h.row (by decide) hk,row_type hx'.2 h.row (by decide) hk⟩
theorem saysQ_len(q:Sq):(saysQ q).length=q.ds.length:=by simp[saysQ]
theorem saysN_len(Q:List Sq)(n:List Lab):(saysN Q n).length≤total Q:=by
 have h1:∀l:List Sq,(l.flatMap saysQ).length=total l:=fun l=>by
  induction l with
  |nil=>rfl
  |cons q l ih=>
   have e1:total (q::l)=q.ds.length+total l:=by simp[total]
   rw[List.flatMap_cons,List.length_append,ih,saysQ_len,e1]
 have h2:∀a b:List Sq,a.Perm b→total a=total b:=fun a b hp=>by
  unfold total;exact(hp.map _).sum_nat
 have h3:∀l:List Sq,total (setsOf l n)≤total l:=fun l=>by
  induction l with
  |nil=>exact Nat.le_refl _
  |cons q l ih=>
   have e1:total (q::l)=q.ds.length+total l:=by simp[total]
   unfold setsOf at ih ⊢;rw[List.filter_cons];split
   ·have e2:∀m,total (q::m)=q.ds.length+total m:=fun m=>by simp[total]
    rw[e1,e2];omega
   ·omega
 unfold saysN;rw[h1,h2 _ _ (secs_perm Q n)];exact h3 Q
def RecL1(w0:World)(B:Nat)(Q:List Sq)(ns:List NmB)(v i:Value)(wr:World):Prop:=
 ∃(j:Nat) (rs:List RcB),j≤ns.length∧i=.int .i64 j∧RecsV wr B v rs∧rs.map RcB.says=(ns.take j).flatMap (fun n=>saysN Q n.l)∧Below w0.heap.size w0 wr∧rs.length≤j *2000
def RecL2(w0:World)(B C:Nat)(pre:List (List Lab×Int×Int×Lab))(qs:List Sq)(T:Value)(ys:List Nat)(v i:Value)(wr:World):Prop:=
 ∃(j:Nat) (rs:List RcB),j≤qs.length∧i=.int .i64 j∧RecsV wr B v rs∧rs.map RcB.says=pre++(qs.take j).flatMap saysQ∧Below w0.heap.size w0 wr∧rs.length≤C+j *2000∧wr.ownsRow B 36 1 T ys.length (ys.map u16V)
def RecL3(w0:World)(B C:Nat)(pre:List (List Lab×Int×Int×Lab))(q:Sq)(T:Value)(ys:List Nat)(gS:Nat)(sc:Array Value)(dv:Value)(bl:List Blob)(v i:Value)(wr:World):Prop:=
 ∃(j:Nat) (rs:List RcB),j≤q.ds.length∧i=.int .i64 j∧RecsV wr B v rs∧rs.map RcB.says=pre++(saysQ q).take j∧Below w0.heap.size w0 wr∧rs.length=C+j∧wr.ownsRow B 36 1 T ys.length (ys.map u16V)∧
  wr.heap[gS]? =some (.cells sc 54 (0,0))∧wr.ownsRow B 37 1 dv q.ds.length (bl.map Blob.v)∧∀y∈bl,BlobOwn wr B y
theorem ZRecsG(w:World)(B z bn bb:Nat)(ap:List Lab)(P:List Nq)(Q:List Sq)(N:Nat)(h:ZG w B z bn bb ap P Q N)(hw:Wf ap P Q)(hPl:P.length≤2000)(hQl:total Q≤2000)(h12:∀n,(setsOf Q n).length≤12)(hdl:∀q∈Q,∀d∈q.ds,d.1.l.length≤100000):
 Calls prog 17 #[.pointer (some ⟨z,0,none⟩)] w fun e w'=>Below w.heap.size w w'∧∃v,∃rs:List RcB,∃ns:List (List Lab),e=.returned v∧RecsV w' w.heap.size v rs∧ns.Perm (P.map (·.n))∧ns.Pairwise (fun a b=>¬cmpN b a < 0)∧rs.map RcB.says=ns.flatMap (saysN Q):=by
 obtain⟨i0,hi,hi0,hi1,hi2⟩:=info_parts info_rec;have HN:=hid (ZNamesG w B z bn bb ap P Q N h hw (by omega))
 have HT:Hid (∀(yA:Option Addr) (yl:List Lab) (yc:Nat) W,Below w.heap.size w W→(∃p∈P,p.n=yl)→Cs W yA (yl.map strV)→Calls prog 33 #[.pointer (some ⟨z,0,none⟩),.slice yA yl.length yc] W fun e w'=>∃v,∃ys:List Nat,e=.returned v∧(ys.map fun y:Nat=>(y:Int))=(secs Q yl).map (·.t)∧w'.ownsRow W.heap.size 36 1 v ys.length (ys.map u16V)∧Below W.heap.size W w'):=hid fun yA yl yc W hW hp hA=>by
  obtain⟨p,hp,hpe⟩:=hp;refine(ZTypesG W B z bn bb ap P Q N (h.ext hW) hw p hp (h12 _) yA yl yc hA (by rw[←hpe];exact(hw.ok p hp).small) (by rw[hpe])).mono ?_;rintro e w' ⟨v,ys,he,h1,h2,h3,h4⟩;refine⟨v,ys,he, ?_,h3,h4⟩;rw[←hpe];exact secs_types h1 h2
 have HS:Hid (∀(yA:Option Addr) (yl:List Lab) (yc:Nat) (q:Sq) W,Below w.heap.size w W→(∃p∈P,p.n=yl)→q∈secs Q yl→Cs W yA (yl.map strV)→Calls prog 24 #[.pointer (some ⟨z,0,none⟩),.slice yA yl.length yc,.int .u16 q.t] W fun e w'=>Below W.heap.size W w'∧∃Am cm Ad cd,∃bl:List Blob,e=.returned (.tuple #[.agg #[.slice Am yl.length cm,.int .u16 q.t,.int .u32 q.ttl,.slice Ad q.ds.length cd],.bool true])∧w'.ownsRow W.heap.size 37 1 (.slice Ad q.ds.length cd) q.ds.length (bl.map Blob.v)∧bl.map (·.l)=q.ds.map (·.1.l)∧∀y∈bl,BlobOwn w' W.heap.size y):=hid fun yA yl yc q W hW hp hq hA=>by
  obtain⟨p,hp,hpe⟩:=hp;have hqs:=mem_setsOf.1 ((secs_perm Q yl).mem_iff.1 hq);obtain⟨D,D2,hF,_,_⟩:=(h.ext hW).foc hw hp hqs.1 (by rw[hpe,hqs.2]) (n:=yl) (by rw[←hpe];exact(hw.ok p hp).low);have hl:=len_total hqs.1;refine(ZSetG W B z bn bb p.x p.bs q.s ap yl q.t q.ttl q.v q.ds _ D D2 _ N N hF yA yc hA (by rw[←hpe];exact(hw.ok p hp).small) (hw.wt q hqs.1) (by omega) (hdl q hqs.1)).mono ?_
  rintro e w' ⟨h1,Am,cm,Ad,cd,bl,he,_,h3,h4,h5⟩;exact⟨h1,Am,cm,Ad,cd,bl,he,h3,h4,h5⟩
 have HQ:Hid (∀n,∀q∈secs Q n,q.n=n∧q.ds.length≤2000):=hid fun n q hq=>by
  have hqs:=mem_setsOf.1 ((secs_perm Q n).mem_iff.1 hq);have hl:=len_total hqs.1;exact⟨hqs.2,by omega⟩
 have HTL:Hid (∀n,(saysN Q n).length≤2000):=hid fun n=>Nat.le_trans (saysN_len Q n) hQl;have HSM:Hid (∀p∈P,p.n.length≤1000):=hid fun p hp=>(hw.ok p hp).small.1;have HSL:Hid (∀n,(secs Q n).length≤12):=hid fun n=>by rw[(secs_perm Q n).length_eq];exact h12 n
 clear h hw;go_enter func17,ntmps17;go_wp2_with fail;refine HN.out.mono ?_;rintro e w1 ⟨hb1,v1,ns,rfl,hr1,hnp,hns,hno⟩;obtain⟨A1,c1,rfl,_⟩:=own_form hr1;have HC1:=hid (cs_own2 hr1);have HNO:=hid hno;have HNS:=hid (And.intro hnp hns);have hnl:ns.length≤2000:=by
  have:=hnp.length_eq;simp at this;omega
 have HNM:Hid (∀y∈ns,∃p∈P,p.n=y.l):=hid fun y hy=>by
  have:y.l∈ns.map (·.l):=List.mem_map.2 ⟨y,hy,rfl⟩;obtain⟨p,hp,e⟩:=List.mem_map.1 (hnp.mem_iff.1 this);exact⟨p,hp,e⟩
 have hz1:=hb1.size;clear hr1 hno hnp hns;go_wp2_with fail
 go_loopw [3,15] (RecL1 w1 w1.heap.size Q ns) (fun _ i _=>ns.length - (intOf i).toNat)
 case atStart=>exact⟨0,[],Nat.zero_le _,rfl,⟨World.ownsRow_nil _ _ _ _,fun r hr=>(by cases hr)⟩,rfl,Below.refl _ _,Nat.le_refl _⟩
 case round=>
  obtain⟨j,rs,hj,rfl,hrv,hsay,hbel,hrl⟩:=hrel;obtain⟨A3,c3,rfl,_⟩:=own_form hrv.row;have HRV:=hid hrv;have HSAY:=hid hsay;clear hrv hsay;by_cases hlt:j < ns.length
  ·obtain⟨bk,off,rfl,hbk,hck⟩:=HC1.out j _ (by rw[List.getElem?_map,List.getElem?_eq_getElem hlt];rfl);have hck1:=(hbel.cell (p:=⟨bk,off+j,none⟩) hbk).trans hck;have hno:=HNO.out _ (List.getElem_mem hlt);have hnm:=HNM.out _ (List.getElem_mem hlt);have htake:(ns.take (j+1)).flatMap (fun n=>saysN Q n.l)=(ns.take j).flatMap (fun n=>saysN Q n.l)++saysN Q ns[j].l:=by
    rw[List.take_succ_eq_append_getElem hlt,List.flatMap_append];simp
   have HTK:=hid htake;have hcy:=(cs_own hno).2;have hyl:ns[j].l.length≤1000:=by obtain⟨p,hp,e⟩:=hnm;rw[←e];exact HSM.out p hp
   generalize hyy:ns[j]=y at *;obtain⟨yA,yl,yc⟩:=y;unfold NmB.v at hck1;simp only at hck1 hcy hyl;clear htake hck hno hyy;have hbw:=hb1.trans (hbel.mono hz1);have hcyr:=hcy.below hbel;go_wp2_with fail;refine(HT.out yA yl yc wr hbw hnm hcyr).mono ?_;rintro e w2 ⟨v2,ys,rfl,hys,hr2,hb2⟩;obtain⟨A2,c2,rfl,_⟩:=own_form hr2;have HC2:=hid (cs_own2 hr2)
   have hyl2:ys.length=(secs Q yl).length:=by have:=congrArg List.length hys;simpa using this
   have hql:=HSL.out yl;have HYS:=hid hys;have hbw2:=hbw.trans (hb2.mono hbw.size);have HRV2:=hid (HRV.out.below hb2);have hbel2:=hbel.trans (hb2.mono hbel.size);have HR2:=hid (own_base hr2 hbel.size);have hrl3:rs.length≤4000000:=by omega
   have HPC:=hid HSAY.out;clear hr2 hys hb2 hcyr hck1 hbel hbw HRV;go_wp2_with fail
   go_loopw [3,23] (RecL2 w1 w1.heap.size rs.length (rs.map RcB.says) (secs Q yl) (.slice A2 ys.length c2) ys) (fun _ i _=>(secs Q yl).length - (intOf i).toNat)
   case atStart=>exact⟨0,rs,Nat.zero_le _,rfl,HRV2.out,by simp,hbel2,by omega,HR2.out⟩
   case round=>
    clear HRV2 hbel2 HR2 hbw2;obtain⟨k,rs2,hk,rfl,hrv2,hsay2,hbel,hrl2,hty⟩:=hrel;obtain⟨A5,c5,rfl,_⟩:=own_form hrv2.row;have HRV:=hid hrv2;have HSAY2:=hid hsay2;have HTY:=hid hty;clear hrv2 hsay2 hty;by_cases hlt2:k < (secs Q yl).length
    ·have hqm:=List.getElem_mem hlt2;obtain⟨hqn,hqd⟩:=HQ.out _ _ hqm;have hyk:(ys[k]'(by omega):Int)=((secs Q yl)[k]).t:=by
      have h0:(ys.map fun y:Nat=>(y:Int))[k]? =((secs Q yl).map (·.t))[k]?:=by rw[HYS.out]
      rw[List.getElem?_map,List.getElem?_map,List.getElem?_eq_getElem (by omega),List.getElem?_eq_getElem hlt2]at h0;simpa using h0
     obtain⟨b2,o2,rfl,hbt,hct0⟩:=(cs_own HTY.out).2 k _ (by rw[List.getElem?_map,List.getElem?_eq_getElem (by omega)];rfl);have hct:wr.cell? ⟨b2,o2+k,none⟩=some (.int .u16 ((secs Q yl)[k]).t):=by rw[hct0,←hyk];rfl
     clear hct0;have htk2:((secs Q yl).take (k+1)).flatMap saysQ=((secs Q yl).take k).flatMap saysQ++saysQ (secs Q yl)[k]:=by
      rw[List.take_succ_eq_append_getElem hlt2,List.flatMap_append];simp
     have HTK2:=hid htk2;have HQM:=hid hqm;generalize hqq:(secs Q yl)[k]=q at *;clear hyk htk2 hqq hqm;have hbw:=hb1.trans (hbel.mono hz1);have hcyr:=hcy.below hbel;go_wp2_with fail;refine(HS.out yA yl yc q wr hbw hnm HQM.out hcyr).mono ?_;rintro e w3 ⟨hb3,Am,cm,Ad,cd,bl,rfl,hdr,hbl,hbo⟩;have hbll:bl.length=q.ds.length:=by have:=congrArg List.length hbl;simpa using this
     have HBL:=hid hbl;have hb34:Below w3.heap.size w3 (w3.alloc (.cells #[.slice Am yl.length cm,.int .u16 q.t,.int .u32 q.ttl,.slice Ad q.ds.length cd] 54)):=bAl;have hq:=heap_alloc_new w3 (.cells #[.slice Am yl.length cm,.int .u16 q.t,.int .u32 q.ttl,.slice Ad q.ds.length cd] 54);obtain⟨q0,q1,q2,q3,_⟩:=cells4 hq;have hb04:=hb3.trans (hb34.mono hb3.size)
     have hbel4:=hbel.trans (hb04.mono hbel.size);have HRV4:=hid (HRV.out.below hb04);have HTY4:=hid (own_below HTY.out hb04);have hdr4:=own_base (own_below hdr hb34) hbel.size;have hbo4:∀y∈bl,BlobOwn (w3.alloc (.cells #[.slice Am yl.length cm,.int .u16 q.t,.int .u32 q.ttl,.slice Ad q.ds.length cd] 54)) w1.heap.size y:=fun y hy=>own_base (own_below (hbo y hy) hb34) hbel.size
     have HD4:=hid (And.intro hdr4 hbo4);have HQ4:=hid hq;clear hdr hbo hdr4 hbo4 hb3 hb34 hbel hbl hcyr hct hq hb04 HTY HRV hbw;go_wp2_with fail;generalize w3.alloc (.cells #[.slice Am yl.length cm,.int .u16 q.t,.int .u32 q.ttl,.slice Ad q.ds.length cd] 54)=w4 at *;generalize w3.heap.size=gS at *;clear q0 q1 q2 q3
     go_loopw [3,37] (RecL3 w1 w1.heap.size rs2.length (rs2.map RcB.says) q (.slice (some ⟨b2,o2,none⟩) ys.length c2) ys gS #[.slice Am yl.length cm,.int .u16 q.t,.int .u32 q.ttl,.slice Ad q.ds.length cd] (.slice Ad q.ds.length cd) bl) (fun _ i _=>q.ds.length - (intOf i).toNat)
     case atStart=>exact⟨0,rs2,Nat.zero_le _,rfl,HRV4.out,by simp,hbel4,by omega,HTY4.out,HQ4.out,HD4.out.1,HD4.out.2⟩
     case round=>
      clear HRV4 HTY4 HQ4 HD4 hbel4;obtain⟨m,rs3,hm,rfl,hrv3,hsay3,hbel,hrl4,hty,hgs,hdr,hbo⟩:=hrel;obtain⟨A6,c6,rfl,_⟩:=own_form hrv3.row;have HRV:=hid hrv3;have HSAY3:=hid hsay3;have HTY:=hid hty;have HGS:=hid hgs;have HDR:=hid hdr;have HBO:=hid hbo;have hgl:=lt_block hgs;have HRL:=hid hrl4;have hrl5:rs3.length≤10000000:=by omega
      clear hrv3 hsay3 hty hdr hbo hrl4;by_cases hlt3:m < q.ds.length
      ·have hmb:m < bl.length:=by omega
       obtain⟨b3,o3,rfl,hbd,hcd⟩:=(cs_own HDR.out).2 m _ (by rw[List.getElem?_map,List.getElem?_eq_getElem hmb];rfl);have hsm:(saysQ q).take (m+1)=(saysQ q).take m++[(yl,q.t,q.ttl,bl[m].l)]:=by
        rw[List.take_succ_eq_append_getElem (by rw[saysQ_len];exact hlt3)];congr 1;have h0:(bl.map (·.l))[m]? =(q.ds.map (·.1.l))[m]?:=by rw[HBL.out]
        rw[List.getElem?_map,List.getElem?_map,List.getElem?_eq_getElem hmb,List.getElem?_eq_getElem hlt3]at h0;simp at h0;simp[saysQ,hqn,h0]
       have HSM3:=hid hsm;have hbm:=HBO.out _ (List.getElem_mem hmb);have HBM:=hid hbm;generalize bl[m]=u at *;obtain⟨uA,ul,uc⟩:=u;unfold Blob.v at hcd;simp only at hcd;clear hsm hbm;have hcyr:=hcy.below hbel;have HCY:=hid hcyr;have hs1:=hbel.size;clear hcyr;go_wp2_with fail;obtain⟨_,_,s2,_,_⟩:=cells4 hgs
       have HLT:Hid (∀k,some k=(Value.slice A6 rs3.length c6).ownBlock→k < wr.heap.size∧w1.heap.size≤k):=hid fun k e=>by
        have:=HRV.out.row.lt k e.symm;omega
       have HGN:Hid (¬some gS=(Value.slice A6 rs3.length c6).ownBlock):=hid fun e=>by
        obtain⟨cs,g1,_⟩:=row_block HRV.out.row e.symm;exact ne_cells hgs g1 (by decide) rfl
       refine wp_region_dep mixed0 (by kernel_rfl) (fun i k=>false) (by kernel_rfl)
        (fun i V V'=>if i=9 then Kept (fun k=>some k=(Value.slice A6 rs3.length c6).ownBlock) V V' else Ext V V')
        (fun V=>Kept (fun k=>some k=(Value.slice A6 rs3.length c6).ownBlock) wr V)
        (fun i vals V=>match i with
          |0=>vals 0=.slice A6 rs3.length c6
          |1=>vals 1=.slice yA yl.length yc
          |2=>∃A c,vals 2=.slice A yl.length c∧V.ownsRow wr.heap.size 9 1 (.slice A yl.length c) yl.length (yl.map strV)
          |3=>vals 3=.int .u16 q.t
          |4=>vals 4=.pointer (some ⟨gS,2,none⟩)
          |5=>vals 5=.int .u32 q.ttl
          |6=>vals 6=.slice uA ul.length uc
          |7=>∃A c,vals 7=.agg #[.slice A yl.length c,.int .u16 q.t,.int .u16 1,.int .u32 q.ttl,.slice uA ul.length uc]∧V.ownsRow wr.heap.size 9 1 (.slice A yl.length c) yl.length (yl.map strV)
          |8=>∃g A c,vals 8=.slice (some ⟨g,0,none⟩) 1 1∧wr.heap.size≤g∧V.heap[g]? =some (.cells #[.slice A yl.length c,.int .u16 q.t,.int .u16 1,.int .u32 q.ttl,.slice uA ul.length uc] 39 (0,0))∧V.ownsRow wr.heap.size 9 1 (.slice A yl.length c) yl.length (yl.map strV)
          |9=>∃A c A' c',vals 9=.slice A (rs3.length+1) c∧V.ownsRow w1.heap.size 39 5 (.slice A (rs3.length+1) c) (rs3.length+1) (rs3.flatMap RcB.cells++[.slice A' yl.length c',.int .u16 q.t,.int .u16 1,.int .u32 q.ttl,.slice uA ul.length uc])∧V.ownsRow wr.heap.size 9 1 (.slice A' yl.length c') yl.length (yl.map strV)
          |10=>∃A c A' c',vals 10=.slice A (rs3.length+1) c∧V.ownsRow w1.heap.size 39 5 (.slice A (rs3.length+1) c) (rs3.length+1) (rs3.flatMap RcB.cells++[.slice A' yl.length c',.int .u16 q.t,.int .u16 1,.int .u32 q.ttl,.slice uA ul.length uc])∧V.ownsRow wr.heap.size 9 1 (.slice A' yl.length c') yl.length (yl.map strV)
          |_=>True) ?_ (fun V=>V.ownsRow w1.heap.size 39 5 (.slice A6 rs3.length c6) rs3.length (rs3.flatMap RcB.cells)) (fun i=>i==9) HRV.out.row ?_ ?_ ?_ ?_ ?_ ?_
       ·intro k vals i v V hij hw hR;rcases k with _|_|_|_|_|_|_|_|_|_|_|k
        all_goals first
         |exact trivial
         |exact hR
         |(simpa[hij,Ne.symm hij]using hR)
       ·intro i V V' hk hC hI hT;by_cases h9:i=9
        ·subst h9;cases hk
        ·simp only[h9,if_false]at hT;exact own_below hI hT
       ·exact(Kept.refl _ wr).drew
       ·intro i V V' hC hT;by_cases h9:i=9
        ·simp only[h9,if_true]at hT;exact hC.trans hT
        ·simp only[h9,if_false]at hT;exact hC.trans (Kept.mono (Kept.of_ext hT) (fun _ _ h=>h.elim))
       ·intro i k vals V V' hij hk hw hC hR hT;have hnew:∀{u:Value} {n:Nat} {xs:List Value},V.ownsRow wr.heap.size 9 1 u n xs→V'.ownsRow wr.heap.size 9 1 u n xs:=fun hr=>by
         by_cases h9:i=9
         ·simp only[h9,if_true]at hT;exact Kept.row hr hT (fun k hk2 hs=>by have:=(hr.lt k hk2).1;have:=HLT.out k hs;omega)
         ·simp only[h9,if_false]at hT;exact own_below hr hT
        rcases k with _|_|_|_|_|_|_|_|_|_|_|k
        all_goals first
         |exact trivial
         |exact hR
         |skip
        ·obtain⟨A,c,h1,h2⟩:=hR;exact⟨A,c,h1,hnew h2⟩
        ·obtain⟨A,c,h1,h2⟩:=hR;exact⟨A,c,h1,hnew h2⟩
        ·obtain⟨g,A,c,h1,hg,h2,h3⟩:=hR;refine⟨g,A,c,h1,hg, ?_,hnew h3⟩;by_cases h9:i=9
         ·simp only[h9,if_true]at hT;exact(hT.block g (lt_block h2) (fun e=>by have:=HLT.out g e;omega)).trans h2
         ·simp only[h9,if_false]at hT;exact(Below.block hT g (lt_block h2)).trans h2
        ·have h9:¬i=9:=hij;simp only[h9,if_false]at hT;obtain⟨A,c,A',c',h1,h2,h3⟩:=hR;exact⟨A,c,A',c',h1,own_below h2 hT,own_below h3 hT⟩
        ·have h9:¬i=9:=fun e=>by
          subst e;generalize hb:waitsB _ _ _=b at hw;have:b=true:=by rw[←hb];kernel_rfl
          rw[this]at hw;cases hw
         simp only[h9,if_false]at hT;obtain⟨A,c,A',c',h1,h2,h3⟩:=hR;exact⟨A,c,A',c',h1,own_below h2 hT,own_below h3 hT⟩
       ·intro i o hio vals V hC haf hI0;have e2:=(hC.cell (b:=gS) (o:=2) hgl HGN.out).trans s2;rcases i with _|_|_|_|_|_|_|_|_|_|_|i
        all_goals first
         |(exfalso;simp at hio;done)
         |skip
        all_goals
         simp at hio;subst hio;simp[bindD,rdB,Region.binds]at haf
        all_goals first
         |(simp[opU,go_sem,haf,e2,Ext.refl];done)
         |skip
        ·simp[opU,go_sem,haf];have hcV:Cs V yA (yl.map strV):=Kept.cs HCY.out hC (fun a ha hx hs=>by
          have:=(Cs.where hcy ha hx)
          have:=HLT.out _ hs;omega)
         refine(CloneN yA yl yc V hcV (by omega)).mono fun e V' h=> ?_;obtain⟨v,he,ho,hb⟩:=h;obtain⟨A,c,hv,_⟩:=own_form ho;subst hv;exact⟨_,he,hb,A,c,rfl,own_base ho hC.size⟩
        ·obtain⟨⟨A,c,h2,h2o⟩,h3,h5,h6⟩:=haf;simp[opU,go_sem,h2,h3,h5,h6,Ext.refl];exact⟨A,c,⟨rfl,rfl⟩,h2o⟩
        ·obtain⟨A,c,h7,h7o⟩:=haf;simp[opU,go_sem,h7,Ext.refl];exact⟨bAl,hC.size,A,c,by simp only[World.alloc,Array.getElem_push_eq],own_below h7o bAl⟩
        ·obtain⟨h0,g,h8,hg,A',c',hgb,hgo⟩:=haf;have hI:=hI0 (fun k hk hk2=>.inl (by simpa using hk2))
         refine yield_push (us:=[.slice A' yl.length c',.int .u16 q.t,.int .u16 1,.int .u32 q.ttl,.slice uA ul.length uc]) rfl (.tmp 41) (.tmp 49) underlying31 rfl hi hi0 hi1 hi2 rfl (by decide) (by simp[relAct,dstAt,Act.put,Act.eval,h0]) hI (by have:=hC.size;omega) (g:=g) (by simp[relAct,dstAt,Act.put,Act.eval,h8]) rfl
          (fun k u hk=>by rw[add_plain,cell_of_row _ _ _ _ _ _ (show V.heap[g]? =_ from by first|exact hgb|(rw[Array.getElem?_eq_some_iff];exact⟨_,hgb⟩)),Nat.zero_add];simpa using hk) (by simp[Value.oneCell']) (by unfold maxLen;omega) (by omega) ?_
         intro v' V' hown' hg' hat';obtain⟨A'',c'',rfl,_⟩:=own_form hown';have hkk:Kept (fun k=>some k=(Value.slice A6 rs3.length c6).ownBlock) V V':=Kept.of_grown hg';exact⟨hkk,A'',c'',A',c',rfl,hown',Kept.row hgo hkk (fun k hk2 hs=>by have:=(World.ownsRow.lt hgo k hk2).1;have:=HLT.out k hs;omega)⟩
       ·intro vals V hC hR;have h10:=hR 10 (by show 10 < 11;omega) (fun i _=>rfl);obtain⟨A,c,A',c',h10,g1,g2⟩:=h10;simp[relAct,dstAt,Act.put];rw[h10];have hbV:Below w1.heap.size wr V:=hC.below hs1 (fun k hk e=>by have:=(HLT.out k e).2;omega);have hrV:RecsV V w1.heap.size (.slice A (rs3.length+1) c) (rs3++[⟨⟨A',yl,c'⟩,q.t,q.ttl,⟨uA,ul,uc⟩⟩]):=by
         refine⟨by rw[List.length_append,List.flatMap_append];simpa[RcB.cells,NmB.v,Blob.v]using g1,fun x hx=> ?_⟩;rcases List.mem_append.1 hx with hx|hx
         ·have hxo:=HRV.out.own x hx;exact⟨row_type hxo.1 HRV.out.row (by decide) hC,row_type hxo.2 HRV.out.row (by decide) hC⟩
         ·rcases List.mem_cons.1 hx with rfl|hx
          ·exact⟨own_base g2 hs1,row_type HBM.out HRV.out.row (by decide) hC⟩
          ·cases hx
        have HRVV:=hid hrV;have HTYV:=hid (row_type HTY.out HRV.out.row (by decide) hC);have HDRV:=hid (row_type HDR.out HRV.out.row (by decide) hC);have HGSV:=hid ((hC.block gS hgl HGN.out).trans HGS.out);have HBOV:Hid (∀y∈bl,BlobOwn V w1.heap.size y):=hid fun y hy=>row_type (HBO.out y hy) HRV.out.row (by decide) hC;have HBV:=hid (hbel.trans hbV);clear hR h10 g1 g2 hC hrV hbV
        generalize vals 0=p0,vals 1=p1;generalize vals 2=p2,vals 3=p3;generalize vals 4=p4,vals 5=p5;generalize vals 6=p6,vals 7=p7;generalize vals 8=p8,vals 9=p9;go_wp2_with fail
        go_roundw
        case rel=>
         refine⟨m+1,rs3++[⟨⟨A',yl,c'⟩,q.t,q.ttl,⟨uA,ul,uc⟩⟩],by omega,by go_num,by simpa using HRVV.out, ?_,HBV.out,by have:=HRL.out;simp;omega,HTYV.out,HGSV.out,HDRV.out,HBOV.out⟩;rw[List.map_append,HSAY3.out,HSM3.out,List.append_assoc];rfl
        case measure=>simp[intOf];omega
      ·have hml:m=q.ds.length:=by omega
       subst hml;have hrl6:rs3.length≤rs.length+(k+1) *2000:=by have:=HRL.out;omega
       go_wp2_with fail
       go_roundw
       case rel=>
        refine⟨k+1,rs3,by omega,by go_num,HRV.out, ?_,hbel,hrl6,HTY.out⟩;rw[HSAY3.out,HSAY2.out,HTK2.out,←saysQ_len,List.take_length,List.append_assoc]
       case measure=>simp[intOf];omega
    ·have hkl:k=(secs Q yl).length:=by omega
     subst hkl;have hlen2:rs2.length=rs.length+(saysN Q yl).length:=by
      have:=congrArg List.length HSAY2.out;rw[List.take_length,List.length_append,List.length_map,List.length_map]at this;exact this
     have hlen3:=HTL.out yl;have hlen4:rs2.length≤(j+1) *2000:=by omega
     clear hlen2 hlen3;go_wp2_with fail
     go_roundw
     case rel=>
      refine⟨j+1,rs2,by omega,by go_num,HRV.out, ?_,hbel,hlen4⟩;rw[HSAY2.out,List.take_length,HSAY.out,HTK.out];rfl
     case measure=>simp[intOf];omega
  ·have hjl:j=ns.length:=by omega
   subst hjl;go_wp2_with fail;go_ret;refine⟨hb1.trans (hbel.mono hz1),_,rfl,rs,HRV.out.base hz1,ns.map (·.l),HNS.out.1, ?_, ?_⟩
   ·rw[List.pairwise_map];exact HNS.out.2
   ·rw[HSAY.out,List.take_length,List.flatMap_map]
def exL:Lab:=[101,120,97,109,112,108,101]
theorem own_row(w:World)(B:Nat)(e:TypeId)(xs:List Value)(hB:B≤w.heap.size)(hl:xs.length≤1000):(w.alloc (.cells xs.toArray e)).ownsRow B e 1 (.slice (some ⟨w.heap.size,0,none⟩) xs.length xs.length) xs.length xs:=
 ⟨by simp,.inr ⟨w.heap.size,xs.length,xs.toArray,rfl,hB,heap_alloc_new w _,Nat.le_refl _,by unfold maxLen;omega,by simp,by simp⟩⟩
theorem Apex(w:World):Calls prog 13 #[] w fun e w'=>∃v,e=.returned v∧w'.ownsRow w.heap.size 9 1 v 1 ([exL].map strV)∧Below w.heap.size w w':=by
 go_enter func13,ntmps13;go_wp2_with fail;go_ret;exact⟨_,rfl,own_row w w.heap.size 9 ([exL].map strV) (Nat.le_refl _) (by simp),bAl⟩
def ownL:Nat→List Lab
 |0=>[]
 |1=>[[97]]
 |2=>[[98]]
 |3=>[[99],[98]]
 |4=>[[42],[119]]
 |5=>[[120],[119]]
 |6=>[[101],[102],[103]]
 |7=>[[115,117,98]]
 |8=>[[110,115],[115,117,98]]
 |9=>[[65]]
 |10=>[[100,101,101,112],[120],[119]]
 |11=>[[122]]
 |_=>[[42]]
theorem ownL_len(m:Nat):(ownL m).length≤3:=by unfold ownL;split <;> decide
def owner(k:Nat):List Lab:=ownL (k %13)++[exL]
theorem allocs_below:∀(os:List Obj) (w:World),Below w.heap.size w (os.foldl World.alloc w)∧(os.foldl World.alloc w).heap.size=w.heap.size+os.length
 |[],w=>⟨Below.refl _ _,rfl⟩
 |o::os,w=>by
  obtain⟨h1,h2⟩:=allocs_below os (w.alloc o);rw[World.size_alloc]at h1 h2;exact⟨((Below.refl _ _).alloc (Nat.le_refl _) o).trans (h1.mono (by omega)),by rw[List.foldl_cons,h2,List.length_cons];omega⟩
theorem allocs_cs:∀(os:List Obj) (w:World) (i:Nat) (xs:List Value) (T:TypeId),os[i]? =some (.cells xs.toArray T)→Cs (os.foldl World.alloc w) (some ⟨w.heap.size+i,0,none⟩) xs
 |[],w,i,xs,T,h=>by simp at h
 |o::os,w,0,xs,T,h=>by
  simp at h;subst h;have:=cs_new w T xs (0,0);exact this.below (allocs_below os _).1
 |o::os,w,i+1,xs,T,h=>by
  have:=allocs_cs os (w.alloc o) i xs T (by simpa using h);rw[World.size_alloc,Nat.add_assoc,Nat.add_comm 1 i]at this;exact this
theorem Owner(k:Nat)(hk:k < 256)(w:World):Calls prog 22 #[.int .u8 k] w fun e w'=>∃v,e=.returned v∧w'.ownsRow w.heap.size 9 1 v (owner k).length ((owner k).map strV)∧Below w.heap.size w w':=by
 unfold owner;obtain⟨m,hm,hm2⟩:∃m,k %13=m∧m < 13:=⟨_,rfl,Nat.mod_lt _ (by omega)⟩
 have hrem:((k:Int).tmod 13)=m:=by rw[Int.tmod_eq_emod_of_nonneg (by omega)];omega
 rw[hm];have HM:=hid hm;clear hm
 have htab:([Value.slice (some ⟨w.heap.size,0,none⟩) 0 0,Value.slice (some ⟨w.heap.size+1,0,none⟩) 1 1,Value.slice (some ⟨w.heap.size+1+1,0,none⟩) 1 1,Value.slice (some ⟨w.heap.size+1+1+1,0,none⟩) 2 2,Value.slice (some ⟨w.heap.size+1+1+1+1,0,none⟩) 2 2,Value.slice (some ⟨w.heap.size+1+1+1+1+1,0,none⟩) 2 2,Value.slice (some ⟨w.heap.size+1+1+1+1+1+1,0,none⟩) 3 3,Value.slice (some ⟨w.heap.size+1+1+1+1+1+1+1,0,none⟩) 1 1,Value.slice (some ⟨w.heap.size+1+1+1+1+1+1+1+1,0,none⟩) 2 2,Value.slice (some ⟨w.heap.size+1+1+1+1+1+1+1+1+1,0,none⟩) 1 1,Value.slice (some ⟨w.heap.size+1+1+1+1+1+1+1+1+1+1,0,none⟩) 3 3,Value.slice (some ⟨w.heap.size+1+1+1+1+1+1+1+1+1+1+1,0,none⟩) 1 1,Value.slice (some ⟨w.heap.size+1+1+1+1+1+1+1+1+1+1+1+1,0,none⟩) 1 1]:List Value)[m]'(by simpa using hm2)=.slice (some ⟨w.heap.size+m,0,none⟩) (ownL m).length (ownL m).length:=by
  match m,hm2 with
  |0,_=>rfl
  |1,_=>rfl
  |2,_=>rfl
  |3,_=>rfl
  |4,_=>rfl
  |5,_=>rfl
  |6,_=>rfl
  |7,_=>rfl
  |8,_=>rfl
  |9,_=>rfl
  |10,_=>rfl
  |11,_=>rfl
  |12,_=>rfl
 have hcs:=allocs_cs [Obj.cells #[] 9,Obj.cells #[Value.string {data:= #[97]}] 9,Obj.cells #[Value.string {data:= #[98]}] 9,Obj.cells #[Value.string {data:= #[99]},Value.string {data:= #[98]}] 9,Obj.cells #[Value.string {data:= #[42]},Value.string {data:= #[119]}] 9,Obj.cells #[Value.string {data:= #[120]},Value.string {data:= #[119]}] 9,Obj.cells #[Value.string {data:= #[101]},Value.string {data:= #[102]},Value.string {data:= #[103]}] 9,Obj.cells #[Value.string {data:= #[115,117,98]}] 9,Obj.cells #[Value.string {data:= #[110,115]},Value.string {data:= #[115,117,98]}] 9,Obj.cells #[Value.string {data:= #[65]}] 9,Obj.cells #[Value.string {data:= #[100,101,101,112]},Value.string {data:= #[120]},Value.string {data:= #[119]}] 9,Obj.cells #[Value.string {data:= #[122]}] 9,Obj.cells #[Value.string {data:= #[42]}] 9,.cells #[Value.slice (some ⟨w.heap.size,0,none⟩) 0 0,Value.slice (some ⟨w.heap.size+1,0,none⟩) 1 1,Value.slice (some ⟨w.heap.size+1+1,0,none⟩) 1 1,Value.slice (some ⟨w.heap.size+1+1+1,0,none⟩) 2 2,Value.slice (some ⟨w.heap.size+1+1+1+1,0,none⟩) 2 2,Value.slice (some ⟨w.heap.size+1+1+1+1+1,0,none⟩) 2 2,Value.slice (some ⟨w.heap.size+1+1+1+1+1+1,0,none⟩) 3 3,Value.slice (some ⟨w.heap.size+1+1+1+1+1+1+1,0,none⟩) 1 1,Value.slice (some ⟨w.heap.size+1+1+1+1+1+1+1+1,0,none⟩) 2 2,Value.slice (some ⟨w.heap.size+1+1+1+1+1+1+1+1+1,0,none⟩) 1 1,Value.slice (some ⟨w.heap.size+1+1+1+1+1+1+1+1+1+1,0,none⟩) 3 3,Value.slice (some ⟨w.heap.size+1+1+1+1+1+1+1+1+1+1+1,0,none⟩) 1 1,Value.slice (some ⟨w.heap.size+1+1+1+1+1+1+1+1+1+1+1+1,0,none⟩) 1 1] 28] w m ((ownL m).map strV) 9 (by
  match m,hm2 with
  |0,_=>rfl
  |1,_=>rfl
  |2,_=>rfl
  |3,_=>rfl
  |4,_=>rfl
  |5,_=>rfl
  |6,_=>rfl
  |7,_=>rfl
  |8,_=>rfl
  |9,_=>rfl
  |10,_=>rfl
  |11,_=>rfl
  |12,_=>rfl)
 have hbw:=allocs_below [Obj.cells #[] 9,Obj.cells #[Value.string {data:= #[97]}] 9,Obj.cells #[Value.string {data:= #[98]}] 9,Obj.cells #[Value.string {data:= #[99]},Value.string {data:= #[98]}] 9,Obj.cells #[Value.string {data:= #[42]},Value.string {data:= #[119]}] 9,Obj.cells #[Value.string {data:= #[120]},Value.string {data:= #[119]}] 9,Obj.cells #[Value.string {data:= #[101]},Value.string {data:= #[102]},Value.string {data:= #[103]}] 9,Obj.cells #[Value.string {data:= #[115,117,98]}] 9,Obj.cells #[Value.string {data:= #[110,115]},Value.string {data:= #[115,117,98]}] 9,Obj.cells #[Value.string {data:= #[65]}] 9,Obj.cells #[Value.string {data:= #[100,101,101,112]},Value.string {data:= #[120]},Value.string {data:= #[119]}] 9,Obj.cells #[Value.string {data:= #[122]}] 9,Obj.cells #[Value.string {data:= #[42]}] 9,.cells #[Value.slice (some ⟨w.heap.size,0,none⟩) 0 0,Value.slice (some ⟨w.heap.size+1,0,none⟩) 1 1,Value.slice (some ⟨w.heap.size+1+1,0,none⟩) 1 1,Value.slice (some ⟨w.heap.size+1+1+1,0,none⟩) 2 2,Value.slice (some ⟨w.heap.size+1+1+1+1,0,none⟩) 2 2,Value.slice (some ⟨w.heap.size+1+1+1+1+1,0,none⟩) 2 2,Value.slice (some ⟨w.heap.size+1+1+1+1+1+1,0,none⟩) 3 3,Value.slice (some ⟨w.heap.size+1+1+1+1+1+1+1,0,none⟩) 1 1,Value.slice (some ⟨w.heap.size+1+1+1+1+1+1+1+1,0,none⟩) 2 2,Value.slice (some ⟨w.heap.size+1+1+1+1+1+1+1+1+1,0,none⟩) 1 1,Value.slice (some ⟨w.heap.size+1+1+1+1+1+1+1+1+1+1,0,none⟩) 3 3,Value.slice (some ⟨w.heap.size+1+1+1+1+1+1+1+1+1+1+1,0,none⟩) 1 1,Value.slice (some ⟨w.heap.size+1+1+1+1+1+1+1+1+1+1+1+1,0,none⟩) 1 1] 28] w
 simp only[List.foldl_cons,List.foldl_nil]at hcs hbw;have hbw1:=hbw.1;have hol:=ownL_len m;have HCS:=hid hcs;have HBW:=hid hbw1;have HBZ:=hid hbw1.size;clear hcs hbw hbw1;have HAP:Hid (∀W,Calls prog 13 #[] W fun e w'=>∃v,e=.returned v∧w'.ownsRow W.heap.size 9 1 v 1 ([exL].map strV)∧Below W.heap.size W w'):=hid Apex;go_enter func22,ntmps22
 go_wp2_with (first|(at_builtin;refine wpList_names (B:=w.heap.size) (v:=.slice none 0 0) (n:=0) (xs:=[]) (World.ownsRow_nil _ _ _ _) HBZ.out HCS.out rfl _ _ underlying28 rfl rfl rfl (by omega) ?_;intro v1 w1 hown1 hb1))
 rw[Nat.zero_add,List.nil_append]at hown1;have hbw1:=HBW.out.trans hb1;clear htab HCS;generalize hol2:ownL m=l at *;have HO:=hid hol2;clear hol2;clear hb1 HBW HBZ;refine(HAP.out _).mono ?_;rintro e w2 ⟨v2,rfl,hown2,hb2⟩;obtain⟨A2,c2,rfl,_,hcs2⟩:=Cs.of_own hown2;have hown12:=own_below hown1 hb2;have hb12:=hbw1.trans (hb2.mono hbw1.size);have HC2:=hid hcs2;clear hown2 hcs2 hown1
 go_wp2_with (first|(at_builtin;refine wpList_names hown12 hb12.size (s:=[exL]) HC2.out rfl _ _ underlying28 rfl rfl rfl (by simp;omega) ?_;intro v3 w3 hown3 hb3))
 go_ret;refine⟨_,rfl, ?_,hb12.trans hb3⟩;rw[HO.out,List.length_append];exact hown3
def typeK:Nat→Nat
 |0=>1
 |1=>1
 |2=>28
 |3=>15
 |4=>16
 |5=>2
 |6=>5
 |7=>43
 |8=>6
 |_=>99
theorem TypeC(k:Nat)(hk:k < 256)(w:World):Calls prog 23 #[.int .u8 k] w fun e w'=>e=.returned (.int .u16 (typeK (k %10)))∧Below w.heap.size w w':=by
 obtain⟨m,hm,hm2⟩:∃m,k %10=m∧m < 10:=⟨_,rfl,Nat.mod_lt _ (by omega)⟩
 have hrem:((k:Int).tmod 10)=m:=by rw[Int.tmod_eq_emod_of_nonneg (by omega)];omega
 rw[hm];clear hm;have hcase:m=0∨m=1∨m=2∨m=3∨m=4∨m=5∨m=6∨m=7∨m=8∨m=9:=by omega
 rcases hcase with rfl|rfl|rfl|rfl|rfl|rfl|rfl|rfl|rfl|rfl
 all_goals
  go_enter func23,ntmps23;go_wp2_with fail;go_ret;exact⟨rfl,bAl⟩
def b8(n:Nat):UInt8:=UInt8.ofNat n
def dataP:Nat→Nat→Lab
 |1,k=>[10,0,0,b8 (k %4)]
 |16,k=>[2,104,b8 (97+k %4)]
 |43,k=>[0,b8 (k %3),253,2,1,2,3]
 |_,k=>[b8 k]
theorem byte8{n:Nat}(h:n < 256):byteV (b8 n)=.int .u8 n:=byteV_lt h
theorem Data1(k:Nat)(hk:k < 256)(w:World):Calls prog 92 #[.int .u16 1,.int .u8 k] w fun e w'=>∃v,e=.returned v∧w'.ownsRow w.heap.size 5 1 v 4 ((dataP 1 k).map byteV)∧Below w.heap.size w w':=by
 obtain⟨m,hm,hm2⟩:∃m,k %4=m∧m < 4:=⟨_,rfl,Nat.mod_lt _ (by omega)⟩
 have hrem:((k:Int).tmod 4)=m:=by rw[Int.tmod_eq_emod_of_nonneg (by omega)];omega
 have HD:Hid ((dataP 1 k).map byteV=[.int .u8 10,.int .u8 0,.int .u8 0,.int .u8 m]):=hid (by
  show List.map byteV [10,0,0,b8 (k %4)]=_;rw[hm];have:=byte8 (n:=m) (by omega);simp only[List.map_cons,List.map_nil,this];rfl)
 clear hm;go_enter func92,ntmps92;go_wp2_with fail;go_ret;refine⟨_,rfl, ?_,bAl⟩;rw[HD.out];exact own_rowC w w.heap.size 5 _ (Nat.le_refl _) (by simp)
theorem Data16(k:Nat)(hk:k < 256)(w:World):Calls prog 92 #[.int .u16 16,.int .u8 k] w fun e w'=>∃v,e=.returned v∧w'.ownsRow w.heap.size 5 1 v 3 ((dataP 16 k).map byteV)∧Below w.heap.size w w':=by
 obtain⟨m,hm,hm2⟩:∃m,k %4=m∧m < 4:=⟨_,rfl,Nat.mod_lt _ (by omega)⟩
 have hrem:((k:Int).tmod 4)=m:=by rw[Int.tmod_eq_emod_of_nonneg (by omega)];omega
 have HD:Hid ((dataP 16 k).map byteV=[.int .u8 2,.int .u8 104,.int .u8 (97+(m:Int))]):=hid (by
  show List.map byteV [2,104,b8 (97+k %4)]=_;rw[hm];have:=byte8 (n:=97+m) (by omega);simp only[List.map_cons,List.map_nil,this];rfl)
 clear hm;go_enter func92,ntmps92;go_wp2_with fail;go_ret;refine⟨_,rfl, ?_,bAl⟩;rw[HD.out];exact own_rowC w w.heap.size 5 _ (Nat.le_refl _) (by simp)
theorem Data43(k:Nat)(hk:k < 256)(w:World):Calls prog 92 #[.int .u16 43,.int .u8 k] w fun e w'=>∃v,e=.returned v∧w'.ownsRow w.heap.size 5 1 v 7 ((dataP 43 k).map byteV)∧Below w.heap.size w w':=by
 obtain⟨m,hm,hm2⟩:∃m,k %3=m∧m < 3:=⟨_,rfl,Nat.mod_lt _ (by omega)⟩
 have hrem:((k:Int).tmod 3)=m:=by rw[Int.tmod_eq_emod_of_nonneg (by omega)];omega
 have HD:Hid ((dataP 43 k).map byteV=[.int .u8 0,.int .u8 m,.int .u8 253,.int .u8 2,.int .u8 1,.int .u8 2,.int .u8 3]):=hid (by
  show List.map byteV [0,b8 (k %3),253,2,1,2,3]=_;rw[hm];have:=byte8 (n:=m) (by omega);simp only[List.map_cons,List.map_nil,this];rfl)
 clear hm;go_enter func92,ntmps92;go_wp2_with fail;go_ret;refine⟨_,rfl, ?_,bAl⟩;rw[HD.out];exact own_rowC w w.heap.size 5 _ (Nat.le_refl _) (by simp)
theorem Data99(k:Nat)(hk:k < 256)(w:World):Calls prog 92 #[.int .u16 99,.int .u8 k] w fun e w'=>∃v,e=.returned v∧w'.ownsRow w.heap.size 5 1 v 1 ((dataP 99 k).map byteV)∧Below w.heap.size w w':=by
 have HD:Hid ((dataP 99 k).map byteV=[.int .u8 k]):=hid (by
  have:=byte8 hk;show[byteV (b8 k)]=_;rw[this])
 go_enter func92,ntmps92;go_wp2_with fail;go_ret;refine⟨_,rfl, ?_,bAl⟩;rw[HD.out];exact own_rowC w w.heap.size 5 _ (Nat.le_refl _) (by simp)
theorem yield_text{ops:Array Oper}{o:Oper}{a:Act}{W:World}{R:Value→World→Prop}(hgd:o.guard=none)(sl x:Operand)
 (ho:o.op=.call {callee:=.builtin .append,args:= #[sl,x],argTypes:= #[37,9]}) {B:Nat} {v:Value} {n:Nat} {xs s:Lab} (hs:a.eval sl=v) (hown:W.ownsRow B 5 1 v n (xs.map byteV)) (hB:B≤W.heap.size)
 (hx:a.eval x=.string (strB s)) (hn:n+s.length≤1000000000)
 (h:∀v' W',W'.ownsRow B 5 1 v' (n+s.length) ((xs++s).map byteV)→Below B W W'→R v' W'):opYield prog ops o a W R:=by
 obtain⟨i0,hi,hz0,hz1,hz2⟩:=info_parts info_u8;have hw:Region.wanted o (yielded ops a.tmps)=true:=by simp[Region.wanted,hgd]
 rw[opYield_def,if_pos hw];obtain⟨v',w',hr,h2,h3,_⟩:=Lib.run_append_own_string (P:=prog) W B 37 9 o.type 5 i0 underlying37 underlying9 hi hz0 hz1 hz2 v n _ hown (strB s) (by rw[strB_size];unfold maxLen;omega) (by rw[strB_size];omega) hB;unfold execOp
 simp only[ho,resolve,invoke,builtin,Sem.run_bind,Sem.run_pure,Result.andThen_ok,List.map_toArray,List.map_cons,List.map_nil,hs,hx,hr];rw[strB_size]at h2;have e:xs.map byteV++Lib.strCells (strB s)=(xs++s).map byteV:=by
  rw[List.map_append];unfold Lib.strCells;simp[strB,byteV]
 rw[e]at h2;exact h v' w' h2 ((Below.refl _ _).grown h3 hB (fun k hk=>(hown.lt k hk).1))
theorem wrap8'(a:Int):IntKind.u8.wrap a=a %256:=by simp[IntKind.wrap,IntKind.signed,IntKind.bits]
theorem ownC(w:World)(B:Nat)(e:TypeId)(xs:List Value)(hB:B≤w.heap.size)(hl:xs.length≤1000):(w.alloc (.cells xs.toArray e)).ownsRow B e 1 (.slice (some ⟨w.heap.size,0,none⟩) xs.length xs.length) xs.length xs:=
 ⟨by simp,.inr ⟨w.heap.size,xs.length,xs.toArray,rfl,hB,heap_alloc_new w _,Nat.le_refl _,by unfold maxLen;omega,by simp,by simp⟩⟩
theorem RWire(A:Option Addr)(n:List Lab)(cap:Nat)(w:World)(hc:Cs w A (n.map strV))(hf:Small n):
 Calls prog 139 #[.slice A n.length cap] w fun e w'=>∃v,e=.returned v∧w'.ownsRow w.heap.size 5 1 v (wire n).length ((wire n).map byteV)∧Below w.heap.size w w':=by
 obtain⟨i0,hi,hz0,hz1,hz2⟩:=info_parts info_u8;have HF:=hid hf;have hnl:=hf.1;clear hf;go_enter func139,ntmps139;go_wp2_with fail
 go_loopw [3,4] (WireR n w) (fun _ i _=>n.length - (intOf i).toNat)
 case atStart=>exact⟨0,Nat.zero_le _,rfl,World.ownsRow_nil _ _ _ _,Below.refl _ _⟩
 case round=>
  obtain⟨k,hk,rfl,hown,hbel⟩:=hrel;have hw6:(wires (n.take k)).length≤1001000:=wires_few (HF.out.take k);by_cases hlt:k < n.length
  ·obtain⟨bk,off,rfl,hbl,hc0⟩:=Cs.str hc hlt;have hc1:=(hbel.cell (p:=⟨bk,off+k,none⟩) hbl).trans hc0;have hl6:n[k].length≤1000:=HF.out.2 n[k] (List.getElem_mem hlt);have HN:Hid (wires (n.take (k+1))=wires (n.take k)++([UInt8.ofNat n[k].length]++n[k])):=hid (wires_take hlt);have hsz:=strB_size n[k];have hbv:=byte_len n[k];generalize n[k]=l at *;generalize hwk:wires (n.take k)=xs at *
   have HB:=hid hbv;clear hwk hbv;go_wp2_with fail;have hB0:=hbel.size;refine wp_region_x (by kernel_rfl) (by kernel_rfl) w.heap.size hB0 [.c (.is u3),.c (.is (.slice (some ⟨bk,off,none⟩) n.length cap)),.c (.is (.int .i64 k)),.c (.is (.pointer (some ⟨bk,off+k,none⟩))),.c (.is (.string (strB l))),.c (.is (.int .i64 l.length)),.c (.is (.int .u8 ((l.length:Int) %256))),
    .c (.own w.heap.size 5 1 1 [.int .u8 ((l.length:Int) %256)]),.c (.own w.heap.size 5 1 (xs.length+1) ((xs++[UInt8.ofNat l.length]).map byteV)),.c (.is (.slice (some ⟨bk,off,none⟩) n.length cap)),.c (.is (.int .i64 k)),.c (.is (.pointer (some ⟨bk,off+k,none⟩))),.c (.is (.string (strB l))),
    .c (.own w.heap.size 5 1 (xs.length+1+l.length) ((xs++[UInt8.ofNat l.length]++l).map byteV)),.d [13] (fun vs=>.is (vs 13))] (by kernel_rfl) (fun i=>if i=8∨i=13 then 3 else 0) (fun j=>if j=7∨j=8∨j=13 then 3 else 0) (by kernel_rfl) ?_
    (fun W=>W.ownsRow w.heap.size 5 1 u3 xs.length (xs.map byteV)) hown (fun W W' hE h=>own_below h hE) (fun W W' hE h=>Kept.row h (Kept.of_below hE) (fun b hb e=>by have:=(hown.lt b hb).2;omega)) ?_ ?_
   ·intro j vals;rcases j with _|_|_|_|_|_|_|_|_|_|_|_|_|_|_|j
    all_goals first
     |exact plain_is _
     |exact trivial
     |(rw[if_neg (by omega)];exact plain_any)
   ·intro i o hio vals W hC haf hI0;have hc2:=(hC.cell (p:=⟨bk,off+k,none⟩) hbl).trans hc1;have hBW:=Nat.le_trans hB0 hC.size;rcases i with _|_|_|_|_|_|_|_|_|_|_|_|_|_|_|i
    all_goals first
     |(exfalso;simp at hio;done)
     |skip
    all_goals
     simp at hio;subst hio;simp[bindD,rdB,Region.binds,dfAt,DF.d_at]at haf
    all_goals first
     |(simp[opU,go_sem,haf,hc2,hsz,hlt,hnl,Ext.refl,dfAt,DF.d_at,kindX];done)
     |skip
    ·simp[opU,go_sem,haf,Ext.refl,dfAt,DF.d_at,kindX,wrap8']
    ·simp[opU,go_sem,haf,dfAt,DF.d_at,kindX];exact⟨bAl,ownC W w.heap.size 5 [.int .u8 ((l.length:Int) %256)] hBW (by simp)⟩
    ·obtain⟨h0,h7⟩:=haf;have hI:=hI0 (fun k hk hk2=>by
      by_cases h8:k=8
      ·exact .inl h8
      ·by_cases h13:k=13
       ·subst h13;exact .inr (by kernel_rfl)
       ·exfalso;simp[h8,h13]at hk2)
     obtain⟨A7,c7,e7,_,hc7⟩:=Cs.of_own h7;refine yield_bytes rfl (.tmp 11) (.tmp 18) underlying37 rfl (v:=u3) (by simp[relAct,dstAt,Act.put,Act.eval,h0]) hI hBW (us:=[.int .u8 ((l.length:Int) %256)]) (A:=A7) (c:=c7) (by simp[relAct,dstAt,Act.put,Act.eval,e7]) hc7 (by simp[Value.oneCell']) (by simp;omega) ?_;intro v' W' g1 g2;refine⟨g2, ?_⟩
     show W'.ownsRow w.heap.size 5 1 v' (xs.length+1) ((xs++[UInt8.ofNat l.length]).map byteV);rw[List.map_append,List.map_cons,HB.out];exact g1
    ·obtain⟨h8,h12⟩:=haf;refine yield_text rfl (.tmp 19) (.tmp 23) rfl (v:=vals 8) (n:=xs.length+1) (xs:=xs++[UInt8.ofNat l.length]) (s:=l) (by simp[relAct,dstAt,Act.put,Act.eval]) (by simpa[List.map_append]using h8) hBW (by simp[relAct,dstAt,Act.put,Act.eval,h12]) (by omega) ?_;intro v' W' g1 g2;exact⟨g2,g1⟩
   ·intro vals W hE hF;have h13:=hF 13 (by show 13 < 15;omega) (by kernel_rfl);have h14:=hF 14 (by show 14 < 15;omega) (by kernel_rfl);simp[dfAt,DF.d_at]at h13 h14;have hbw:=hbel.trans hE;simp[relAct,dstAt,Act.put];rw[h14];clear hF h14;generalize vals 13=v13 at *;go_wp2_with fail;refine⟨⟨k+1,by omega,by go_num, ?_,hbw⟩,by simp[intOf];omega⟩
    rw[HN.out,←List.append_assoc,List.length_append,List.length_append];simpa[List.map_append]using h13
  ·have hkl:k=n.length:=by omega
   rw[hkl,List.take_length]at hown hw6;clear hkl;have HW:Hid ((wire n).map byteV=(wires n).map byteV++[.int .u8 0]∧(wire n).length=(wires n).length+1):=hid (by unfold wire;rw[List.map_append,List.length_append];exact⟨rfl,rfl⟩)
   go_wp2_with (first
    |(at_builtin;refine wpList_push2 hown hbel.size [.int .u8 0] rfl (by simp[Value.oneCell']) hi hz0 hz1 hz2 rfl (by decide) rfl _ _ 37 underlying37 rfl rfl rfl (by unfold maxLen;omega) (by omega) ?_;intro v4 w4 hown4 hbw4;have hbw5:=hbel.trans hbw4))
   go_ret;exact⟨_,rfl,by rw[HW.out.1,HW.out.2];exact hown4,hbw5⟩
end Nm
end Go.Proofs.YtmbdoacafhljkaaGreat
