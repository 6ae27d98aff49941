/- Part of the proof: what the last text builds on. No condition stands here. -/
import Derived.Test.YtibphjonmikciaaGreatDoorProg
import Derived.Test.YtibphjonmikciaaGreatDoorRows
import Derived.Test.YtibphjonmikciaaGreatDoorCards
import Derived.Test.YtibphjonmikciaaGreatDoorTie
import Derived.Test.YtibphjonmikciaaGreatDoorOb3
set_option linter.unusedSimpArgs false
set_option linter.unusedVariables false
section
namespace Go.Av
section
variable {P:Program} {ops:Array Oper}
structure EvC(ev:Operand→D):Prop where
 const: ∀v,ev (.const v)=D.ofValue v
 func: ∀f,ev (.func f)= .fn (.func f) [] []
def A98(P:Program)(ops:Array Oper)(vals:Nat→D)(B:Heap)(E0:FEnv):Prop:=∀i o,ops[i]? =some o→o.guard=none∧∀F:FEnv,(∀j oj,ops[j]? =some oj→j∈J1 o→∀t,oj.dst=some t→F t=vals j)→(∀t,(ops.toList.all fun oj=>oj.dst != some t)=true→F t=E0 t)→
 D0 P F.ev B (Fin fun d H=>d=vals i∧H=B) o.op
structure C2e(ops:Array Oper)(vals:Nat→D)(E0:FEnv)(l:Array Bool)(F:FEnv):Prop where
 size:l.size=ops.size
 set: ∀j oj,ops[j]? =some oj→l.getD j false=true→∀t,oj.dst=some t→F t=vals j
 els: ∀t,(ops.toList.all fun oj=>oj.dst != some t)=true→F t=E0 t
theorem B3s{N:Nat}{w0:World}{H0 B:Heap}{vals:Nat→D}{E0:FEnv}{Q:Exit→Act→World→Prop}(hd: ∀o∈ops.toList,∀t,o.dst=some t→t<N)(hdis: ∀(i j:Nat) (oi oj:Oper),ops[i]? =some oi→ops[j]? =some oj→∀t,oi.dst=some t→oj.dst=some t→i=j)
  (hfix:A98 P ops vals B E0) (hall: ∀l:Array Bool,l.size=ops.size→Region.ready .any ops l= []→∀i,i<ops.size→l.getD i false=true)
  (hQ: ∀F a w,StO N w0 H0 F B a w→C2e ops vals E0 (Array.replicate ops.size true) F→Q .normal a w): ∀(fuel:Nat) (listed:Array Bool) (F:FEnv) (a:Act) (w:World),
  (listed.toList.filter (!·)).length≤fuel→C2e ops vals E0 listed F→StO N w0 H0 F B a w→Go.wpAny P .any ops Q fuel listed a w:=by
 have fin: ∀(l:Array Bool) (F:FEnv) (a:Act) (w:World),C2e ops vals E0 l F→StO N w0 H0 F B a w→Region.ready .any ops l= []→Q .normal a w:=fun l F a w I hst h0=>by
  refine hQ F a w hst ⟨by simp,fun j oj hj _=>I.set j oj hj (hall l I.size h0 j (C9o.1 hj).1),I.els⟩
 intro fuel
 induction fuel with
 |zero=>
  intro l F a w hc I hst
  have hr:Region.ready .any ops l= []:=by
   cases hr:Region.ready .any ops l with
   |nil=>rfl
   |cons i r=>
    exfalso
    obtain⟨h1,o,ho,_⟩:=A1M (by rw[hr];exact C9a .. :i∈Region.ready .any ops l)
    have hi:=(C9o.1 ho).1
    have:=I.size
    have hl:l.toList[i]? =some false:=by
     have:i<l.size:=by omega
     simp[this]at h1⊢;exact h1
    have hm:false∈l.toList.filter (!·):=List.mem_filter.2 ⟨C9w hl,rfl⟩
    have:=List.length_pos_of_mem hm
    omega
  exact⟨hr,fin l F a w I hst hr⟩
 |succ n ih=>
  intro l F a w hc I hst
  refine⟨fun h0=>fin l F a w I hst h0,fun i hi=>?_⟩
  obtain⟨hu,o,ho,hdp⟩:=A1M hi
  have hi7:=(C9o.1 ho).1
  have hls:=I.size
  have hil:i<l.size:=by omega
  obtain⟨hg,hop⟩:=hfix i o ho
  have hmem:o∈ops.toList:=by rw[C94];exact Array.mem_of_getElem? ho
  unfold Go.wpOp
  split
  ·rename_i hn;rw[hn]at ho;cases ho
  ·rename_i o' ho'
   rw[ho]at ho';cases ho'
   rw[if_pos (by simp[Region.wanted,hg])]
   refine .inl (opSem.wp ((N0 (o:=o) hst.sat hst.evR (hop F (fun j oj hj hm t ht=>I.set j oj hj (hdp j hm) t ht) I.els)).mono fun v w' hp=>?_))
   obtain⟨d,H',hR,hS,hE,hF,hk⟩:=hp
   unfold Fin at hk
   obtain⟨H2,d2,hsh,hd2,hH2⟩:=hk
   rw[hd2,hH2]at hsh
   obtain⟨k1,k2,k3⟩:=hsh w' v hR hS
   have hE2:Ext H0 w0 w':=hst.ext.trans hst.frm hE
   refine ih _ (F.put o.dst (vals i)) _ _ ?_ ⟨by simpa using hls,fun j oj hj hm t ht=>?_,fun t ht=>?_⟩ ⟨?_,?_,fun s=>?_,k2,hE2,fun k hk hn=>k3 k ((hst.frm.trans hst.ext.size hF) k hk hn)⟩
   ·have key: ∀(m:List Bool) (i:Nat),m[i]? =some false→((m.set i true).filter (!·)).length+1=(m.filter (!·)).length:=by
     intro m
     induction m with
     |nil=>intro i h;simp at h
     |cons b m ih=>
      intro i h
      cases i with
      |zero=>simp at h;subst h;simp
      |succ i=>
       have:=ih i (by simpa using h)
       cases b<;>simp[List.set_cons_succ]<;>omega
    have hl:l.toList[i]? =some false:=by
     simp[hil]at hu⊢;exact hu
    have:=key l.toList i hl
    rw[Array.toList_setIfInBounds];omega
   ·by_cases e:i=j
    ·subst e
     rw[ho]at hj;cases hj
     rw[ht];simp[FEnv.put]
    ·have hne:o.dst≠some t:=fun e2=>e (hdis i j o oj ho hj t e2 ht)
     have hp:F.put o.dst (vals i) t=F t:=by
      cases hd':o.dst with
      |none=>rfl
      |some s=>
       have:s≠t:=fun e=>hne (by rw[hd',e])
       simp[FEnv.put,this]
     rw[hp]
     refine I.set j oj hj ?_ t ht
     rw[getD_set_ne false e]at hm;exact hm
   ·have hne:o.dst≠some t:=fun e=>by
     have:=C90.1 ht o hmem
     rw[e]at this;simp at this
    have hp:F.put o.dst (vals i) t=F t:=by
     cases hd':o.dst with
     |none=>rfl
     |some s=>
      have:s≠t:=fun e=>hne (by rw[hd',e])
      simp[FEnv.put,this]
    rw[hp];exact I.els t ht
   ·cases hdst:o.dst<;>simp[Act.put,hst.size]
   ·cases hdst:o.dst<;>simp[Act.put,hst.defers]
   ·have old: ∀s,R w' B (F s) (a.eval (.tmp s)):=fun s=>(hst.env s).mono hE (fun k hk hn=>k3 k (hF k hk hn))
    cases hdst:o.dst with
    |none=>exact old s
    |some t=>
     have ht:=hd o hmem t hdst
     simp only[FEnv.put]
     by_cases hti:t=s
     ·subst hti
      rw[if_pos rfl]
      have:(a.put (some t) v).eval (.tmp t)=v:=by
       have h':t<a.tmps.size:=by rw[hst.size];exact ht
       simp[Act.eval,Act.put,h']
      rw[this];exact k1
     ·rw[if_neg hti]
      have:(a.put (some t) v).eval (.tmp s)=a.eval (.tmp s):=by
       simp[Act.eval,Act.put,C93 hti]
      rw[this];exact old s
def C2f(ops:Array Oper):Bool:=(List.range ops.size).all fun i=>(List.range ops.size).all fun j=>i==j||((ops[i]?.bind (·.dst)).isNone||(ops[i]?.bind (·.dst)) != (ops[j]?.bind (·.dst)))
def B6B(ops:Array Oper):Bool:=(List.range ops.size).all fun i=>match ops[i]? with
 |some o=>(J1 o).all fun d=>decide (d<i)
 |none=>true
theorem B80(ht:B6B ops=true): ∀l:Array Bool,l.size=ops.size→Region.ready .any ops l= []→∀i,i<ops.size→l.getD i false=true:=by
 intro l hs h0 i
 induction i using Nat.strongRecOn with
 |_ i ih=>
  intro hi
  cases hc:l.getD i false with
  |true=>rfl
  |false=>
   exfalso
   have ho:ops[i]? =some ops[i]:=Array.getElem?_eq_getElem hi
   have h1:=C90.1 ht i (List.mem_range.2 hi)
   rw[ho]at h1
   have h2:l.getD i true=false:=by
    have:i<l.size:=by omega
    simp[this]at hc⊢;exact hc
   have:=A5x h2 ho fun d hd=>by
    have:=C90.1 h1 d hd
    simp only[C9l]at this
    exact ih d this (by omega)
   rw[h0]at this;cases this
theorem A2t{f:Nat}{fn:Func}{c:Code}{id:Nat}{args:List D}{H:Heap}{Q:D→Heap→Prop}(hm:P.follows .mixedOrders=true)(hf:P.funcs[f]? =some fn)(hb:fn.body=some (.seq c (.seq (.region id ops true) .ret)))(hbo:A2b P f=true)(hn:args.length≤fn.ntmps)
  (i t:Nat) (hrs:fn.results= #[.tmp t]) (hi:(ops[i]?.map (·.dst))=some (some t)) (hok:N6 P [] fn.ntmps c=true) (hd:(ops.toList.all fun o=>match o.dst with|some t=>decide (t<fn.ntmps)|none=>true)=true) (hdis:C2f ops=true) (htop:B6B ops=true)
  (h:wp P [] c (fun x E H'=>x= .normal∧∃vals:Nat→D,A98 P ops vals H' E.get∧Fin Q (vals i) H') (X5 0 args) H):ACalls P f args H Q:=by
 refine⟨hbo,fun w vs hl hR hs=>calls_of_wp hf hb ?_⟩
 have hst:St fn.ntmps w H (X5 0 args) H {tmps:=vs++Array.replicate (fn.ntmps-vs.size) undef,defers:=[]} w:=by
  refine⟨by simp;omega,rfl,fun i=>?_,hs,D0x _ _,D0w _ _⟩
  rw[u0,if_pos (C9k _),Nat.sub_zero]
  cases hi:args[i]? with
  |none=>exact .undef _
  |some d=>
   have hlt:=(C9Z.1 hi).1
   have:({tmps:=vs++Array.replicate (fn.ntmps-vs.size) undef,defers:=[]}:Act).eval (.tmp i)=vs.getD i undef:=by
    simp only[Act.eval]
    exact F5 (by omega)
   rw[this]
   exact hR i d hi
 refine Go.wp_seq (Go.wp_mono (t8 hm c _ _ _ _ _ hok h hst) fun e a w' he=>?_)
 cases e with
 |normal=>
  obtain⟨E,H',hst',_,vals,hq,hQ⟩:=he
  refine Go.wp_seq (wp_region_any hm ?_)
  have he:Ext H' w' {w' with drawn:=w'.drawn+1}:=Ext.drewN H' w' 1
  have hs1:=hst'.sat.same (w':={w' with drawn:=w'.drawn+1}) rfl he
  refine B3s (N:=fn.ntmps) (w0:=w) (H0:=H) (B:=H') (vals:=vals) (E0:=E.get) (fun o ho t ht=>?_) (fun i j oi oj hoi hoj t ht1 ht2=>?_) hq (B80 htop) (fun F a1 w1 hs2 I=>?_) ops.size _ E.get a _ ?_ ⟨by simp,fun j oj hj hm=>?_,fun _ _=>rfl⟩ ⟨hst'.size,hst'.defers,fun i=>(hst'.env i).mono he (D0w _ _),hs1,hst'.ext.trans hst'.frm he,hst'.frm⟩
  ·have:=C90.1 hd o ho
   rw[ht]at this
   simpa using this
  ·have hi1:=(C9o.1 hoi).1
   have hj1:=(C9o.1 hoj).1
   have:=C90.1 (C90.1 hdis i (List.mem_range.2 hi1)) j (List.mem_range.2 hj1)
   rw[hoi,hoj]at this
   simp only[C9t,ht1,ht2,Option.isNone_some,bne_self_eq_false,Bool.or_self,Bool.or_false,beq_iff_eq]at this
   exact this
  ·obtain⟨o,ho,hot⟩:=C9Y.1 hi
   have hF:F t=vals i:=I.set i o ho (by
    have:=(C9o.1 ho).1
    simp[this]) t hot
   unfold Fin at hQ
   obtain⟨H2,r',hsh,hQ⟩:=hQ
   have hst2:St fn.ntmps w H [(t,vals i)] H' a1 w1:=⟨hs2.size,hs2.defers,fun j=>by
    by_cases e:t=j
    ·subst e
     have:Env.get [(t,vals i)] t=vals i:=by simp[Env.get]
     rw[this,←hF];exact hs2.env t
    ·have:Env.get [(t,vals i)] j= .undef:=by simp[Env.get,e]
     rw[this];exact .undef _,hs2.sat,hs2.ext,hs2.frm⟩
   refine Go.wp_mono (t8 (P:=P) (Z:=[]) hm .ret (A9X P fn.results.toList Q) _ _ _ _ rfl ⟨vals i,by rw[hrs];simp[A2h,A0I,Env.get],H2,r',hsh,hQ⟩ hst2) fun x a w' he=>?_
   have fin: ∀(x:AX) (E:Env) (H':Heap) (a:Act) (w':World),(x= .normal∨x= .ret)→St fn.ntmps w H E H' a w'→A9X P fn.results.toList Q x E H'→
     a.defers= []∧∃v,(results fn a.tmps).run P w'= .ok v w'∧∃v',Ending.returned v= .returned v'∧Post H w Q v' w':=by
    intro x E H' a w' hx hst' hq
    have hq': ∃r,A2h P fn.results.toList E H'=some r∧∃H1 r',Shift H' r H1 r'∧Q r' H1:=by rcases hx with rfl|rfl<;>exact hq
    obtain⟨r,hr,H1,r',hle,hQ⟩:=hq'
    obtain⟨v,hv,hRv⟩:=A2B (P:=P) hst' hr
    obtain⟨k1,k2,k3⟩:=hle _ _ hRv hst'.sat
    exact⟨hst'.defers,v,hv,v,rfl,r',H1,k1,k2,hst'.ext,fun k hk hn=>k3 k (hst'.frm k hk hn),hQ⟩
   cases x with
   |normal=>obtain⟨E,H',hst',hq⟩:=he;exact fin .normal E H' a w' (.inl rfl) hst' hq
   |ret=>obtain⟨E,H',hst',hq⟩:=he;exact fin .ret E H' a w' (.inr rfl) hst' hq
   |exit id=>obtain⟨E,H',hst',hq⟩:=he;exact hq.elim
   |_=>exact he.elim
  ·have: ∀n:Nat,((Array.replicate n false).toList.filter (!·)).length≤n:=fun n=>by simp
   exact this _
  ·rw[show (Array.replicate ops.size false).getD j false=false by simp[Array.getElem?_replicate];split<;>simp]at hm
   cases hm
 |exit id=>obtain⟨E,H',hst',hq⟩:=he;exact absurd hq.1 (by simp)
 |ret=>obtain⟨E,H',hst',hq⟩:=he;exact absurd hq.1 (by simp)
 |_=>exact he.elim
end
end Go.Av
end
section
set_option maxRecDepth 20000
namespace Go.Proofs.YtibphjonmikciaaGreatDoor
open Go Go.Av
noncomputable def svOps:Array Oper:=match Tryz.f73.body with|some (.seq _ (.seq (.region _ ops _) _))=>ops|_=> #[]
theorem C2g{vals:Nat→D}{B:Av.Heap}{E0:FEnv}
  (h0: ∀ev:Operand→D,EvC ev→Av.D0 Tryz.prog ev B (Av.Fin fun d H=>d=vals 0∧H=B) (Go.Op.makeMap 72 none))
  (h1: ∀ev:Operand→D,EvC ev→ev (.tmp 5)=vals 0→Av.D0 Tryz.prog ev B (Av.Fin fun d H=>d=vals 1∧H=B) (Go.Op.build 150 #[(1,(Go.Operand.tmp 5))]))
  (h2: ∀ev:Operand→D,EvC ev→ev (.tmp 1)=E0 1→Av.D0 Tryz.prog ev B (Av.Fin fun d H=>d=vals 2∧H=B) (Go.Op.move (Go.Operand.tmp 1)))
  (h3: ∀ev:Operand→D,EvC ev→ev (.tmp 6)=vals 1→ev (.tmp 7)=vals 2→Av.D0 Tryz.prog ev B (Av.Fin fun d H=>d=vals 3∧H=B) (Go.Op.call {callee:=(Go.Callee.value (Go.Operand.func 123)),args:= #[(Go.Operand.tmp 6),(Go.Operand.tmp 7)],argTypes:= #[150,110]}))
  (h4: ∀ev:Operand→D,EvC ev→ev (.tmp 2)=E0 2→Av.D0 Tryz.prog ev B (Av.Fin fun d H=>d=vals 4∧H=B) (Go.Op.load 28 (Go.Operand.tmp 2)))
  (h5: ∀ev:Operand→D,EvC ev→ev (.tmp 9)=vals 4→Av.D0 Tryz.prog ev B (Av.Fin fun d H=>d=vals 5∧H=B) (Go.Op.call {callee:=(Go.Callee.value (Go.Operand.func 50)),args:= #[(Go.Operand.tmp 9),(Go.Operand.const (Go.Value.bool false))],argTypes:= #[28,4]}))
  (h6: ∀ev:Operand→D,EvC ev→ev (.tmp 10)=vals 5→Av.D0 Tryz.prog ev B (Av.Fin fun d H=>d=vals 6∧H=B) (Go.Op.buildSlice 26 1 #[(0,(Go.Operand.tmp 10))]))
  (h7: ∀ev:Operand→D,EvC ev→ev (.tmp 8)=vals 3→ev (.tmp 11)=vals 6→Av.D0 Tryz.prog ev B (Av.Fin fun d H=>d=vals 7∧H=B) (Go.Op.call {callee:=(Go.Callee.value (Go.Operand.func 124)),args:= #[(Go.Operand.tmp 8),(Go.Operand.tmp 11)],argTypes:= #[150,26]}))
  (h8: ∀ev:Operand→D,EvC ev→ev (.tmp 12)=vals 7→Av.D0 Tryz.prog ev B (Av.Fin fun d H=>d=vals 8∧H=B) (Go.Op.assign (Go.Operand.tmp 12)))
  :A98 Tryz.prog svOps vals B E0:=by
 obtain⟨x0,o0,d0,p0,g0,w0⟩: ∃o,svOps[0]? =some o∧o.dst=some 5∧o.op=(Go.Op.makeMap 72 none)∧o.guard=none∧(∀j∈([]:List Nat),j∈J1 o):=⟨_,rfl,rfl,rfl,rfl,by simp⟩
 obtain⟨x1,o1,d1,p1,g1,w1⟩: ∃o,svOps[1]? =some o∧o.dst=some 6∧o.op=(Go.Op.build 150 #[(1,(Go.Operand.tmp 5))])∧o.guard=none∧(∀j∈([0]:List Nat),j∈J1 o):=⟨_,rfl,rfl,rfl,rfl,by decide+kernel⟩
 obtain⟨x2,o2,d2,p2,g2,w2⟩: ∃o,svOps[2]? =some o∧o.dst=some 7∧o.op=(Go.Op.move (Go.Operand.tmp 1))∧o.guard=none∧(∀j∈([]:List Nat),j∈J1 o):=⟨_,rfl,rfl,rfl,rfl,by simp⟩
 obtain⟨x3,o3,d3,p3,g3,w3⟩: ∃o,svOps[3]? =some o∧o.dst=some 8∧o.op=(Go.Op.call {callee:=(Go.Callee.value (Go.Operand.func 123)),args:= #[(Go.Operand.tmp 6),(Go.Operand.tmp 7)],argTypes:= #[150,110]})∧o.guard=none∧(∀j∈([1,2]:List Nat),j∈J1 o):=⟨_,rfl,rfl,rfl,rfl,by decide+kernel⟩
 obtain⟨x4,o4,d4,p4,g4,w4⟩: ∃o,svOps[4]? =some o∧o.dst=some 9∧o.op=(Go.Op.load 28 (Go.Operand.tmp 2))∧o.guard=none∧(∀j∈([]:List Nat),j∈J1 o):=⟨_,rfl,rfl,rfl,rfl,by simp⟩
 obtain⟨x5,o5,d5,p5,g5,w5⟩: ∃o,svOps[5]? =some o∧o.dst=some 10∧o.op=(Go.Op.call {callee:=(Go.Callee.value (Go.Operand.func 50)),args:= #[(Go.Operand.tmp 9),(Go.Operand.const (Go.Value.bool false))],argTypes:= #[28,4]})∧o.guard=none∧(∀j∈([4]:List Nat),j∈J1 o):=⟨_,rfl,rfl,rfl,rfl,by decide+kernel⟩
 obtain⟨x6,o6,d6,p6,g6,w6⟩: ∃o,svOps[6]? =some o∧o.dst=some 11∧o.op=(Go.Op.buildSlice 26 1 #[(0,(Go.Operand.tmp 10))])∧o.guard=none∧(∀j∈([5]:List Nat),j∈J1 o):=⟨_,rfl,rfl,rfl,rfl,by decide+kernel⟩
 obtain⟨x7,o7,d7,p7,g7,w7⟩: ∃o,svOps[7]? =some o∧o.dst=some 12∧o.op=(Go.Op.call {callee:=(Go.Callee.value (Go.Operand.func 124)),args:= #[(Go.Operand.tmp 8),(Go.Operand.tmp 11)],argTypes:= #[150,26]})∧o.guard=none∧(∀j∈([3,6]:List Nat),j∈J1 o):=⟨_,rfl,rfl,rfl,rfl,by decide+kernel⟩
 obtain⟨x8,o8,d8,p8,g8,w8⟩: ∃o,svOps[8]? =some o∧o.dst=some 4∧o.op=(Go.Op.assign (Go.Operand.tmp 12))∧o.guard=none∧(∀j∈([7]:List Nat),j∈J1 o):=⟨_,rfl,rfl,rfl,rfl,by decide+kernel⟩
 have hs:svOps.size=9:=by kernel_rfl
 have n1:(svOps.toList.all fun oj=>oj.dst != some 1)=true:=by kernel_rfl
 have n2:(svOps.toList.all fun oj=>oj.dst != some 2)=true:=by kernel_rfl
 generalize svOps=ops at*
 intro i o ho
 have hi:i<9:=by have:=(C9o.1 ho).1;omega
 match i,hi with
 |0,_=>
  rw[o0]at ho;cases ho
  exact⟨g0,fun F hd he=>by rw[p0];exact h0 F.ev ⟨fun _=>rfl,fun _=>rfl⟩⟩
 |1,_=>
  rw[o1]at ho;cases ho
  exact⟨g1,fun F hd he=>by rw[p1];exact h1 F.ev ⟨fun _=>rfl,fun _=>rfl⟩ (hd 0 x0 o0 (w1 0 (by simp)) 5 d0)⟩
 |2,_=>
  rw[o2]at ho;cases ho
  exact⟨g2,fun F hd he=>by rw[p2];exact h2 F.ev ⟨fun _=>rfl,fun _=>rfl⟩ (he 1 n1)⟩
 |3,_=>
  rw[o3]at ho;cases ho
  exact⟨g3,fun F hd he=>by rw[p3];exact h3 F.ev ⟨fun _=>rfl,fun _=>rfl⟩ (hd 1 x1 o1 (w3 1 (by simp)) 6 d1) (hd 2 x2 o2 (w3 2 (by simp)) 7 d2)⟩
 |4,_=>
  rw[o4]at ho;cases ho
  exact⟨g4,fun F hd he=>by rw[p4];exact h4 F.ev ⟨fun _=>rfl,fun _=>rfl⟩ (he 2 n2)⟩
 |5,_=>
  rw[o5]at ho;cases ho
  exact⟨g5,fun F hd he=>by rw[p5];exact h5 F.ev ⟨fun _=>rfl,fun _=>rfl⟩ (hd 4 x4 o4 (w5 4 (by simp)) 9 d4)⟩
 |6,_=>
  rw[o6]at ho;cases ho
  exact⟨g6,fun F hd he=>by rw[p6];exact h6 F.ev ⟨fun _=>rfl,fun _=>rfl⟩ (hd 5 x5 o5 (w6 5 (by simp)) 10 d5)⟩
 |7,_=>
  rw[o7]at ho;cases ho
  exact⟨g7,fun F hd he=>by rw[p7];exact h7 F.ev ⟨fun _=>rfl,fun _=>rfl⟩ (hd 3 x3 o3 (w7 3 (by simp)) 8 d3) (hd 6 x6 o6 (w7 6 (by simp)) 11 d6)⟩
 |8,_=>
  rw[o8]at ho;cases ho
  exact⟨g8,fun F hd he=>by rw[p8];exact h8 F.ev ⟨fun _=>rfl,fun _=>rfl⟩ (hd 7 x7 o7 (w8 7 (by simp)) 12 d7)⟩
noncomputable def chOps:Array Oper:=match Tryz.f195.body with|some (.seq _ (.seq (.region _ ops _) _))=>ops|_=> #[]
theorem C2h{vals:Nat→D}{B:Av.Heap}{E0:FEnv}
  (h0: ∀ev:Operand→D,EvC ev→ev (.tmp 1)=E0 1→Av.D0 Tryz.prog ev B (Av.Fin fun d H=>d=vals 0∧H=B) (Go.Op.load 150 (Go.Operand.tmp 1)))
  (h1: ∀ev:Operand→D,EvC ev→ev (.tmp 3)=E0 3→Av.D0 Tryz.prog ev B (Av.Fin fun d H=>d=vals 1∧H=B) (Go.Op.load 28 (Go.Operand.tmp 3)))
  (h2: ∀ev:Operand→D,EvC ev→ev (.tmp 6)=vals 1→Av.D0 Tryz.prog ev B (Av.Fin fun d H=>d=vals 2∧H=B) (Go.Op.buildSlice 26 1 #[(0,(Go.Operand.tmp 6))]))
  (h3: ∀ev:Operand→D,EvC ev→ev (.tmp 2)=E0 2→Av.D0 Tryz.prog ev B (Av.Fin fun d H=>d=vals 3∧H=B) (Go.Op.load 26 (Go.Operand.tmp 2)))
  (h4: ∀ev:Operand→D,EvC ev→ev (.tmp 7)=vals 2→ev (.tmp 8)=vals 3→Av.D0 Tryz.prog ev B (Av.Fin fun d H=>d=vals 4∧H=B) (Go.Op.buildSlice 210 2 #[(0,(Go.Operand.tmp 7)),(1,(Go.Operand.tmp 8))]))
  (h5: ∀ev:Operand→D,EvC ev→ev (.tmp 9)=vals 4→Av.D0 Tryz.prog ev B (Av.Fin fun d H=>d=vals 5∧H=B) (Go.Op.call {callee:=(Go.Callee.value (Go.Operand.func 153)),args:= #[(Go.Operand.tmp 9)],argTypes:= #[210]}))
  (h6: ∀ev:Operand→D,EvC ev→ev (.tmp 5)=vals 0→ev (.tmp 10)=vals 5→Av.D0 Tryz.prog ev B (Av.Fin fun d H=>d=vals 6∧H=B) (Go.Op.call {callee:=(Go.Callee.value (Go.Operand.func 124)),args:= #[(Go.Operand.tmp 5),(Go.Operand.tmp 10)],argTypes:= #[150,26]}))
  (h7: ∀ev:Operand→D,EvC ev→ev (.tmp 11)=vals 6→Av.D0 Tryz.prog ev B (Av.Fin fun d H=>d=vals 7∧H=B) (Go.Op.assign (Go.Operand.tmp 11)))
  :A98 Tryz.prog chOps vals B E0:=by
 obtain⟨x0,o0,d0,p0,g0,w0⟩: ∃o,chOps[0]? =some o∧o.dst=some 5∧o.op=(Go.Op.load 150 (Go.Operand.tmp 1))∧o.guard=none∧(∀j∈([]:List Nat),j∈J1 o):=⟨_,rfl,rfl,rfl,rfl,by simp⟩
 obtain⟨x1,o1,d1,p1,g1,w1⟩: ∃o,chOps[1]? =some o∧o.dst=some 6∧o.op=(Go.Op.load 28 (Go.Operand.tmp 3))∧o.guard=none∧(∀j∈([]:List Nat),j∈J1 o):=⟨_,rfl,rfl,rfl,rfl,by simp⟩
 obtain⟨x2,o2,d2,p2,g2,w2⟩: ∃o,chOps[2]? =some o∧o.dst=some 7∧o.op=(Go.Op.buildSlice 26 1 #[(0,(Go.Operand.tmp 6))])∧o.guard=none∧(∀j∈([1]:List Nat),j∈J1 o):=⟨_,rfl,rfl,rfl,rfl,by decide+kernel⟩
 obtain⟨x3,o3,d3,p3,g3,w3⟩: ∃o,chOps[3]? =some o∧o.dst=some 8∧o.op=(Go.Op.load 26 (Go.Operand.tmp 2))∧o.guard=none∧(∀j∈([]:List Nat),j∈J1 o):=⟨_,rfl,rfl,rfl,rfl,by simp⟩
 obtain⟨x4,o4,d4,p4,g4,w4⟩: ∃o,chOps[4]? =some o∧o.dst=some 9∧o.op=(Go.Op.buildSlice 210 2 #[(0,(Go.Operand.tmp 7)),(1,(Go.Operand.tmp 8))])∧o.guard=none∧(∀j∈([2,3]:List Nat),j∈J1 o):=⟨_,rfl,rfl,rfl,rfl,by decide+kernel⟩
 obtain⟨x5,o5,d5,p5,g5,w5⟩: ∃o,chOps[5]? =some o∧o.dst=some 10∧o.op=(Go.Op.call {callee:=(Go.Callee.value (Go.Operand.func 153)),args:= #[(Go.Operand.tmp 9)],argTypes:= #[210]})∧o.guard=none∧(∀j∈([4]:List Nat),j∈J1 o):=⟨_,rfl,rfl,rfl,rfl,by decide+kernel⟩
 obtain⟨x6,o6,d6,p6,g6,w6⟩: ∃o,chOps[6]? =some o∧o.dst=some 11∧o.op=(Go.Op.call {callee:=(Go.Callee.value (Go.Operand.func 124)),args:= #[(Go.Operand.tmp 5),(Go.Operand.tmp 10)],argTypes:= #[150,26]})∧o.guard=none∧(∀j∈([0,5]:List Nat),j∈J1 o):=⟨_,rfl,rfl,rfl,rfl,by decide+kernel⟩
 obtain⟨x7,o7,d7,p7,g7,w7⟩: ∃o,chOps[7]? =some o∧o.dst=some 4∧o.op=(Go.Op.assign (Go.Operand.tmp 11))∧o.guard=none∧(∀j∈([6]:List Nat),j∈J1 o):=⟨_,rfl,rfl,rfl,rfl,by decide+kernel⟩
 have hs:chOps.size=8:=by kernel_rfl
 have n1:(chOps.toList.all fun oj=>oj.dst != some 1)=true:=by kernel_rfl
 have n2:(chOps.toList.all fun oj=>oj.dst != some 2)=true:=by kernel_rfl
 have n3:(chOps.toList.all fun oj=>oj.dst != some 3)=true:=by kernel_rfl
 generalize chOps=ops at*
 intro i o ho
 have hi:i<8:=by have:=(C9o.1 ho).1;omega
 match i,hi with
 |0,_=>
  rw[o0]at ho;cases ho
  exact⟨g0,fun F hd he=>by rw[p0];exact h0 F.ev ⟨fun _=>rfl,fun _=>rfl⟩ (he 1 n1)⟩
 |1,_=>
  rw[o1]at ho;cases ho
  exact⟨g1,fun F hd he=>by rw[p1];exact h1 F.ev ⟨fun _=>rfl,fun _=>rfl⟩ (he 3 n3)⟩
 |2,_=>
  rw[o2]at ho;cases ho
  exact⟨g2,fun F hd he=>by rw[p2];exact h2 F.ev ⟨fun _=>rfl,fun _=>rfl⟩ (hd 1 x1 o1 (w2 1 (by simp)) 6 d1)⟩
 |3,_=>
  rw[o3]at ho;cases ho
  exact⟨g3,fun F hd he=>by rw[p3];exact h3 F.ev ⟨fun _=>rfl,fun _=>rfl⟩ (he 2 n2)⟩
 |4,_=>
  rw[o4]at ho;cases ho
  exact⟨g4,fun F hd he=>by rw[p4];exact h4 F.ev ⟨fun _=>rfl,fun _=>rfl⟩ (hd 2 x2 o2 (w4 2 (by simp)) 7 d2) (hd 3 x3 o3 (w4 3 (by simp)) 8 d3)⟩
 |5,_=>
  rw[o5]at ho;cases ho
  exact⟨g5,fun F hd he=>by rw[p5];exact h5 F.ev ⟨fun _=>rfl,fun _=>rfl⟩ (hd 4 x4 o4 (w5 4 (by simp)) 9 d4)⟩
 |6,_=>
  rw[o6]at ho;cases ho
  exact⟨g6,fun F hd he=>by rw[p6];exact h6 F.ev ⟨fun _=>rfl,fun _=>rfl⟩ (hd 0 x0 o0 (w6 0 (by simp)) 5 d0) (hd 5 x5 o5 (w6 5 (by simp)) 10 d5)⟩
 |7,_=>
  rw[o7]at ho;cases ho
  exact⟨g7,fun F hd he=>by rw[p7];exact h7 F.ev ⟨fun _=>rfl,fun _=>rfl⟩ (hd 6 x6 o6 (w7 6 (by simp)) 11 d6)⟩
noncomputable def foOps:Array Oper:=match Tryz.f84.body with|some (.seq _ (.seq (.region _ ops _) _))=>ops|_=> #[]
theorem C2i{vals:Nat→D}{B:Av.Heap}{E0:FEnv}
  (h0: ∀ev:Operand→D,EvC ev→ev (.tmp 2)=E0 2→Av.D0 Tryz.prog ev B (Av.Fin fun d H=>d=vals 0∧H=B) (Go.Op.load 28 (Go.Operand.tmp 2)))
  (h1: ∀ev:Operand→D,EvC ev→ev (.tmp 3)=E0 3→Av.D0 Tryz.prog ev B (Av.Fin fun d H=>d=vals 1∧H=B) (Go.Op.load 28 (Go.Operand.tmp 3)))
  (h2: ∀ev:Operand→D,EvC ev→ev (.tmp 6)=vals 1→Av.D0 Tryz.prog ev B (Av.Fin fun d H=>d=vals 2∧H=B) (Go.Op.call {callee:=(Go.Callee.value (Go.Operand.func 50)),args:= #[(Go.Operand.tmp 6),(Go.Operand.const (Go.Value.bool true))],argTypes:= #[28,4]}))
  (h3: ∀ev:Operand→D,EvC ev→ev (.tmp 5)=vals 0→ev (.tmp 7)=vals 2→Av.D0 Tryz.prog ev B (Av.Fin fun d H=>d=vals 3∧H=B) (Go.Op.buildSlice 26 2 #[(0,(Go.Operand.tmp 5)),(1,(Go.Operand.tmp 7))]))
  (h4: ∀ev:Operand→D,EvC ev→ev (.tmp 8)=vals 3→Av.D0 Tryz.prog ev B (Av.Fin fun d H=>d=vals 4∧H=B) (Go.Op.build 28 #[(0,(Go.Operand.const (Go.Value.int Go.IntKind.i64 5))),(4,(Go.Operand.tmp 8))]))
  (h5: ∀ev:Operand→D,EvC ev→ev (.tmp 9)=vals 4→Av.D0 Tryz.prog ev B (Av.Fin fun d H=>d=vals 5∧H=B) (Go.Op.call {callee:=(Go.Callee.value (Go.Operand.func 73)),args:= #[(Go.Operand.tmp 9),(Go.Operand.const (Go.Value.slice none 0 0))],argTypes:= #[28,110]}))
  (h6: ∀ev:Operand→D,EvC ev→ev (.tmp 10)=vals 5→Av.D0 Tryz.prog ev B (Av.Fin fun d H=>d=vals 6∧H=B) (Go.Op.unOp Go.UnOp.not 4 (Go.Operand.tmp 10)))
  (h7: ∀ev:Operand→D,EvC ev→ev (.tmp 11)=vals 6→Av.D0 Tryz.prog ev B (Av.Fin fun d H=>d=vals 7∧H=B) (Go.Op.assign (Go.Operand.tmp 11)))
  :A98 Tryz.prog foOps vals B E0:=by
 obtain⟨x0,o0,d0,p0,g0,w0⟩: ∃o,foOps[0]? =some o∧o.dst=some 5∧o.op=(Go.Op.load 28 (Go.Operand.tmp 2))∧o.guard=none∧(∀j∈([]:List Nat),j∈J1 o):=⟨_,rfl,rfl,rfl,rfl,by simp⟩
 obtain⟨x1,o1,d1,p1,g1,w1⟩: ∃o,foOps[1]? =some o∧o.dst=some 6∧o.op=(Go.Op.load 28 (Go.Operand.tmp 3))∧o.guard=none∧(∀j∈([]:List Nat),j∈J1 o):=⟨_,rfl,rfl,rfl,rfl,by simp⟩
 obtain⟨x2,o2,d2,p2,g2,w2⟩: ∃o,foOps[2]? =some o∧o.dst=some 7∧o.op=(Go.Op.call {callee:=(Go.Callee.value (Go.Operand.func 50)),args:= #[(Go.Operand.tmp 6),(Go.Operand.const (Go.Value.bool true))],argTypes:= #[28,4]})∧o.guard=none∧(∀j∈([1]:List Nat),j∈J1 o):=⟨_,rfl,rfl,rfl,rfl,by decide+kernel⟩
 obtain⟨x3,o3,d3,p3,g3,w3⟩: ∃o,foOps[3]? =some o∧o.dst=some 8∧o.op=(Go.Op.buildSlice 26 2 #[(0,(Go.Operand.tmp 5)),(1,(Go.Operand.tmp 7))])∧o.guard=none∧(∀j∈([0,2]:List Nat),j∈J1 o):=⟨_,rfl,rfl,rfl,rfl,by decide+kernel⟩
 obtain⟨x4,o4,d4,p4,g4,w4⟩: ∃o,foOps[4]? =some o∧o.dst=some 9∧o.op=(Go.Op.build 28 #[(0,(Go.Operand.const (Go.Value.int Go.IntKind.i64 5))),(4,(Go.Operand.tmp 8))])∧o.guard=none∧(∀j∈([3]:List Nat),j∈J1 o):=⟨_,rfl,rfl,rfl,rfl,by decide+kernel⟩
 obtain⟨x5,o5,d5,p5,g5,w5⟩: ∃o,foOps[5]? =some o∧o.dst=some 10∧o.op=(Go.Op.call {callee:=(Go.Callee.value (Go.Operand.func 73)),args:= #[(Go.Operand.tmp 9),(Go.Operand.const (Go.Value.slice none 0 0))],argTypes:= #[28,110]})∧o.guard=none∧(∀j∈([4]:List Nat),j∈J1 o):=⟨_,rfl,rfl,rfl,rfl,by decide+kernel⟩
 obtain⟨x6,o6,d6,p6,g6,w6⟩: ∃o,foOps[6]? =some o∧o.dst=some 11∧o.op=(Go.Op.unOp Go.UnOp.not 4 (Go.Operand.tmp 10))∧o.guard=none∧(∀j∈([5]:List Nat),j∈J1 o):=⟨_,rfl,rfl,rfl,rfl,by decide+kernel⟩
 obtain⟨x7,o7,d7,p7,g7,w7⟩: ∃o,foOps[7]? =some o∧o.dst=some 4∧o.op=(Go.Op.assign (Go.Operand.tmp 11))∧o.guard=none∧(∀j∈([6]:List Nat),j∈J1 o):=⟨_,rfl,rfl,rfl,rfl,by decide+kernel⟩
 have hs:foOps.size=8:=by kernel_rfl
 have n2:(foOps.toList.all fun oj=>oj.dst != some 2)=true:=by kernel_rfl
 have n3:(foOps.toList.all fun oj=>oj.dst != some 3)=true:=by kernel_rfl
 generalize foOps=ops at*
 intro i o ho
 have hi:i<8:=by have:=(C9o.1 ho).1;omega
 match i,hi with
 |0,_=>
  rw[o0]at ho;cases ho
  exact⟨g0,fun F hd he=>by rw[p0];exact h0 F.ev ⟨fun _=>rfl,fun _=>rfl⟩ (he 2 n2)⟩
 |1,_=>
  rw[o1]at ho;cases ho
  exact⟨g1,fun F hd he=>by rw[p1];exact h1 F.ev ⟨fun _=>rfl,fun _=>rfl⟩ (he 3 n3)⟩
 |2,_=>
  rw[o2]at ho;cases ho
  exact⟨g2,fun F hd he=>by rw[p2];exact h2 F.ev ⟨fun _=>rfl,fun _=>rfl⟩ (hd 1 x1 o1 (w2 1 (by simp)) 6 d1)⟩
 |3,_=>
  rw[o3]at ho;cases ho
  exact⟨g3,fun F hd he=>by rw[p3];exact h3 F.ev ⟨fun _=>rfl,fun _=>rfl⟩ (hd 0 x0 o0 (w3 0 (by simp)) 5 d0) (hd 2 x2 o2 (w3 2 (by simp)) 7 d2)⟩
 |4,_=>
  rw[o4]at ho;cases ho
  exact⟨g4,fun F hd he=>by rw[p4];exact h4 F.ev ⟨fun _=>rfl,fun _=>rfl⟩ (hd 3 x3 o3 (w4 3 (by simp)) 8 d3)⟩
 |5,_=>
  rw[o5]at ho;cases ho
  exact⟨g5,fun F hd he=>by rw[p5];exact h5 F.ev ⟨fun _=>rfl,fun _=>rfl⟩ (hd 4 x4 o4 (w5 4 (by simp)) 9 d4)⟩
 |6,_=>
  rw[o6]at ho;cases ho
  exact⟨g6,fun F hd he=>by rw[p6];exact h6 F.ev ⟨fun _=>rfl,fun _=>rfl⟩ (hd 5 x5 o5 (w6 5 (by simp)) 10 d5)⟩
 |7,_=>
  rw[o7]at ho;cases ho
  exact⟨g7,fun F hd he=>by rw[p7];exact h7 F.ev ⟨fun _=>rfl,fun _=>rfl⟩ (hd 6 x6 o6 (w7 6 (by simp)) 11 d6)⟩
end Go.Proofs.YtibphjonmikciaaGreatDoor
end
section
namespace Go.Proofs.YtibphjonmikciaaGreatDoor
open Go Go.Shelf Go.RowKit Go.Maps
set_option maxHeartbeats 2000000 in
set_option maxRecDepth 100000 in
theorem A2X(b:Nat)(es:Array MapEntry)(clock:Nat)(w:World)(hb:w.heap[b]? =some (.map es clock)):
  Calls Tryz.prog 125 #[.map (some b)] w fun e w'=>e= .returned (.map (some w.heap.size))∧w'=w.alloc (.map es clock):=by
 have mixed:Tryz.prog.follows .mixedOrders=true:=by kernel_rfl
 have t4:=Tryz.underlying4;have a4:=Tryz.isAgg4;have z4:=Tryz.sizeOf4;have v4:=Tryz.zeroValue4
 have t20:=Tryz.underlying72;have a20:=Tryz.isAgg72;have z20:=Tryz.sizeOf72;have v20:=Tryz.zeroValue72
 have t23:=Tryz.underlying20;have a23:=Tryz.isAgg20;have z23:=Tryz.sizeOf20;have v23:=Tryz.zeroValue20
 have hq:=fun w=>run_eql_map_nil_sl (P:=Tryz.prog) w 72 _ _ (some b) t20
 go_enter Tryz.func125,Tryz.ntmps125
 go_wp2
 rw[run_callFunc_extern Tryz.func156 (by kernel_rfl) (by kernel_rfl) (by kernel_rfl) (e:=Extern.MapsClone.clone) (by kernel_rfl),run_maps_clone_sl w 72 hb]
 simp only[Result.andThen]
 rw[Oper.upon_value]
 go_wp2
 rw[run_typeAssert_map_sl _ 72 20 _ _ _ t20]
 simp only[Result.andThen]
 rw[Oper.upon_value]
 go_wp2
 go_ret
 exact⟨rfl,rfl⟩
open Go Go.Av
theorem A1N{Q}(kvs:List (D×D))(H:Av.Heap)(h: ∀b,H b=none→Q (.map b) (H.set b (.map kvs))):ACalls Tryz.prog 125 [.fm kvs] H Q:=by
 refine⟨by kernel_rfl,fun w vs hl hr hs=>?_⟩
 obtain⟨a,rfl,ha⟩:=A1i hl hr
 cases ha with
 |fm _ b es ck hb hn hst hlen hk hrk hrv=>
  refine(A2X b es ck w hb).mono ?_
  rintro e w' ⟨rfl,rfl⟩
  have he:=Ext.alloc H w (.map es ck)
  have hf:=M8 (H:=H) (C9j w.heap.size) (.map kvs)
  exact⟨_,rfl,.map w.heap.size,H.set w.heap.size (.map kvs),.map _,hs.update he hf (fun k hk _=>Go.RowKit.Below.heap_alloc _ _ _ hk) ⟨es,ck,L6 w _,hst,hlen,fun i p hp=>⟨hk i p hp,(hrk i p hp).mono he hf,(hrv i p hp).mono he hf⟩⟩,he,hf,h _ (hs.fresh (C9j _))⟩
theorem A2Y{Q}(m:Nat)(kvs:List (D×D))(H:Av.Heap)(hm:H m=some (.map kvs))(h: ∀b,H b=none→Q (.map b) (H.set b (.map kvs))):ACalls Tryz.prog 125 [.map m] H Q:=by
 refine⟨by kernel_rfl,fun w vs hl hr hs=>?_⟩
 obtain⟨a,rfl,ha⟩:=A1i hl hr
 cases ha
 obtain⟨es,ck,hb,hst,hlen,hkv⟩:=hs m _ hm
 refine(A2X m es ck w hb).mono ?_
 rintro e w' ⟨rfl,rfl⟩
 have he:=Ext.alloc H w (.map es ck)
 have hf:=M8 (H:=H) (C9j w.heap.size) (.map kvs)
 exact⟨_,rfl,.map w.heap.size,H.set w.heap.size (.map kvs),.map _,hs.update he hf (fun k hk _=>Go.RowKit.Below.heap_alloc _ _ _ hk) ⟨es,ck,L6 w _,hst,hlen,fun i p hp=>⟨(hkv i p hp).1,(hkv i p hp).2.1.mono he hf,(hkv i p hp).2.2.mono he hf⟩⟩,he,hf,h _ (hs.fresh (C9j _))⟩
end Go.Proofs.YtibphjonmikciaaGreatDoor
end
section
set_option maxRecDepth 20000
namespace Go.Lin
open Go Go.Av
def V2{α :Type}(p: α →Bool):List α →Int
 | []=> -1
 |a::l=>if p a=true then 0 else if V2 p l<0 then-1 else V2 p l+1
theorem A1O{α :Type}(p: α →Bool): ∀l,-1≤V2 p l
 | []=>by rw[V2];omega
 |a::l=>by have:=A1O p l;rw[V2];split;omega;split<;>omega
theorem A3X{α :Type}(p: α →Bool): ∀l,decide (0≤V2 p l)=l.any p
 | []=>rfl
 |a::l=>by
  have:=A3X p l
  rw[V2,D0U,←this]
  split
  ·rename_i h;simp[h]
  ·rename_i h
   simp only[h,Bool.false_or]
   apply C92.2
   split<;>omega
theorem A39{α :Type}(p: α →Bool)(l:List α)(k:Nat)(h:k<l.length):V2 p (l.drop k)=if p l[k]=true then 0 else if V2 p (l.drop (k+1))<0 then-1 else V2 p (l.drop (k+1))+1:=by
 rw[C9u h,V2]
end Go.Lin
namespace Go.Proofs.YtibphjonmikciaaGreatDoor
open Go Go.Av Go.Lin
attribute [local irreducible] ACalls W4
theorem B6C{Q}(p:Row→Bool)(l:List Row)(hl:l.length≤1000000000000000)(g:Nat)(first cap:List D)(H:Heap)
  (hf: ∀a∈l,∀(Q:D→Heap→Prop),Q (.bool (p a)) H→ACalls Tryz.prog g (first++[.agg (C5 a)]++cap) H Q) (h:Q (.int .i64 (V2 p l)) H):
  ACalls Tryz.prog 221 [.sl 4 (Rw C5 l),.fn (.func g) first cap] H Q:=by
 refine B2 [] B3 Tryz.func221 rfl (by kernel_rfl) (C9Q (by kernel_rfl)) (by kernel_rfl) ?_
 simp only[go_sem,Tryz.results221]
 refine D1 [0,1,7] (fun(k:Nat)=>[(8,.int .i64 k)]) (fun(k:Nat)=>H) (fun(k:Nat)=>k≤l.length∧V2 p l=if V2 p (l.drop k)<0 then-1 else V2 p (l.drop k)+k) (fun(k:Nat)=>l.length-k) (0) (⟨C9k _,by have:=A1O p l;rw[List.drop_zero];split<;>omega⟩) (by(try simp only[go_sem])<;>(try simp(disch:=omega) [A0])<;>(try omega)) (by first|exact D0q _|exact A2 (by assumption)|exact B4 (by assumption)|simp only[Heap.Le,Heap.set,Heap.del]at* <;>grind) ?_
 rintro Ec rfl k ⟨hk,hp⟩
 by_cases hlt:k<l.length
 ·have hkd:decide ((k:Int)<l.length)=true:=C9R (by omega)
  rw[A39 p l k hlt]at hp
  repeat' (first|with_reducible apply C9P|simp only[go_sem,hkd,A9 _ _ hlt]|simp(disch:=omega) only[A0,A9]|intro hx_|with_reducible refine hf l[k] (C9d hlt) _ ?_|omega)
  ·have h1:p l[k]=true:=by assumption
   rw[if_pos h1]at hp
   simp only[Int.zero_add,show¬((0:Int)<0)by omega,if_false]at hp
   rw[hp]at h
   exact D0u h
  ·have h1: ¬p l[k]=true:=by simp_all
   rw[if_neg h1]at hp
   exact C3 (k+1) ⟨by omega,by rw[hp];have:=A1O p (l.drop (k+1));split<;>split<;>omega⟩ (by omega) (by(try simp only[go_sem])<;>(try simp(disch:=omega) [A0])<;>(try omega)) (D0q _)
 ·have hkd:decide ((k:Int)<l.length)=false:=C9S (by omega)
  rw[List.drop_eq_nil_of_le (by omega),V2]at hp
  repeat' (first|with_reducible apply C9P|simp only[go_sem,hkd]|simp(disch:=omega) only[A0,A9]|intro hx_|omega)
  simp only[show ((-1:Int)<0)by omega,if_true]at hp
  rw[hp]at h
  exact D0u h
theorem C2j{Q}(p:Row→Bool)(l:List Row)(hl:l.length≤1000000000000000)(g:Nat)(first cap:List D)(H:Heap)
  (hf: ∀a∈l,∀(Q:D→Heap→Prop),Q (.bool (p a)) H→ACalls Tryz.prog g (first++[.agg (C5 a)]++cap) H Q) (h:Q (.bool (l.any p)) H):
  ACalls Tryz.prog 285 [.sl 4 (Rw C5 l),.fn (.func g) first cap] H Q:=by
 refine B2 [] B3 Tryz.func285 rfl (by kernel_rfl) (C9Q (by kernel_rfl)) (by kernel_rfl) ?_
 simp only[go_sem,Tryz.results285]
 rw[←A3X]at h
 repeat' (first|with_reducible apply C9P|simp only[go_sem]|intro hx_|with_reducible refine B6C p l hl g first cap _ hf ?_|omega)
 exact D0u h
end Go.Proofs.YtibphjonmikciaaGreatDoor
namespace Go.Lin
open Go Go.Av Go.Lexs
section
variable {P:Program} {t:Nat} {c:Bool}
@[go_sem] theorem C76(a:Int):J8 P .shr t c (.int .u64 a) (.int .u64 1)=some (.int .u64 (a / 2)):=by
 show (if(1:Int)<0 then none else some (D.int .u64 (a.fdiv (2 ^ (min (1:Int).toNat IntKind.u64.bits)))))=_
 rw[if_neg (by decide)]
 have e:(2:Int) ^ (min (1:Int).toNat IntKind.u64.bits)=2:=by decide
 rw[e,Int.fdiv_eq_ediv_of_nonneg _ (by decide)]
end
theorem B6D: ∀(x y:List UInt8),decide (Lib.compareBytes x y<0)=Op.bytesLess x y
 | [],[]=>rfl
 | [],y::ys=>rfl
 |x::xs,[]=>rfl
 |x::xs,y::ys=>by
  unfold Lib.compareBytes Op.bytesLess
  have ih:=B6D xs ys
  by_cases h1:x<y
  ·simp[h1]
  ·by_cases h2:y<x
   ·have:x≠y:=fun e=>by subst e;exact h1 h2
    simp[h1,h2,this]
   ·have:x=y:=UInt8.le_antisymm (UInt8.not_lt.1 h2) (UInt8.not_lt.1 h1)
    simp[h1,h2,this,ih]
theorem B2i: ∀(x y:List UInt8),decide (Lib.compareBytes x y=0)=decide (x=y)
 | [],[]=>rfl
 | [],y::ys=>rfl
 |x::xs,[]=>rfl
 |x::xs,y::ys=>by
  unfold Lib.compareBytes
  have ih:=B2i xs ys
  by_cases h1:x<y
  ·have:x≠y:=fun e=>by subst e;exact absurd h1 (UInt8.lt_irrefl _)
   simp[h1,this]
  ·by_cases h2:y<x
   ·have:x≠y:=fun e=>by subst e;exact absurd h2 h1
    simp[h1,h2,this]
   ·have:x=y:=UInt8.le_antisymm (UInt8.not_lt.1 h2) (UInt8.not_lt.1 h1)
    subst this
    simp[UInt8.lt_irrefl]
    simpa using ih
end Go.Lin
namespace Go.Proofs.YtibphjonmikciaaGreatDoor
open Go Go.Av Go.Lexs Go.Lin
attribute [local irreducible] ACalls W4
theorem B6E{Q}(s:ByteArray)(H:Heap)(h:Q (.bool false) H):ACalls Tryz.prog 208 [.str s] H Q:=by
 refine B2 [] B3 Tryz.func208 rfl (by kernel_rfl) (C9Q (by kernel_rfl)) (by kernel_rfl) ?_
 simp only[go_sem,Tryz.results208]
 repeat' (first|with_reducible apply C9P|simp only[go_sem]|intro hx_|omega)
 exact D0u h
theorem B2j{Q}(x y:ByteArray)(H:Heap)(h:Q (.bool (j8 x y)) H):ACalls Tryz.prog 166 [.str x,.str y] H Q:=by
 refine B2 [] B3 Tryz.func166 rfl (by kernel_rfl) (C9Q (by kernel_rfl)) (by kernel_rfl) ?_
 simp only[go_sem,Tryz.results166]
 repeat' (first|with_reducible apply C9P|simp only[go_sem]|intro hx_|with_reducible refine B6E _ _ ?_|omega)
 exact D0u h
theorem B3t{Q}(ns:List ByteArray)(hup:ns.Pairwise fun x y=>j8 x y=true)(s:ByteArray)(i:Nat)(hi:i<ns.length)(he:ns[i]=s)(hlen:ns.length≤1000000000)(H:Heap)(h:Q (.tuple [.int .i64 (i:Int),.bool true]) H):
  ACalls Tryz.prog 229 [.sl 1 (Rw j7 ns),.str s] H Q:=by
 refine B2 [] B3 Tryz.func229 rfl (by kernel_rfl) (C9Q (by kernel_rfl)) (by kernel_rfl) ?_
 simp only[go_sem,Tryz.results229]
 have hpw:=List.pairwise_iff_getElem.1 hup
 repeat' (first|with_reducible apply C9P|simp only[go_sem]|simp(disch:=omega) only[A0,A9]|intro hx_|omega)
 refine D1 [0,1,6] (fun(p:Nat×Nat)=>[(7,.int .i64 (p.1:Int)),(8,.int .i64 (p.2:Int))]) (fun(p:Nat×Nat)=>H) (fun(p:Nat×Nat)=>p.1≤i∧i≤p.2∧p.2≤ns.length) (fun(p:Nat×Nat)=>p.2-p.1) ((0,ns.length)) (⟨C9k _,by omega,C9j _⟩) (by(try simp only[go_sem])<;>(try simp(disch:=omega) [A0])<;>(try omega)) (by first|exact D0q _|exact A2 (by assumption)|exact B4 (by assumption)|simp only[Heap.Le,Heap.set,Heap.del]at* <;>grind) ?_
 rintro Ec rfl ⟨lo,hi'⟩ ⟨q1,q2,q3⟩
 simp only at q1 q2 q3
 by_cases hlt:lo<hi'
 ·have hkd:decide ((lo:Int)<hi')=true:=C9R (by omega)
  obtain⟨m,hm⟩: ∃m,m=(lo+hi') / 2:=⟨_,rfl⟩
  have hml:m<ns.length:=by omega
  have hmi:(m:Int)<ns.length:=by omega
  have w1:IntKind.u64.wrap ((lo:Int)+hi') / 2=(m:Int):=by rw[A0C (by omega) (by omega)];omega
  have w2:IntKind.i64.wrap (m:Int)=m:=by rw[A0 (by omega) (by omega)]
  have hc:j8 ns[m] s=decide (m<i):=by
   by_cases g:m<i
   ·rw[C9R g,←he];exact hpw m i hml hi g
   ·rw[C9S g,←he]
    rcases Nat.lt_or_eq_of_le (Nat.le_of_not_lt g)with g2|g2
    ·have:=hpw i m hi hml g2
     rw[←D0l]
     intro g3
     have:=X8 this g3
     rw[j9]at this;cases this
    ·simp only[g2];exact j9 _
  by_cases g:m<i
  ·rw[C9R g]at hc
   repeat' (first|with_reducible apply C9P|simp only[go_sem,hkd,w1,w2,hmi,A9 _ _ hml,C2 _ _ hml,hc]|simp(disch:=omega) only[A0,A9]|intro hx_|with_reducible refine B2j _ _ _ ?_|omega)
   exact C3 (m+1,hi') ⟨by simp only[];omega,q2,q3⟩ (by simp only[];omega) (by(try simp only[go_sem])<;>(try simp(disch:=omega) [A0])<;>(try omega)) (D0q _)
  ·rw[C9S g]at hc
   repeat' (first|with_reducible apply C9P|simp only[go_sem,hkd,w1,w2,hmi,A9 _ _ hml,C2 _ _ hml,hc]|simp(disch:=omega) only[A0,A9]|intro hx_|with_reducible refine B2j _ _ _ ?_|omega)
   exact C3 (lo,m) ⟨q1,by simp only[];omega,by simp only[];omega⟩ (by simp only[];omega) (by(try simp only[go_sem])<;>(try simp(disch:=omega) [A0])<;>(try omega)) (D0q _)
 ·have hkd:decide ((lo:Int)<hi')=false:=C9S (by omega)
  have e:lo=i:=by omega
  subst e
  have hli:(lo:Int)<ns.length:=by omega
  repeat' (first|with_reducible apply C9P|simp only[go_sem,hkd,hli,A9 _ _ hi,C2 _ _ hi,he]|simp(disch:=omega) only[A0,A9]|intro hx_|omega)
  exact D0u h
theorem A8N{Q}(x:VlV)(s:ByteArray)(H:Heap)(h:Q (.int .i64 (Lib.compareBytes (B x.v) (B s))) H):ACalls Tryz.prog 105 [.agg (vlC x),.str s] H Q:=by
 refine B2 [] B3 Tryz.func105 rfl (by kernel_rfl) (C9Q (by kernel_rfl)) (by kernel_rfl) ?_
 simp only[go_sem,Tryz.results105]
 repeat' (first|with_reducible apply C9P|simp only[go_sem]|intro hx_|with_reducible refine B3i _ _ _ ?_|omega)
 exact D0r (by simp only[Go.Av.Heap.Le,Go.Av.Heap.set,Go.Av.Heap.del]at* <;>grind) h
def C77(l:List VlV)(s:ByteArray)(i:Nat):Prop:=i≤l.length∧(∀(k:Nat) (hk:k<l.length),k<i→j8 l[k].v s=true)∧∀hk:i<l.length,j8 l[i].v s=false
theorem B1Y{Q}(l:List VlV)(hv:M2 l=true)(s:ByteArray)(hlen:l.length≤1000000000000000)(H:Heap)(h: ∀i,C77 l s i→Q (.tuple [.int .i64 (i:Int),.bool (if hk:i<l.length then decide (l[i].v=s)else false)]) H):
  ACalls Tryz.prog 104 [.sl 2 (Rw vlC l),.str s,.fn (.func 105) [] []] H Q:=by
 refine B2 [] B3 Tryz.func104 rfl (by kernel_rfl) (C9Q (by kernel_rfl)) (by kernel_rfl) ?_
 simp only[go_sem,Tryz.results104]
 have hup:=A68 hv
 repeat' (first|with_reducible apply C9P|simp only[go_sem]|simp(disch:=omega) only[A0,A9]|intro hx_|omega)
 refine D1 [0,1,2,8] (fun(p:Nat×Nat)=>[(9,.int .i64 (p.1:Int)),(10,.int .i64 (p.2:Int))]) (fun(p:Nat×Nat)=>H) (fun(p:Nat×Nat)=>p.1≤p.2∧p.2≤l.length∧(∀(k:Nat) (hk:k<l.length),k<p.1→j8 l[k].v s=true)∧∀(k:Nat) (hk:k<l.length),p.2≤k→j8 l[k].v s=false) (fun(p:Nat×Nat)=>p.2-p.1) ((0,l.length)) (⟨C9k _,C9j _,fun k _ h=>absurd h (Nat.not_lt_zero _),fun k hk h=>absurd hk (by simp only[]at h;omega)⟩) (by(try simp only[go_sem])<;>(try simp(disch:=omega) [A0])<;>(try omega)) (by first|exact D0q _|exact A2 (by assumption)|exact B4 (by assumption)|simp only[Heap.Le,Heap.set,Heap.del]at* <;>grind) ?_
 rintro Ec rfl ⟨lo,hi'⟩ ⟨q1,q2,q3,q4⟩
 simp only at q1 q2 q3 q4
 by_cases hlt:lo<hi'
 ·have hkd:decide ((lo:Int)<hi')=true:=C9R (by omega)
  obtain⟨m,hm⟩: ∃m,m=(lo+hi') / 2:=⟨_,rfl⟩
  have hml:m<l.length:=by omega
  have hmi:(m:Int)<l.length:=by omega
  have w1:IntKind.u64.wrap ((lo:Int)+hi') / 2=(m:Int):=by rw[A0C (by omega) (by omega)];omega
  have w2:IntKind.i64.wrap (m:Int)=m:=by rw[A0 (by omega) (by omega)]
  have hc:decide (Lib.compareBytes (B l[m].v) (B s)<0)=j8 l[m].v s:=B6D _ _
  cases g:j8 l[m].v s with
  |true=>
   rw[g]at hc
   repeat' (first|with_reducible apply C9P|simp only[go_sem,hkd,w1,w2,hmi,A9 _ _ hml,C2 _ _ hml,hc]|simp(disch:=omega) only[A0,A9]|intro hx_|with_reducible refine A8N _ _ _ ?_|omega)
   refine C3 (m+1,hi') ⟨by simp only[];omega,q2,fun k hk hkm=>?_,q4⟩ (by simp only[];omega) (by(try simp only[go_sem])<;>(try simp(disch:=omega) [A0])<;>(try omega)) (D0q _)
   simp only[]at hkm
   rcases Nat.lt_or_ge k m with g2|g2
   ·exact X8 (hup k m hk hml g2) g
   ·have:k=m:=by omega
    subst this;exact g
  |false=>
   rw[g]at hc
   repeat' (first|with_reducible apply C9P|simp only[go_sem,hkd,w1,w2,hmi,A9 _ _ hml,C2 _ _ hml,hc]|simp(disch:=omega) only[A0,A9]|intro hx_|with_reducible refine A8N _ _ _ ?_|omega)
   refine C3 (lo,m) ⟨by simp only[];omega,by simp only[];omega,q3,fun k hk hkm=>?_⟩ (by simp only[];omega) (by(try simp only[go_sem])<;>(try simp(disch:=omega) [A0])<;>(try omega)) (D0q _)
   simp only[]at hkm
   rcases Nat.lt_or_eq_of_le hkm with g2|g2
   ·rw[←D0l]
    intro g3
    have:=X8 (hup m k hml hk g2) g3
    rw[g]at this;cases this
   ·subst g2;exact g
 ·have hkd:decide ((lo:Int)<hi')=false:=C9S (by omega)
  have e:lo=hi':=by omega
  subst e
  have h:=h lo ⟨q2,q3,fun hk=>q4 lo hk (C9j _)⟩
  by_cases hl:lo<l.length
  ·have hli:(lo:Int)<l.length:=by omega
   have hc:decide (Lib.compareBytes (B l[lo].v) (B s)=0)=decide (l[lo].v=s):=by
    rw[B2i];exact C92.2 ⟨fun g=>i6 g,fun g=>by rw[g]⟩
   rw[dif_pos hl]at h
   repeat' (first|with_reducible apply C9P|simp only[go_sem,hkd,hli,A9 _ _ hl,C2 _ _ hl,hc]|simp(disch:=omega) only[A0,A9]|intro hx_|with_reducible refine A8N _ _ _ ?_|omega)
   exact D0u h
  ·have hli: ¬(lo:Int)<l.length:=by omega
   rw[dif_neg hl]at h
   repeat' (first|with_reducible apply C9P|simp only[go_sem,hkd,hli]|simp(disch:=omega) only[A0,A9]|intro hx_|with_reducible refine A8N _ _ _ ?_|omega)
   exact D0u h
theorem A99{Q}(l:List VlV)(hv:M2 l=true)(s:ByteArray)(hlen:l.length≤1000000000000000)(H:Heap)(h:Q (.tuple [.int .i64 ((L4 l s).getD 0),.bool (L4 l s).isSome]) H):ACalls Tryz.prog 62 [.sl 2 (Rw vlC l),.str s] H Q:=by
 refine B2 [] B3 Tryz.func62 rfl (by kernel_rfl) (C9Q (by kernel_rfl)) (by kernel_rfl) ?_
 simp only[go_sem,Tryz.results62]
 repeat' (first|with_reducible apply C9P|simp only[go_sem]|simp(disch:=omega) only[A9,A3M]|intro hx_|omega)
 refine B1Y l hv s hlen _ fun i hp=>?_
 obtain⟨p1,p2,p3⟩:=hp
 rw[A3M hv p1 p2 p3]at h
 by_cases hl:i<l.length
 ·have hli:(i:Int)<l.length:=by omega
  rw[dif_pos hl]at h⊢
  by_cases g:l[i].v=s
  ·rw[if_pos g]at h
   rw[C9R g]
   simp only[Option.getD_some,Option.isSome_some]at h
   repeat' (first|with_reducible apply C9P|simp only[go_sem,hli,A9 _ _ hl,C2 _ _ hl]|simp(disch:=omega) only[A9,A3M]|intro hx_|omega)
   exact D0u h
  ·rw[if_neg g]at h
   rw[C9S g]
   simp only[Option.getD_none,Option.isSome_none]at h
   repeat' (first|with_reducible apply C9P|simp only[go_sem]|simp(disch:=omega) only[A9,A3M]|intro hx_|omega)
   exact D0u h
 ·rw[dif_neg hl]at h⊢
  simp only[Option.getD_none,Option.isSome_none]at h
  repeat' (first|with_reducible apply C9P|simp only[go_sem]|simp(disch:=omega) only[A9,A3M]|intro hx_|omega)
  exact D0u h
end Go.Proofs.YtibphjonmikciaaGreatDoor
end
section
namespace Go.Av
theorem B4X{n sz:Nat}{es:List (List D)}{ob:Option Nat}{a:D}{ds:List D}{Q:D→Heap→Prop}{H:Heap}(hn:n=es.length)(hc:OutAt H sz es ob)(h:Fin Q (.tuple (a:: .sl sz es::ds)) (K5 H ob)):Fin Q (.tuple (a::J4 sz n ob::ds)) H:=by
 subst hn
 cases ob with
 |none=>
  have e:es= []:=hc
  subst e
  refine D9 (.tuple _ _ (by simp) fun i d d' h1 h2=>?_) h
  match i with
  |0=>cases h1;cases h2;exact .same _
  |1=>cases h1;cases h2;exact .nil _
  |i+2=>
   simp only[C9v]at h1 h2
   rw[h1]at h2;cases h2;exact .same _
 |some c=>
  refine Fin.freeze hc (.tuple _ _ (by simp) fun i d d' h1 h2=>?_) h
  match i with
  |0=>cases h1;cases h2;exact .same _
  |1=>cases h1;cases h2;exact .all
  |i+2=>
   simp only[C9v]at h1 h2
   rw[h1]at h2;cases h2;exact .same _
theorem OutAt.up{H H':Heap}{sz:Nat}{es:List (List D)}{ob:Option Nat}(h:OutAt H sz es ob)(hle:H.Le H'):OutAt H' sz es ob:=by
 cases ob with
 |none=>exact h
 |some c=>exact hle _ _ h
theorem OutAt.keep{H0 H':Heap}{sz sz':Nat}{es e2:List (List D)}{ob o2:Option Nat}{b':Nat}(h:OutAt H0 sz' e2 o2)(ha:Apd H0 sz ob es b' H')(hd: ∀b,o2=some b→ob≠some b):OutAt H' sz' e2 o2:=by
 cases o2 with
 |none=>exact h
 |some c=>exact ha.2.1 c _ h (hd c rfl)
structure O3(H Hp:Heap)(sz:Nat)(e1 e2 e3:List (List D))(o1 o2 o3:Option Nat):Prop where
 le:H.Le Hp
 a1:OutAt Hp sz e1 o1
 a2:OutAt Hp sz e2 o2
 a3:OutAt Hp sz e3 o3
 n1: ∀b,o1=some b→H b=none
 n2: ∀b,o2=some b→H b=none
 n3: ∀b,o3=some b→H b=none
 d12: ∀b,o1=some b→o2≠some b
 d13: ∀b,o1=some b→o3≠some b
 d23: ∀b,o2=some b→o3≠some b
theorem O3.nil(H:Heap)(sz:Nat):O3 H H sz [] [] [] none none none:=⟨D0q H,rfl,rfl,rfl,by simp,by simp,by simp,by simp,by simp,by simp⟩
theorem O3.rot{H Hp:Heap}{sz:Nat}{e1 e2 e3:List (List D)}{o1 o2 o3:Option Nat}(h:O3 H Hp sz e1 e2 e3 o1 o2 o3):O3 H Hp sz e2 e3 e1 o2 o3 o1:=
 ⟨h.le,h.a2,h.a3,h.a1,h.n2,h.n3,h.n1,h.d23,fun b e e2=>h.d12 b e2 e,fun b e e2=>h.d13 b e2 e⟩
theorem OutAt.some_of{H:Heap}{sz:Nat}{es:List (List D)}{ob:Option Nat}(h:OutAt H sz es ob){b:Nat}(e:ob=some b):H b=some (.vec sz es):=by subst e;exact h
theorem O3.app1{H Hp H0 H':Heap}{sz:Nat}{e1 e2 e3 e1':List (List D)}{o1 o2 o3:Option Nat}{b':Nat}(h:O3 H Hp sz e1 e2 e3 o1 o2 o3)(hle:Hp.Le H0)(ha:Apd H0 sz o1 e1' b' H'):O3 H H' sz e1' e2 e3 (some b') o2 o3:=by
 have nb: ∀{e:List (List D)} {o:Option Nat},OutAt Hp sz e o→(∀b,o1=some b→o≠some b)→o≠some b':=fun {e o} hat hd hb=>by
  rcases ha.2.2 with g|g
  ·have:=hle _ _ (hat.some_of hb);rw[g]at this;cases this
  ·exact hd _ g hb
 refine⟨fun k o hk=>ha.2.1 k o (hle k o (h.le k o hk)) (fun e=>by have:=h.n1 k e;rw[this]at hk;cases hk),ha.1,(h.a2.up hle).keep ha (fun b e g=>h.d12 b g e),(h.a3.up hle).keep ha (fun b e g=>h.d13 b g e),fun b e=>?_,h.n2,h.n3,fun b e g=>?_,fun b e g=>?_,h.d23⟩
 ·cases e
  rcases ha.2.2 with g|g
  ·exact h.le.none (hle.none g)
  ·exact h.n1 _ g
 ·cases e;exact nb h.a2 h.d12 g
 ·cases e;exact nb h.a3 h.d13 g
theorem O3.app2{H Hp H0 H':Heap}{sz:Nat}{e1 e2 e3 e2':List (List D)}{o1 o2 o3:Option Nat}{b':Nat}(h:O3 H Hp sz e1 e2 e3 o1 o2 o3)(hle:Hp.Le H0)(ha:Apd H0 sz o2 e2' b' H'):O3 H H' sz e1 e2' e3 o1 (some b') o3:=(h.rot.app1 hle ha).rot.rot
theorem O3.app3{H Hp H0 H':Heap}{sz:Nat}{e1 e2 e3 e3':List (List D)}{o1 o2 o3:Option Nat}{b':Nat}(h:O3 H Hp sz e1 e2 e3 o1 o2 o3)(hle:Hp.Le H0)(ha:Apd H0 sz o3 e3' b' H'):O3 H H' sz e1 e2 e3' o1 o2 (some b'):=(h.rot.rot.app1 hle ha).rot
theorem O3.ap{H Hp H0:Heap}{KD:D→Heap→Prop}{sz by_ n bx:Nat}{o:Go.Av.Obj}{e1 e2 e3 e1' xs:List (List D)}{o1 o2 o3:Option Nat}(h:O3 H Hp sz e1 e2 e3 o1 o2 o3)(hle:Hp.Le H0)(hx0:H0 bx=none)(hne:xs≠[])(hn:n=e1.length)
  (h1:(n+xs.length)*by_≤140737488355328) (h2:n+xs.length≤9223372036854775807) (he:e1'=e1++xs)
  (K: ∀b' H',O3 H H' sz e1' e2 e3 (some b') o2 o3→KD (.vec b' sz 0 (n+xs.length)) H'):apS (J4 sz n o1) sz by_ xs (H0.set bx o) KD:=
 A5u (P:=default) hx0 hne (h.a1.up hle) hn h1 h2 fun b' H' hA=>K b' H' (h.app1 hle (by rw[he];exact hA))
theorem O3.last{H Hp:Heap}{sz:Nat}{e1 e2 e3:List (List D)}{o1 o2 o3:Option Nat}(h:O3 H Hp sz e1 e2 e3 o1 o2 o3):(putB H sz e3 o3).Le (K5 (K5 Hp o1) o2)∧OutAt (K5 Hp o1) sz e2 o2:=by
 have hd: ∀(K:Heap) (o:Option Nat) (k:Nat) (x:Go.Av.Obj),K k=some x→o≠some k→K5 K o k=some x:=fun K o k x hk hn=>by
  cases o with
  |none=>exact hk
  |some c=>show (K.del c) k=_;rw[C8 (by rintro rfl;exact hn rfl)];exact hk
 constructor
 ·intro k x hk
  have old: ∀y,H k=some y→o1≠some k∧o2≠some k∧Hp k=some y:=fun y hy=>
   ⟨fun e=>(by have:=h.n1 _ e;rw[this]at hy;cases hy),fun e=>(by have:=h.n2 _ e;rw[this]at hy;cases hy),h.le _ _ hy⟩
  have hne1:o1≠some k∧o2≠some k∧Hp k=some x:=by
   cases o3 with
   |none=>exact old x hk
   |some c=>
    replace hk:(H.set c (.vec sz e3)) k=some x:=hk
    simp only[Heap.set]at hk
    by_cases e:k=c
    ·rw[if_pos e]at hk
     cases hk
     rw[e]
     exact⟨fun e=>h.d13 _ e rfl,fun e=>h.d23 _ e rfl,h.a3⟩
    ·rw[if_neg e]at hk
     exact old x hk
  exact hd _ _ _ _ (hd _ _ _ _ hne1.2.2 hne1.1) hne1.2.1
 ·cases o2 with
  |none=>exact h.a2
  |some c=>exact hd _ _ _ _ h.a2 (fun e=>h.d12 _ e rfl)
end Go.Av
end
section
set_option maxRecDepth 20000
namespace Go.Lin
open Go Go.Av
def L0:Option Nat→Int
 |none=> -1
 |some j=>j
def B81(c:List Int)(x:Int):Option Nat→Bool
 |none=>true
 |some j=>decide (x.natAbs<(U8 c j).natAbs)
def L8(c:List Int):Nat→Option Nat
 |0=>none
 |i+1=>if U8 c i≠0∧B81 c (U8 c i) (L8 c i)=true then some i else L8 c i
theorem A2N(c:List Int): ∀(i j:Nat),L8 c i=some j→j<i
 |0,j,h=>by simp[L8]at h
 |i+1,j,h=>by
  rw[L8]at h
  split at h
  ·simp at h;omega
  ·have:=A2N c i j h;omega
theorem B0A(c:List Int)(x:Int)(l:List Int)(i:Nat)(b:Option Nat):A5s c (x::l) i b=A5s c l (i+1) (if x≠0∧B81 c x b=true then some i else b):=by
 cases b<;>rfl
theorem B0B(c:List Int): ∀(l:List Int) (i:Nat),i≤c.length→l=c.drop i→A5s c l i (L8 c i)=L8 c c.length
 | [],i,hi,h=>by
  have:c.length≤i:=by
   have:=congrArg List.length h
   simp at this;omega
  rw[show i=c.length by omega];rfl
 |x::l,i,hi,h=>by
  have hlt:i<c.length:=by
   have:=congrArg List.length h
   simp at this;omega
  rw[C9u hlt]at h
  simp only[List.cons.injEq]at h
  have e:U8 c i=x:=by simp[U8,hlt,h.1]
  rw[B0A,←B0B c l (i+1) (by omega) h.2,L8,e]
theorem A5y(r:Row):A34 r=L8 r.c r.c.length:=B0B r.c r.c 0 (C9k _) rfl
theorem D4(c:List Int)(i:Nat)(h:i<c.length):U8 c i=c[i]:=by simp[U8,h]
theorem A4A{p:Row→Bool}(l:List Row)(i:Nat)(h:i<l.length):(l.take (i+1)).filter p=(l.take i).filter p++if p l[i]=true then [l[i]]else []:=by
 rw[C9i h,List.filter_append]
 congr 1
 by_cases c:p l[i]=true
 ·rw[if_pos c];simp[c]
 ·rw[if_neg c];simp[c]
theorem V3{p:Row→Bool}(l:List Row):(l.filter p).length≤l.length:=List.length_filter_le _ _
end Go.Lin
namespace Go.Proofs.YtibphjonmikciaaGreatDoor
open Go Go.Av Go.Lin
attribute [local irreducible] ACalls W4
theorem B82{Q}(r:Row)(hlen:r.c.length≤1000000)(hr:A4p r 18446744073709551616)(H:Heap)(h:Q (.int .i64 (L0 (A34 r))) H):ACalls Tryz.prog 252 [.agg (C5 r)] H Q:=by
 refine B2 [(5,.par)] B3 Tryz.func252 rfl (by kernel_rfl) (C9Q (by kernel_rfl)) (by kernel_rfl) ?_
 simp only[go_sem,Tryz.results252]
 intro b1 hb1
 have e1:(H.set b1 (.box (C5 r))) b1=some (.box (C5 r)):=A5 _ _
 have hle:H.Le (H.set b1 (.box (C5 r))):=A2 hb1
 generalize H.set b1 (.box (C5 r))=Bs at e1 hle⊢
 have t0:L0 (L8 r.c 0)= -1:=rfl
 repeat' (first|with_reducible apply C9P|simp only[go_sem,e1]|simp(disch:=omega) only[A0,A9,D4]|simp(disch:=first|omega|grind) only[A6]|intro hx_|omega)
 rw[←t0]
 refine D1 [1,7,8] (fun(i:Nat)=>[(9,.int .i64 i),(3,.int .i64 (L0 (L8 r.c i)))]) (fun(i:Nat)=>Bs) (fun(i:Nat)=>i≤r.c.length) (fun(i:Nat)=>r.c.length-i) (0) (C9k _) (by(try simp only[go_sem])<;>(try simp(disch:=omega) [A0])<;>(try omega)) (by first|exact D0q _|exact A2 (by assumption)|exact B4 (by assumption)|simp only[Heap.Le,Heap.set,Heap.del]at* <;>grind) ?_
 rintro Ec rfl i hi
 by_cases hlt:i<r.c.length
 ·have hkd:decide ((i:Int)<r.c.length)=true:=C9R (by omega)
  have hri:(i:Int)<r.c.length:=by omega
  have a1:=hr.2 _ (C9d hlt)
  have sa:Sz r.c[i]:=G6 (by omega)
  have sa2:Sz ((r.c[i].natAbs:Nat):Int):=G6 (by omega)
  have ts:L8 r.c (i+1)=if r.c[i]≠0∧B81 r.c r.c[i] (L8 r.c i)=true then some i else L8 r.c i:=by rw[L8,D4 _ _ hlt]
  repeat' (first|with_reducible apply C9P|simp only[go_sem,hkd,e1,hri,A9 _ _ hlt,C2 _ _ hlt]|simp(disch:=omega) only[A0,A9,D4]|simp(disch:=first|omega|grind) only[A6]|intro hx_|omega)
  rename_i b5
  have h5:=hx_
  clear hx_
  have n15:b1≠b5:=fun e=>by rw[e,h5]at e1;cases e1
  have q1:b1∈[b1,b5]:=by simp
  have q5:b5∈[b1,b5]:=by simp
  by_cases hx:r.c[i]=0
  ·have ts2:L8 r.c (i+1)=L8 r.c i:=by rw[ts,if_neg (fun g=>g.1 hx)]
   have hs0:r.c[i].sign=0:=by rw[hx];rfl
   refine F4 (fun i'=>if i'=1 then .int .i64 0 else .undef) [b1,b5] ?_
   repeat' (first|with_reducible apply C9P|simp only[go_sem,e1,q1,q5,decide_true,D0n]|simp(disch:=omega) only[A0,A9,D4]|simp(disch:=first|omega|grind) only[A6]|intro hx_|with_reducible refine Q9 (fun H' Q hro hq=>K2 r.c[i] H' (by rw[hs0];exact hq)) ?_|omega)
   refine C3 (i+1) (by omega) (by omega) (by(try simp only[go_sem,ts2])<;>(try simp(disch:=omega) [A0])<;>(try omega)) (A2 h5)
  ·have hs0: ¬(r.c[i].sign=0):=fun g=>hx (Int.sign_eq_zero_iff_zero.1 g)
   cases hb:L8 r.c i with
   |none=>
    have ts2:L8 r.c (i+1)=some i:=by rw[ts,hb,if_pos ⟨hx,rfl⟩]
    have ts3:L0 (L8 r.c (i+1))=i:=by rw[ts2];rfl
    have oi:L0 none= -1:=rfl
    refine F4 (fun i'=>if i'=1 then .int .i64 r.c[i].sign else .undef) [b1,b5] ?_
    repeat' (first|with_reducible apply C9P|simp only[go_sem,e1,q1,q5,hs0,hb,oi,decide_true,decide_false,D0n,D0o]|simp(disch:=omega) only[A0,A9,D4]|simp(disch:=first|omega|grind) only[A6]|intro hx_|with_reducible refine Q9 (fun H' Q hro hq=>K2 r.c[i] H' hq) ?_|omega)
    refine C3 (i+1) (by omega) (by omega) (by(try simp only[go_sem,ts3])<;>(try simp(disch:=omega) [A0])<;>(try omega)) (A2 h5)
   |some j=>
    have hj:=A2N _ _ _ hb
    have hjl:j<r.c.length:=by omega
    have hji:(j:Int)<r.c.length:=by omega
    have a2:=hr.2 _ (C9d hjl)
    have sb:Sz ((r.c[j].natAbs:Nat):Int):=G6 (by omega)
    have ts2:L8 r.c (i+1)=if r.c[i].natAbs<r.c[j].natAbs then some i else some j:=by
     rw[ts,hb,B81,D4 _ _ hjl]
     by_cases g:r.c[i].natAbs<r.c[j].natAbs
     ·rw[if_pos ⟨hx,C9R g⟩,if_pos g]
     ·rw[if_neg (fun k=>g (C9Q k.2)),if_neg g]
    have oi:L0 (some j)=j:=rfl
    have oj: ¬((j:Int)<0):=by omega
    refine F4 (fun i'=>if i'=1 then .int .i64 r.c[i].sign else if i'=8 then .agg (C4 (r.c[i].natAbs:Nat))else if i'=14 then .agg (C4 (r.c[j].natAbs:Nat))else if i'=15 then .bool (decide (((r.c[i].natAbs:Nat):Int)<((r.c[j].natAbs:Nat):Int)))else .undef) [b1,b5] ?_
    repeat' (first|with_reducible apply C9P|simp only[go_sem,e1,q1,q5,hs0,hb,oi,oj,hji,A9 _ _ hjl,C2 _ _ hjl,decide_true,decide_false,D0n,D0o]|simp(disch:=omega) only[A0,A9,D4]|simp(disch:=first|omega|grind) only[A6]|intro hx_|with_reducible refine Q9 (fun H' Q hro hq=>K2 r.c[i] H' hq) ?_|with_reducible refine Q9 (fun H' Q hro hq=>B5s r.c[i] H' hq) ?_|with_reducible refine Q9 (fun H' Q hro hq=>B5s r.c[j] H' hq) ?_|with_reducible refine Q9 (fun H' Q hro hq=>B2Z _ _ sa2 sb H' hq) ?_|omega)
    ·have g:r.c[i].natAbs<r.c[j].natAbs:=by omega
     rw[if_pos g]at ts2
     have ts3:L0 (L8 r.c (i+1))=i:=by rw[ts2];rfl
     refine C3 (i+1) (by omega) (by omega) (by(try simp only[go_sem,ts3])<;>(try simp(disch:=omega) [A0])<;>(try omega)) (A2 h5)
    ·have g: ¬r.c[i].natAbs<r.c[j].natAbs:=by omega
     rw[if_neg g]at ts2
     have ts3:L0 (L8 r.c (i+1))=j:=by rw[ts2];rfl
     refine C3 (i+1) (by omega) (by omega) (by(try simp only[go_sem,ts3])<;>(try simp(disch:=omega) [A0])<;>(try omega)) (A2 h5)
 ·have hkd:decide ((i:Int)<r.c.length)=false:=C9S (by omega)
  have hie:i=r.c.length:=by omega
  subst hie
  rw[A5y]at h
  repeat' (first|with_reducible apply C9P|simp only[go_sem,hkd]|simp(disch:=omega) only[A0,A9,D4]|simp(disch:=first|omega|grind) only[A6]|intro hx_|omega)
  exact D0r hle h
theorem B2k{Q}(l:List Row)(k:Nat)(hlen:l.length≤1000000)(hk: ∀r∈l,k<r.c.length)(H:Heap)
  (h: ∀ob,(ob=none→S6 l k= [])→(∀b,ob=some b→H b=none)→Q (.tuple [.sl 4 (Rw C5 (I3 l k)),.sl 4 (Rw C5 (F0 l k)),J4 4 (S6 l k).length ob]) (putB H 4 (Rw C5 (S6 l k)) ob)):
  ACalls Tryz.prog 260 [.sl 4 (Rw C5 l),.int .i64 (k:Int)] H Q:=by
 refine B2 [] B3 Tryz.func260 rfl (by kernel_rfl) (C9Q (by kernel_rfl)) (by kernel_rfl) ?_
 simp only[go_sem,Tryz.results260]
 have z0:D.nilsl=J4 4 (I3 (l.take 0) k).length none:=rfl
 have z1:D.nilsl=J4 4 (F0 (l.take 0) k).length none:=rfl
 have z2:D.nilsl=J4 4 (S6 (l.take 0) k).length none:=rfl
 repeat' (first|with_reducible apply C9P|simp only[go_sem]|simp(disch:=omega) only[A0,A9,D4]|(intro hx_;try simp only[A4]at hx_)|omega)
 refine D1 [1,9,10] (fun(p:Nat×Option Nat×Option Nat×Option Nat×Heap)=>[(11,.int .i64 p.1),(4,J4 4 (I3 (l.take p.1) k).length p.2.1),(5,J4 4 (F0 (l.take p.1) k).length p.2.2.1),(6,J4 4 (S6 (l.take p.1) k).length p.2.2.2.1)]) (fun(p:Nat×Option Nat×Option Nat×Option Nat×Heap)=>p.2.2.2.2) (fun(p:Nat×Option Nat×Option Nat×Option Nat×Heap)=>p.1≤l.length∧O3 H p.2.2.2.2 4 (Rw C5 (I3 (l.take p.1) k)) (Rw C5 (F0 (l.take p.1) k)) (Rw C5 (S6 (l.take p.1) k)) p.2.1 p.2.2.1 p.2.2.2.1) (fun(p:Nat×Option Nat×Option Nat×Option Nat×Heap)=>l.length-p.1) ((0,none,none,none,H)) (⟨C9k _,O3.nil H 4⟩) (by(try simp only[go_sem])<;>(try simp(disch:=omega) [A0])<;>(try omega)) (by first|exact D0q _|exact A2 (by assumption)|exact B4 (by assumption)|simp only[Heap.Le,Heap.set,Heap.del]at* <;>grind) ?_
 rintro Ec rfl ⟨i,o1,o2,o3,Hp⟩ ⟨hi,h3⟩
 simp only at hi h3
 by_cases hlt:i<l.length
 ·have hkd:decide ((i:Int)<l.length)=true:=C9R (by omega)
  have hti:(i:Int)<l.length:=by omega
  have hkl:=hk _ (C9d hlt)
  have hki:(k:Int)<l[i].c.length:=by omega
  have gk:=D4 l[i].c k hkl
  have f1:=A4A (p:=fun r=>decide (0<U8 r.c k)) l i hlt
  have f2:=A4A (p:=fun r=>decide (U8 r.c k<0)) l i hlt
  have f3:=A4A (p:=fun r=>decide (U8 r.c k=0)) l i hlt
  simp only[gk,C9l]at f1 f2 f3
  change I3 (l.take (i+1)) k=I3 (l.take i) k++_ at f1
  change F0 (l.take (i+1)) k=F0 (l.take i) k++_ at f2
  change S6 (l.take (i+1)) k=S6 (l.take i) k++_ at f3
  have l1:(I3 (l.take i) k).length≤1000000:=D0V (V3 _) (by rw[C97];omega)
  have l2:(F0 (l.take i) k).length≤1000000:=D0V (V3 _) (by rw[C97];omega)
  have l3:(S6 (l.take i) k).length≤1000000:=D0V (V3 _) (by rw[C97];omega)
  rcases Int.lt_trichotomy l[i].c[k] 0 with c|c|c
  ·have s:l[i].c[k].sign= -1:=Int.sign_eq_neg_one_of_neg c
   rw[if_neg (by omega),D0E]at f1
   rw[if_pos c]at f2
   rw[if_neg (by omega),D0E]at f3
   repeat' (first|with_reducible apply C9P|simp only[go_sem,hkd,A9 _ _ hlt,C2 _ _ hlt,A9 _ _ hkl,C2 _ _ hkl,hki,s]|simp(disch:=omega) only[A0,A9,D4]|(intro hx_;try simp only[A4]at hx_)|with_reducible refine K2 _ _ ?_|omega)
   rename_i b8 h8 bx
   have hbx:=hx_
   clear hx_
   refine A5u (P:=Tryz.prog) (H0:=Hp.set b8 (.box (C5 l[i]))) (es:=Rw C5 (F0 (l.take i) k)) (by rw[A4];exact hbx) (by simp) (h3.a2.up (A2 h8)) (by rw[D6]) (by simp only[C9U,C9W];omega) (by simp only[C9U,C9W];omega) fun b' H' hA=>?_
   repeat' (first|with_reducible apply C9P|simp only[go_sem]|simp(disch:=omega) only[A0,A9,D4]|(intro hx_;try simp only[A4]at hx_)|omega)
   have hA2:Apd (Hp.set b8 (.box (C5 l[i]))) 4 o2 (Rw C5 (F0 (l.take (i+1)) k)) b' H':=by rw[f2,←O2];exact hA
   refine C3 (i+1,o1,some b',o3,H') ⟨by simp only[];omega,?_⟩ (by simp only[];omega) (by(try simp only[go_sem,f1,f2,f3,C9V,K1])<;>(try simp(disch:=omega) [A0])<;>(try omega)) (D0q _)
   simp only[]
   have:=h3.app2 (A2 h8) hA2
   rw[f1,f3]
   exact this
  ·have s:l[i].c[k].sign=0:=(by rw[c];rfl)
   rw[if_neg (by omega),D0E]at f1
   rw[if_neg (by omega),D0E]at f2
   rw[if_pos c]at f3
   repeat' (first|with_reducible apply C9P|simp only[go_sem,hkd,A9 _ _ hlt,C2 _ _ hlt,A9 _ _ hkl,C2 _ _ hkl,hki,s]|simp(disch:=omega) only[A0,A9,D4]|(intro hx_;try simp only[A4]at hx_)|with_reducible refine K2 _ _ ?_|omega)
   rename_i b8 h8 bx
   have hbx:=hx_
   clear hx_
   refine A5u (P:=Tryz.prog) (H0:=Hp.set b8 (.box (C5 l[i]))) (es:=Rw C5 (S6 (l.take i) k)) (by rw[A4];exact hbx) (by simp) (h3.a3.up (A2 h8)) (by rw[D6]) (by simp only[C9U,C9W];omega) (by simp only[C9U,C9W];omega) fun b' H' hA=>?_
   repeat' (first|with_reducible apply C9P|simp only[go_sem]|simp(disch:=omega) only[A0,A9,D4]|(intro hx_;try simp only[A4]at hx_)|omega)
   have hA2:Apd (Hp.set b8 (.box (C5 l[i]))) 4 o3 (Rw C5 (S6 (l.take (i+1)) k)) b' H':=by rw[f3,←O2];exact hA
   refine C3 (i+1,o1,o2,some b',H') ⟨by simp only[];omega,?_⟩ (by simp only[];omega) (by(try simp only[go_sem,f1,f2,f3,C9V,K1])<;>(try simp(disch:=omega) [A0])<;>(try omega)) (D0q _)
   simp only[]
   have:=h3.app3 (A2 h8) hA2
   rw[f1,f2]
   exact this
  ·have s:l[i].c[k].sign=1:=Int.sign_eq_one_of_pos c
   rw[if_pos c]at f1
   rw[if_neg (by omega),D0E]at f2
   rw[if_neg (by omega),D0E]at f3
   repeat' (first|with_reducible apply C9P|simp only[go_sem,hkd,A9 _ _ hlt,C2 _ _ hlt,A9 _ _ hkl,C2 _ _ hkl,hki,s]|simp(disch:=omega) only[A0,A9,D4]|(intro hx_;try simp only[A4]at hx_)|with_reducible refine K2 _ _ ?_|omega)
   rename_i b8 h8 bx
   have hbx:=hx_
   clear hx_
   refine A5u (P:=Tryz.prog) (H0:=Hp.set b8 (.box (C5 l[i]))) (es:=Rw C5 (I3 (l.take i) k)) (by rw[A4];exact hbx) (by simp) (h3.a1.up (A2 h8)) (by rw[D6]) (by simp only[C9U,C9W];omega) (by simp only[C9U,C9W];omega) fun b' H' hA=>?_
   repeat' (first|with_reducible apply C9P|simp only[go_sem]|simp(disch:=omega) only[A0,A9,D4]|(intro hx_;try simp only[A4]at hx_)|omega)
   have hA2:Apd (Hp.set b8 (.box (C5 l[i]))) 4 o1 (Rw C5 (I3 (l.take (i+1)) k)) b' H':=by rw[f1,←O2];exact hA
   refine C3 (i+1,some b',o2,o3,H') ⟨by simp only[];omega,?_⟩ (by simp only[];omega) (by(try simp only[go_sem,f1,f2,f3,C9V,K1])<;>(try simp(disch:=omega) [A0])<;>(try omega)) (D0q _)
   simp only[]
   have:=h3.app1 (A2 h8) hA2
   rw[f2,f3]
   exact this
 ·have hkd:decide ((i:Int)<l.length)=false:=C9S (by omega)
  rw[C9e (by omega)]at h3
  have e1:l.take i=l:=C9e (by omega)
  repeat' (first|with_reducible apply C9P|simp only[go_sem,hkd,e1]|simp(disch:=omega) only[A0,A9,D4]|(intro hx_;try simp only[A4]at hx_)|omega)
  have h4:=h3.last
  refine A6S (by rw[D6]) h3.a1 (B4X (by rw[D6]) h4.2 (D0r h4.1 (h o3 (fun e=>?_) h3.n3)))
  have:=h3.a3
  rw[e]at this
  have this:Rw C5 (S6 l k)= []:=this
  exact C9n (by rw[←D6 (f:=C5),this];rfl)
end Go.Proofs.YtibphjonmikciaaGreatDoor
namespace Go.Lin
open Go Go.Av
theorem B83{H:Heap}{sz:Nat}{es:List (List D)}{ob:Option Nat}(h: ∀b,ob=some b→H b=none):H.Le (putB H sz es ob):=by
 cases ob with
 |none=>exact D0q H
 |some b=>exact A2 (h b rfl)
theorem B2l{α :Type}(p: α →Bool): ∀l:List α,(!l.any fun x=> !p x)=l.all p
 | []=>rfl
 |x::l=>by rw[D0U,D0S,←B2l p l];cases p x<;>simp
def chT(l:List Row)(k:Nat):Ch:=(List.range k).foldl (A3O l) ⟨none,false,0⟩
@[go_sem] theorem C78(l:List Row):L0 (chT l 0).best= -1:=rfl
@[go_sem] theorem C79(l:List Row):(chT l 0).sure=false:=rfl
@[go_sem] theorem C8A(l:List Row):(chT l 0).cost=0:=rfl
theorem B0C(l:List Row)(k:Nat):chT l (k+1)=A3O l (chT l k) k:=by simp[chT,List.range_succ,D0H]
end Go.Lin
namespace Go.Proofs.YtibphjonmikciaaGreatDoor
open Go Go.Av Go.Lin
attribute [local irreducible] ACalls W4
theorem B84{Q}(r:Row)(k b:Nat)(hk:k<r.c.length)(H:Heap)(hb:H b=some (.box [.int .i64 (k:Int)]))(h:Q (.bool (!((U8 r.c k).natAbs==1))) H):ACalls Tryz.prog 286 [.agg (C5 r),.box b 0] H Q:=by
 refine B2 [] B3 Tryz.func286 rfl (by kernel_rfl) (C9Q (by kernel_rfl)) (by kernel_rfl) ?_
 simp only[go_sem,Tryz.results286]
 intro b2 hb2
 have e2:(H.set b2 (.box (C5 r))) b2=some (.box (C5 r)):=A5 _ _
 have e1:(H.set b2 (.box (C5 r))) b=some (.box [.int .i64 (k:Int)]):=(A2 hb2) _ _ hb
 have hle:H.Le (H.set b2 (.box (C5 r))):=A2 hb2
 generalize H.set b2 (.box (C5 r))=Bs at e1 e2 hle⊢
 have hki:(k:Int)<r.c.length:=by omega
 rw[D4 _ _ hk]at h
 have e:(!(r.c[k].natAbs==1))=(!decide (r.c[k].natAbs=1)):=by by_cases g:r.c[k].natAbs=1<;>simp[g]
 rw[e]at h
 repeat' (first|with_reducible apply C9P|simp only[go_sem,e1,e2,hki,A9 _ _ hk,C2 _ _ hk]|simp(disch:=omega) only[A9,D4]|intro hx_|with_reducible refine A91 _ _ ?_|omega)
 exact D0r hle h
theorem L2{Q}(l:List Row)(k:Nat)(hlen:l.length≤1000000)(hk: ∀r∈l,k<r.c.length)(H:Heap)(h:Q (.bool (A1p l k)) H):ACalls Tryz.prog 261 [.sl 4 (Rw C5 l),.int .i64 (k:Int)] H Q:=by
 refine B2 [] B3 Tryz.func261 rfl (by kernel_rfl) (C9Q (by kernel_rfl)) (by kernel_rfl) ?_
 simp only[go_sem,Tryz.results261]
 intro b3 hb3
 have e3:(H.set b3 (.box [.int .i64 (k:Int)])) b3=some (.box [.int .i64 (k:Int)]):=A5 _ _
 unfold A1p at h
 rw[←B2l]at h
 have hf: ∀a∈l,∀(Q:D→Heap→Prop),Q (.bool (!((U8 a.c k).natAbs==1))) (H.set b3 (.box [.int .i64 (k:Int)]))→ACalls Tryz.prog 286 ([]++[.agg (C5 a)]++[.box b3 0]) (H.set b3 (.box [.int .i64 (k:Int)])) Q:=fun a ha Q hq=>B84 a k b3 (hk a ha) _ e3 hq
 repeat' (first|with_reducible apply C9P|simp only[go_sem]|intro hx_|omega)
 refine C2j (fun r=> !((U8 r.c k).natAbs==1)) l (by omega) 286 [] [.box b3 0] _ hf ?_
 repeat' (first|with_reducible apply C9P|simp only[go_sem]|intro hx_|omega)
 exact D0r (A2 hb3) h
set_option maxHeartbeats 4000000 in
theorem B6F{Q}(l:List Row)(n:Nat)(hl:l≠[])(hlen:l.length≤1000000)(hw: ∀r∈l,r.c.length=n)(hn:n≤1000000)(H:Heap)(h:Q (.tuple [.int .i64 (L0 (Y2 l).best),.bool (Y2 l).sure]) H):
  ACalls Tryz.prog 224 [.sl 4 (Rw C5 l)] H Q:=by
 refine B2 [] B3 Tryz.func224 rfl (by kernel_rfl) (C9Q (by kernel_rfl)) (by kernel_rfl) ?_
 simp only[go_sem,Tryz.results224]
 have h0:0<l.length:=List.length_pos_iff.2 hl
 have h0i:(0:Int)<l.length:=by omega
 have hl0:l[0].c.length=n:=hw _ (C9d h0)
 have hr:Y2 l=chT l n:=by
  unfold Y2 chT
  rw[show (l.headD default).c.length=n from by rw[←hl0];cases l with|nil=>exact absurd rfl hl|cons x l=>rfl]
 rw[hr]at h
 repeat' (first|with_reducible apply C9P|simp only[go_sem,h0i,A9 _ _ h0,C2 _ _ h0,hl0]|simp(disch:=omega) only[A0,A9]|intro hx_|omega)
 refine D1 [0,15] (fun(k:Nat)=>[(16,.int .i64 k),(2,.int .i64 (L0 (chT l k).best)),(3,.bool (chT l k).sure),(4,.int .i64 (chT l k).cost)]) (fun(k:Nat)=>H) (fun(k:Nat)=>k≤n) (fun(k:Nat)=>n-k) (0) (C9k _) (by(try simp only[go_sem])<;>(try simp(disch:=omega) [A0])<;>(try omega)) (by first|exact D0q _|exact A2 (by assumption)|exact B4 (by assumption)|simp only[Heap.Le,Heap.set,Heap.del]at* <;>grind) ?_
 rintro Ec rfl k hk
 by_cases hlt:k<n
 ·have hkd:decide ((k:Int)<n)=true:=C9R (by omega)
  repeat' (first|with_reducible apply C9P|simp only[go_sem,hkd]|simp(disch:=omega) only[A0,A9]|intro hx_|omega)
  refine B2k l k hlen (fun r hr=>by rw[hw r hr];exact hlt) _ fun ob _ hob=>?_
  have hle:=B83 (sz:=4) (es:=Rw C5 (S6 l k)) hob
  generalize putB H 4 (Rw C5 (S6 l k)) ob=Hp at hle⊢
  have m1:(I3 l k).length≤1000000:=D0V (V3 _) hlen
  have m2:(F0 l k).length≤1000000:=D0V (V3 _) hlen
  obtain⟨p,hp⟩: ∃p,p=(I3 l k).length:=⟨_,rfl⟩
  obtain⟨q,hq⟩: ∃q,q=(F0 l k).length:=⟨_,rfl⟩
  have hs:=B0C l k
  unfold A3O at hs
  simp only[←hp,←hq]at hs
  have w1: ∀r∈I3 l k,k<r.c.length:=fun r hr=>by rw[hw r ((List.mem_filter.1 hr).1)];exact hlt
  have w2: ∀r∈F0 l k,k<r.c.length:=fun r hr=>by rw[hw r ((List.mem_filter.1 hr).1)];exact hlt
  have m3:(p:Int)*q≤1000000000000:=by
   have:p*q≤1000000*1000000:=Nat.mul_le_mul (by omega) (by omega)
   rw[←Int.natCast_mul];omega
  have m4:(0:Int)≤(p:Int)*q:=by rw[←Int.natCast_mul];omega
  by_cases hz:p+q=0
  ·have hzi:(p:Int)+q=0:=by omega
   rw[if_pos hz]at hs
   repeat' (first|with_reducible apply C9P|simp only[go_sem,←hp,←hq,hzi]|simp(disch:=omega) only[A0,A9]|intro hx_|omega)
   refine C3 (k+1) (by omega) (by omega) (by(try simp only[go_sem,hs])<;>(try simp(disch:=omega) [A0])<;>(try omega)) hle
  ·have hzi: ¬(p:Int)+q=0:=by omega
   rw[if_neg hz]at hs
   obtain⟨c,hc⟩: ∃c,c=(chT l k).cost:=⟨_,rfl⟩
   obtain⟨m,hm⟩: ∃m,m=(p:Int)*q:=⟨_,rfl⟩
   rw[←hc,←hm]at hs
   rw[←hm]at m3 m4
   have hu:A1p (I3 l k) k=true∨(A1p (I3 l k) k=false∧A1p (F0 l k) k=true)∨(A1p (I3 l k) k=false∧A1p (F0 l k) k=false):=by
    cases A1p (I3 l k) k<;>cases A1p (F0 l k) k<;>simp
   have hbs:(chT l k).best=none∨∃j,(chT l k).best=some j:=by cases (chT l k).best<;>simp
   rcases hu with hu1|⟨hu1,hu2⟩|⟨hu1,hu2⟩
   ·have hu2:True:=trivial
    rcases hbs with hb|⟨j,hb⟩
    ·have hsu:True:=trivial
     have hx:True:=trivial
     have hs2:=hs
     simp[hu1,hu2,hb,hsu,hx]at hs2
     have o1: ∀j:Nat,¬(L0 (some j)<0):=fun j=>by show¬((j:Int)<0);omega
     have o2:L0 none= -1:=rfl
     have o3:L0 (some k)=k:=rfl
     repeat' (first|with_reducible apply C9P|simp only[go_sem,←hp,←hq,←hc,←hm,hzi,hu1,hu2,hb,hsu,hx,o1,o2,decide_true,decide_false]|simp(disch:=omega) only[A0,A9]|intro hx_|with_reducible refine L2 (I3 l k) k (by omega) w1 _ ?_|with_reducible refine L2 (F0 l k) k (by omega) w2 _ ?_|omega)
     refine C3 (k+1) (by omega) (by omega) (by(try simp only[go_sem,hs2,hb,hsu,o2,o3,←hc])<;>(try simp(disch:=omega) [A0])<;>(try omega)) hle
    ·cases hsu:(chT l k).sure
     ·have hx:True:=trivial
      have hs2:=hs
      simp[hu1,hu2,hb,hsu,hx]at hs2
      have o1: ∀j:Nat,¬(L0 (some j)<0):=fun j=>by show¬((j:Int)<0);omega
      have o2:L0 none= -1:=rfl
      have o3:L0 (some k)=k:=rfl
      repeat' (first|with_reducible apply C9P|simp only[go_sem,←hp,←hq,←hc,←hm,hzi,hu1,hu2,hb,hsu,hx,o1,o2,decide_true,decide_false]|simp(disch:=omega) only[A0,A9]|intro hx_|with_reducible refine L2 (I3 l k) k (by omega) w1 _ ?_|with_reducible refine L2 (F0 l k) k (by omega) w2 _ ?_|omega)
      refine C3 (k+1) (by omega) (by omega) (by(try simp only[go_sem,hs2,hb,hsu,o2,o3,←hc])<;>(try simp(disch:=omega) [A0])<;>(try omega)) hle
     ·by_cases hx:m-p-q<c
      ·have hs2:=hs
       simp[hu1,hu2,hb,hsu,hx]at hs2
       have o1: ∀j:Nat,¬(L0 (some j)<0):=fun j=>by show¬((j:Int)<0);omega
       have o2:L0 none= -1:=rfl
       have o3:L0 (some k)=k:=rfl
       repeat' (first|with_reducible apply C9P|simp only[go_sem,←hp,←hq,←hc,←hm,hzi,hu1,hu2,hb,hsu,hx,o1,o2,decide_true,decide_false]|simp(disch:=omega) only[A0,A9]|intro hx_|with_reducible refine L2 (I3 l k) k (by omega) w1 _ ?_|with_reducible refine L2 (F0 l k) k (by omega) w2 _ ?_|omega)
       refine C3 (k+1) (by omega) (by omega) (by(try simp only[go_sem,hs2,hb,hsu,o2,o3,←hc])<;>(try simp(disch:=omega) [A0])<;>(try omega)) hle
      ·have hs2:=hs
       simp[hu1,hu2,hb,hsu,hx]at hs2
       have o1: ∀j:Nat,¬(L0 (some j)<0):=fun j=>by show¬((j:Int)<0);omega
       have o2:L0 none= -1:=rfl
       have o3:L0 (some k)=k:=rfl
       repeat' (first|with_reducible apply C9P|simp only[go_sem,←hp,←hq,←hc,←hm,hzi,hu1,hu2,hb,hsu,hx,o1,o2,decide_true,decide_false]|simp(disch:=omega) only[A0,A9]|intro hx_|with_reducible refine L2 (I3 l k) k (by omega) w1 _ ?_|with_reducible refine L2 (F0 l k) k (by omega) w2 _ ?_|omega)
       refine C3 (k+1) (by omega) (by omega) (by(try simp only[go_sem,hs2,hb,hsu,o2,o3,←hc])<;>(try simp(disch:=omega) [A0])<;>(try omega)) hle
   ·rcases hbs with hb|⟨j,hb⟩
    ·have hsu:True:=trivial
     have hx:True:=trivial
     have hs2:=hs
     simp[hu1,hu2,hb,hsu,hx]at hs2
     have o1: ∀j:Nat,¬(L0 (some j)<0):=fun j=>by show¬((j:Int)<0);omega
     have o2:L0 none= -1:=rfl
     have o3:L0 (some k)=k:=rfl
     repeat' (first|with_reducible apply C9P|simp only[go_sem,←hp,←hq,←hc,←hm,hzi,hu1,hu2,hb,hsu,hx,o1,o2,decide_true,decide_false]|simp(disch:=omega) only[A0,A9]|intro hx_|with_reducible refine L2 (I3 l k) k (by omega) w1 _ ?_|with_reducible refine L2 (F0 l k) k (by omega) w2 _ ?_|omega)
     refine C3 (k+1) (by omega) (by omega) (by(try simp only[go_sem,hs2,hb,hsu,o2,o3,←hc])<;>(try simp(disch:=omega) [A0])<;>(try omega)) hle
    ·cases hsu:(chT l k).sure
     ·have hx:True:=trivial
      have hs2:=hs
      simp[hu1,hu2,hb,hsu,hx]at hs2
      have o1: ∀j:Nat,¬(L0 (some j)<0):=fun j=>by show¬((j:Int)<0);omega
      have o2:L0 none= -1:=rfl
      have o3:L0 (some k)=k:=rfl
      repeat' (first|with_reducible apply C9P|simp only[go_sem,←hp,←hq,←hc,←hm,hzi,hu1,hu2,hb,hsu,hx,o1,o2,decide_true,decide_false]|simp(disch:=omega) only[A0,A9]|intro hx_|with_reducible refine L2 (I3 l k) k (by omega) w1 _ ?_|with_reducible refine L2 (F0 l k) k (by omega) w2 _ ?_|omega)
      refine C3 (k+1) (by omega) (by omega) (by(try simp only[go_sem,hs2,hb,hsu,o2,o3,←hc])<;>(try simp(disch:=omega) [A0])<;>(try omega)) hle
     ·by_cases hx:m-p-q<c
      ·have hs2:=hs
       simp[hu1,hu2,hb,hsu,hx]at hs2
       have o1: ∀j:Nat,¬(L0 (some j)<0):=fun j=>by show¬((j:Int)<0);omega
       have o2:L0 none= -1:=rfl
       have o3:L0 (some k)=k:=rfl
       repeat' (first|with_reducible apply C9P|simp only[go_sem,←hp,←hq,←hc,←hm,hzi,hu1,hu2,hb,hsu,hx,o1,o2,decide_true,decide_false]|simp(disch:=omega) only[A0,A9]|intro hx_|with_reducible refine L2 (I3 l k) k (by omega) w1 _ ?_|with_reducible refine L2 (F0 l k) k (by omega) w2 _ ?_|omega)
       refine C3 (k+1) (by omega) (by omega) (by(try simp only[go_sem,hs2,hb,hsu,o2,o3,←hc])<;>(try simp(disch:=omega) [A0])<;>(try omega)) hle
      ·have hs2:=hs
       simp[hu1,hu2,hb,hsu,hx]at hs2
       have o1: ∀j:Nat,¬(L0 (some j)<0):=fun j=>by show¬((j:Int)<0);omega
       have o2:L0 none= -1:=rfl
       have o3:L0 (some k)=k:=rfl
       repeat' (first|with_reducible apply C9P|simp only[go_sem,←hp,←hq,←hc,←hm,hzi,hu1,hu2,hb,hsu,hx,o1,o2,decide_true,decide_false]|simp(disch:=omega) only[A0,A9]|intro hx_|with_reducible refine L2 (I3 l k) k (by omega) w1 _ ?_|with_reducible refine L2 (F0 l k) k (by omega) w2 _ ?_|omega)
       refine C3 (k+1) (by omega) (by omega) (by(try simp only[go_sem,hs2,hb,hsu,o2,o3,←hc])<;>(try simp(disch:=omega) [A0])<;>(try omega)) hle
   ·rcases hbs with hb|⟨j,hb⟩
    ·have hsu:True:=trivial
     have hx:True:=trivial
     have hs2:=hs
     simp[hu1,hu2,hb,hsu,hx]at hs2
     have o1: ∀j:Nat,¬(L0 (some j)<0):=fun j=>by show¬((j:Int)<0);omega
     have o2:L0 none= -1:=rfl
     have o3:L0 (some k)=k:=rfl
     repeat' (first|with_reducible apply C9P|simp only[go_sem,←hp,←hq,←hc,←hm,hzi,hu1,hu2,hb,hsu,hx,o1,o2,decide_true,decide_false]|simp(disch:=omega) only[A0,A9]|intro hx_|with_reducible refine L2 (I3 l k) k (by omega) w1 _ ?_|with_reducible refine L2 (F0 l k) k (by omega) w2 _ ?_|omega)
     refine C3 (k+1) (by omega) (by omega) (by(try simp only[go_sem,hs2,hb,hsu,o2,o3,←hc])<;>(try simp(disch:=omega) [A0])<;>(try omega)) hle
    ·cases hsu:(chT l k).sure
     ·by_cases hx:m-p-q<c
      ·have hs2:=hs
       simp[hu1,hu2,hb,hsu,hx]at hs2
       have o1: ∀j:Nat,¬(L0 (some j)<0):=fun j=>by show¬((j:Int)<0);omega
       have o2:L0 none= -1:=rfl
       have o3:L0 (some k)=k:=rfl
       repeat' (first|with_reducible apply C9P|simp only[go_sem,←hp,←hq,←hc,←hm,hzi,hu1,hu2,hb,hsu,hx,o1,o2,decide_true,decide_false]|simp(disch:=omega) only[A0,A9]|intro hx_|with_reducible refine L2 (I3 l k) k (by omega) w1 _ ?_|with_reducible refine L2 (F0 l k) k (by omega) w2 _ ?_|omega)
       refine C3 (k+1) (by omega) (by omega) (by(try simp only[go_sem,hs2,hb,hsu,o2,o3,←hc])<;>(try simp(disch:=omega) [A0])<;>(try omega)) hle
      ·have hs2:=hs
       simp[hu1,hu2,hb,hsu,hx]at hs2
       have o1: ∀j:Nat,¬(L0 (some j)<0):=fun j=>by show¬((j:Int)<0);omega
       have o2:L0 none= -1:=rfl
       have o3:L0 (some k)=k:=rfl
       repeat' (first|with_reducible apply C9P|simp only[go_sem,←hp,←hq,←hc,←hm,hzi,hu1,hu2,hb,hsu,hx,o1,o2,decide_true,decide_false]|simp(disch:=omega) only[A0,A9]|intro hx_|with_reducible refine L2 (I3 l k) k (by omega) w1 _ ?_|with_reducible refine L2 (F0 l k) k (by omega) w2 _ ?_|omega)
       refine C3 (k+1) (by omega) (by omega) (by(try simp only[go_sem,hs2,hb,hsu,o2,o3,←hc])<;>(try simp(disch:=omega) [A0])<;>(try omega)) hle
     ·have hx:True:=trivial
      have hs2:=hs
      simp[hu1,hu2,hb,hsu,hx]at hs2
      have o1: ∀j:Nat,¬(L0 (some j)<0):=fun j=>by show¬((j:Int)<0);omega
      have o2:L0 none= -1:=rfl
      have o3:L0 (some k)=k:=rfl
      repeat' (first|with_reducible apply C9P|simp only[go_sem,←hp,←hq,←hc,←hm,hzi,hu1,hu2,hb,hsu,hx,o1,o2,decide_true,decide_false]|simp(disch:=omega) only[A0,A9]|intro hx_|with_reducible refine L2 (I3 l k) k (by omega) w1 _ ?_|with_reducible refine L2 (F0 l k) k (by omega) w2 _ ?_|omega)
      refine C3 (k+1) (by omega) (by omega) (by(try simp only[go_sem,hs2,hb,hsu,o2,o3,←hc])<;>(try simp(disch:=omega) [A0])<;>(try omega)) hle
 ·have hkd:decide ((k:Int)<n)=false:=C9S (by omega)
  have hkn:k=n:=by omega
  subst hkn
  repeat' (first|with_reducible apply C9P|simp only[go_sem,hkd]|simp(disch:=omega) only[A0,A9]|intro hx_|omega)
  exact D0u h
end Go.Proofs.YtibphjonmikciaaGreatDoor
namespace Go.Lin
open Go Go.Av Go.Lexs
theorem B0D(k:Int)(l:List LTm)(vs:List VlV)(i:Nat)(h:i<l.length):J0 k (l.drop i) vs=match L4 vs l[i].v with|none=>none|some n=>J0 (k+l[i].c*n) (l.drop (i+1)) vs:=by
 rw[C9u h,J0];rfl
theorem B6G{vs:List VlV}(hv:M2 vs=true){s:ByteArray}{n:Int}(h:L4 vs s=some n):n.natAbs≤2147483647:=by
 have key: ∀(m:List VlV),(∀(i:Nat) (hi:i<m.length),m[i].n.natAbs≤2147483647)→L4 m s=some n→n.natAbs≤2147483647:=by
  intro m
  induction m with
  |nil=>intro _ h;cases h
  |cons x m ih=>
   intro hm h
   rw[L4]at h
   split at h
   ·cases h;exact hm 0 (by simp)
   ·exact ih (fun i hi=>hm (i+1) (by simpa using hi)) h
 exact key vs (fun i hi=>(A8B hv hi).2.1) h
structure C8B(a:LinV):Prop where
 len:a.t.length≤12
 k:a.k.natAbs≤1099511627776
 t:l4 a.t=true
theorem L9{a:LinV}(h:validL a=true):C8B a:=by
 unfold validL N1 at h
 simp only[C9c,C9l]at h
 exact⟨h.1.2,by omega,h.1.1⟩
theorem B6H{a b:Int}(ha:a.natAbs≤1048576)(hb:b.natAbs≤2147483647):(a*b).natAbs≤2251799812636672:=by
 rw[Int.natAbs_mul]
 exact D0V (Nat.mul_le_mul ha hb) (by decide)
end Go.Lin
namespace Go.Proofs.YtibphjonmikciaaGreatDoor
open Go Go.Av Go.Lexs Go.Lin
attribute [local irreducible] ACalls W4
theorem B85{Q}(a:LinV)(ha:validL a=true)(vs:List VlV)(hv:M2 vs=true)(hlen:vs.length≤1000000000000000)(H:Heap)(h:Q (.tuple [.int .i64 ((J0 a.k a.t vs).getD 0),.bool (J0 a.k a.t vs).isSome]) H):ACalls Tryz.prog 107 [.agg (E3 a),.sl 2 (Rw vlC vs)] H Q:=by
 refine B2 [] B3 Tryz.func107 rfl (by kernel_rfl) (C9Q (by kernel_rfl)) (by kernel_rfl) ?_
 simp only[go_sem,Tryz.results107]
 have ok:=L9 ha
 intro b1 hb1
 have e1:(H.set b1 (.box (E3 a))) b1=some (.box (E3 a)):=A5 _ _
 have hle:H.Le (H.set b1 (.box (E3 a))):=A2 hb1
 generalize H.set b1 (.box (E3 a))=Bs at e1 hle⊢
 have okl:=ok.len
 have okk:=ok.k
 repeat' (first|with_reducible apply C9P|simp only[go_sem,e1]|simp(disch:=omega) only[A0,A9]|intro hx_|omega)
 refine D1 [1,14,15] (fun(p:Nat×Int)=>[(16,.int .i64 p.1),(6,.int .i64 p.2)]) (fun(p:Nat×Int)=>H) (fun(p:Nat×Int)=>p.1≤a.t.length∧J0 a.k a.t vs=J0 p.2 (a.t.drop p.1) vs∧p.2.natAbs≤1099511627776+p.1*2251799812636672) (fun(p:Nat×Int)=>a.t.length-p.1) ((0,a.k)) (⟨C9k _,rfl,by simpa using okk⟩) (by(try simp only[go_sem])<;>(try simp(disch:=omega) [A0])<;>(try omega)) (by first|exact D0q _|exact A2 (by assumption)|exact B4 (by assumption)|simp only[Heap.Le,Heap.set,Heap.del]at* <;>grind) ?_
 rintro Ec rfl ⟨i,s⟩ ⟨hi,hT,hs⟩
 simp only at hi hT hs
 by_cases hlt:i<a.t.length
 ·have hkd:decide ((i:Int)<a.t.length)=true:=C9R (by omega)
  have hti:(i:Int)<a.t.length:=by omega
  have ot:=A1n ok.t hlt
  rw[B0D _ _ _ _ hlt]at hT
  cases hg:L4 vs a.t[i].v with
  |none=>
   rw[hg]at hT
   have hT:J0 a.k a.t vs=none:=hT
   rw[hT]at h
   simp only[Option.getD_none,Option.isSome_none]at h
   have gc: ∀(H:Heap) (Q:D→Heap→Prop),Q (.tuple [.int .i64 0,.bool false]) H→ACalls Tryz.prog 62 [.sl 2 (Rw vlC vs),.str a.t[i].v] H Q:=fun H Q hq=>A99 vs hv _ hlen H (by rw[hg];exact hq)
   repeat' (first|with_reducible apply C9P|simp only[go_sem,hkd,hti,A9 _ _ hlt,C2 _ _ hlt]|simp(disch:=omega) only[A0,A9]|intro hx_|with_reducible refine gc _ _ ?_|omega)
   exact D0r (by simp only[Go.Av.Heap.Le,Go.Av.Heap.set,Go.Av.Heap.del]at* <;>grind) h
  |some n=>
   rw[hg]at hT
   have hT:J0 a.k a.t vs=J0 (s+a.t[i].c*n) (a.t.drop (i+1)) vs:=hT
   have hn:=B6G hv hg
   have hp:=B6H ot.2.2.1 hn
   have gc: ∀(H:Heap) (Q:D→Heap→Prop),Q (.tuple [.int .i64 n,.bool true]) H→ACalls Tryz.prog 62 [.sl 2 (Rw vlC vs),.str a.t[i].v] H Q:=fun H Q hq=>A99 vs hv _ hlen H (by rw[hg];exact hq)
   obtain⟨z,hz⟩: ∃z,z=a.t[i].c*n:=⟨_,rfl⟩
   rw[←hz]at hT hp
   repeat' (first|with_reducible apply C9P|simp only[go_sem,hkd,hti,A9 _ _ hlt,C2 _ _ hlt,←hz]|simp(disch:=omega) only[A0,A9]|intro hx_|with_reducible refine gc _ _ ?_|omega)
   refine C3 (i+1,s+z) ⟨by simp only[];omega,hT,by simp only[];omega⟩ (by simp only[];omega) (by(try simp only[go_sem])<;>(try simp(disch:=omega) [A0])<;>(try omega)) (by simp only[Go.Av.Heap.Le,Go.Av.Heap.set,Go.Av.Heap.del]at* <;>grind)
 ·have hkd:decide ((i:Int)<a.t.length)=false:=C9S (by omega)
  rw[List.drop_eq_nil_of_le (by omega),J0]at hT
  rw[hT]at h
  simp only[Option.getD_some,Option.isSome_some]at h
  repeat' (first|with_reducible apply C9P|simp only[go_sem,hkd]|simp(disch:=omega) only[A0,A9]|intro hx_|omega)
  exact D0u h
end Go.Proofs.YtibphjonmikciaaGreatDoor
end
section
namespace Go.Fo
open Go Go.Av Go.Lexs Go.Lin
def D2:ByteArray:=⟨#[]⟩
def S8:Fm:=.mk 0 0 nilL D2 []
def A0D(l:LinV):Fm:=.mk 2 0 l D2 []
def shL(l:LinV)(sg:Int):LinV:=⟨l.t.map fun t=>⟨t.v,sg*t.c⟩,sg*l.k-1,false⟩
def opL(l:LinV):Fm:=if l.e=true then .mk 6 0 nilL D2 [A0D (shL l 1),A0D (shL l (-1))]else A0D (shL l (-1))
def opO(o:Int)(b:Bool):Int:=if b=true then 11-o else o
def normF:Fm→Bool→Fm
 | .mk o n l s ks,b=>
  if o=1 then .mk o (if b=true then 1-n else n) l s ks
  else if o=2 then(if b=true then opL l else .mk o n l s ks)
  else if o=3 then(if b=true then .mk 4 0 nilL D2 [.mk o n l s ks]else .mk o n l s ks)
  else if o=4 then normH ks (!b)
  else .mk (opO o b) 0 nilL D2 (normK ks b)
where
 normH:List Fm→Bool→Fm
 | [],_=>S8
 |f::_,b=>normF f b
 normK:List Fm→Bool→List Fm
 | [],_=>[]
 |f::fs,b=>normF f b::normK fs b
theorem B6I(ks:List Fm)(b:Bool):normF.normK ks b=ks.map (normF · b):=by
 induction ks with
 |nil=>rfl
 |cons f fs ih=>rw[normF.normK,ih];rfl
theorem B2m{f:Fm}(b:Bool)(h:f.op=1):normF f b= .mk 1 (if b=true then 1-f.n else f.n) f.l f.s f.ks:=by
 obtain⟨o,n,l,s,ks⟩:=f
 simp only[Fm.op]at h
 subst h
 rw[normF,if_pos rfl];rfl
theorem B2n{f:Fm}(b:Bool)(h:f.op=2):normF f b=if b=true then opL f.l else f:=by
 obtain⟨o,n,l,s,ks⟩:=f
 simp only[Fm.op]at h
 subst h
 rw[normF,if_neg (by decide),if_pos rfl];rfl
theorem B2o{f:Fm}(b:Bool)(h:f.op=3):normF f b=if b=true then .mk 4 0 nilL D2 [f]else f:=by
 obtain⟨o,n,l,s,ks⟩:=f
 simp only[Fm.op]at h
 subst h
 rw[normF,if_neg (by decide),if_neg (by decide),if_pos rfl]
theorem B2p{f k:Fm}(b:Bool)(h:f.op=4)(hk:f.ks= [k]):normF f b=normF k (!b):=by
 obtain⟨o,n,l,s,ks⟩:=f
 simp only[Fm.op]at h
 simp only[Fm.ks]at hk
 subst h;subst hk
 rw[normF,if_neg (by decide),if_neg (by decide),if_neg (by decide),if_pos rfl];rfl
theorem A7H{f:Fm}(b:Bool)(h1:f.op≠1)(h2:f.op≠2)(h3:f.op≠3)(h4:f.op≠4):normF f b= .mk (opO f.op b) 0 nilL D2 (f.ks.map (normF · b)):=by
 obtain⟨o,n,l,s,ks⟩:=f
 simp only[Fm.op]at h1 h2 h3 h4
 rw[normF,if_neg h1,if_neg h2,if_neg h3,if_neg h4,B6I];rfl
theorem A3Y(l:LinV):A9i l=true↔l=nilL:=by
 obtain⟨t,k,e⟩:=l
 unfold A9i nilL
 simp only[C9c,C9l,Bool.not_eq_true',LinV.mk.injEq]
 exact and_assoc
theorem B2q{s:ByteArray}(h:s.size=0):s=D2:=by
 obtain⟨d⟩:=s
 have:d= #[]:=Array.eq_empty_of_size_eq_zero h
 subst this;rfl
inductive A4c:Fm→Prop
 |con (n:Int) (h:n=0∨n=1):A4c (.mk 1 n nilL D2 [])
 |lin (l:LinV) (h:validL l=true) (hp: ∀t∈l.t,plainB t.v=true):A4c (.mk 2 0 l D2 [])
 |var (s:ByteArray) (h:plainB s=true):A4c (.mk 3 0 nilL s [])
 |not (k:Fm):A4c (.mk 4 0 nilL D2 [k])
 |and(ks:List Fm):A4c (.mk 5 0 nilL D2 ks)
 |or (ks:List Fm):A4c (.mk 6 0 nilL D2 ks)
theorem B6J{f:Fm}(h:D5 f=true):A4c f:=by
 unfold D5 at h
 by_cases h1:f.op=1
 ·rw[if_pos h1]at h
  obtain⟨o,n,l,s,ks⟩:=f
  simp only[Fm.op,Fm.n,Fm.l,Fm.s,Fm.ks,C9c,D0m,List.isEmpty_iff]at h h1
  obtain⟨⟨⟨hn,hs⟩,hl⟩,hk⟩:=h
  have hn:n=0∨n=1:=hn.imp C9Q C9Q
  rw[h1,B2q (C9Q hs),(A3Y l).1 hl,hk];exact .con n hn
 ·rw[if_neg h1]at h
  by_cases h2:f.op=2
  ·rw[if_pos h2]at h
   obtain⟨o,n,l,s,ks⟩:=f
   simp only[Fm.op,Fm.n,Fm.l,Fm.s,Fm.ks,C9c,List.isEmpty_iff,C90]at h h2
   obtain⟨⟨⟨⟨hn,hs⟩,hk⟩,hl⟩,hp⟩:=h
   rw[h2,show n=0 from C9Q hn,B2q (C9Q hs),hk];exact .lin l hl hp
  ·rw[if_neg h2]at h
   by_cases h3:f.op=3
   ·rw[if_pos h3]at h
    obtain⟨o,n,l,s,ks⟩:=f
    simp only[Fm.op,Fm.n,Fm.l,Fm.s,Fm.ks,C9c,List.isEmpty_iff]at h h3
    obtain⟨⟨⟨hn,hl⟩,hk⟩,hp⟩:=h
    rw[h3,show n=0 from C9Q hn,(A3Y l).1 hl,hk];exact .var s hp
   ·rw[if_neg h3]at h
    by_cases h4:f.op=4
    ·rw[if_pos h4]at h
     obtain⟨o,n,l,s,ks⟩:=f
     simp only[Fm.op,Fm.n,Fm.l,Fm.s,Fm.ks,C9c]at h h4
     obtain⟨⟨⟨hn,hs⟩,hl⟩,hk⟩:=h
     obtain⟨k,rfl⟩:=List.length_eq_one_iff.1 (show ks.length=1 from C9Q hk)
     rw[h4,show n=0 from C9Q hn,B2q (C9Q hs),(A3Y l).1 hl];exact .not k
    ·rw[if_neg h4]at h
     by_cases h5:f.op=5∨f.op=6
     ·rw[if_pos h5]at h
      obtain⟨o,n,l,s,ks⟩:=f
      simp only[Fm.op,Fm.n,Fm.l,Fm.s,Fm.ks,C9c]at h h5
      obtain⟨⟨hn,hs⟩,hl⟩:=h
      rw[show n=0 from C9Q hn,B2q (C9Q hs),(A3Y l).1 hl]
      rcases h5 with rfl|rfl
      ·exact .and ks
      ·exact .or ks
     ·rw[if_neg h5]at h;cases h
theorem Q4{f:Fm}(h:G7 D5 f=true):A4c f:=by
 rw[A2L,C9c]at h;exact B6J h.1
theorem N8{f:Fm}{p:Fm→Bool}(h:G7 p f=true){k:Fm}(hk:k∈f.ks):G7 p k=true:=by
 rw[A2L,C9c,C90]at h;exact h.2 k hk
def notF(f:Fm):Fm×Int:=if E4 f=true then(if E4 (normF f true)=true then(normF f true,0)else(S8,3))else(S8,2)
theorem L5{f:Fm}(h:E4 f=true):G7 D5 f=true:=by
 rw[A2M]at h;simp only[C9c]at h;exact h.1.1.1.1
theorem A2u{s:ByteArray}(h:H8 (B s)=true):s.size≤200:=by
 unfold H8 at h
 simp only[C9c,C9l]at h
 have:=h.1.1.2
 simpa [B]using this
theorem B1Z{l:LinV}(h:validL l=true)(sg:Int)(hs:sg=1∨sg= -1):a7 (shL l sg):=by
 have ok:=L9 h
 refine⟨by unfold shL;simp only[C98];have:=ok.len;omega,fun t ht=>?_,fun t ht=>?_,?_⟩
 ·obtain⟨x,hx,rfl⟩:=D0N.1 (show t∈l.t.map _ from ht)
  have:=A2u (M7 ok.t x hx).1
  show x.v.size≤_;omega
 ·obtain⟨x,hx,rfl⟩:=D0N.1 (show t∈l.t.map _ from ht)
  have:=(M7 ok.t x hx).2.2
  show W0 (sg*x.c)
  unfold W0;rcases hs with rfl|rfl<;>omega
 ·have:=ok.k
  show W0 (sg*l.k-1)
  unfold W0;rcases hs with rfl|rfl<;>omega
theorem A1P:a7 nilL:=⟨by simp[nilL],by simp[nilL],by simp[nilL],by simp[nilL,W0]⟩
theorem A1t{l:LinV}(h:a7 l):FmFit (A0D l):=.mk _ _ _ _ _ (by simp[W0]) (by simp[W0]) h (by decide) (by simp) (by simp)
theorem R9{o:Int}{ks:List Fm}(ho:W0 o)(hl:ks.length≤1466015503658)(h: ∀k∈ks,FmFit k):FmFit (.mk o 0 nilL D2 ks):=.mk _ _ _ _ _ ho (by simp[W0]) A1P (by decide) hl h
theorem A5z: ∀(f:Fm) (b:Bool),G7 D5 f=true→FmFit f→FmFit (normF f b)∧K7 (normF f b)≤3*K7 f:=by
 intro f
 induction f using P2 with
 |h o n l s ks ih=>
  intro b hf fa
  have hk: ∀k∈ks,G7 D5 k=true:=fun k hk=>N8 (f:=.mk o n l s ks) hf hk
  have fk: ∀k∈ks,FmFit k:=fun k hk=>fa.kid hk
  have many: ∀(p:Int),p=5∨p=6→FmFit (normF (.mk p 0 nilL D2 ks) b)∧K7 (normF (.mk p 0 nilL D2 ks) b)≤3*K7 (.mk p 0 nilL D2 ks):=by
   intro p hp
   rw[A7H b (by show p≠1;omega) (by show p≠2;omega) (by show p≠3;omega) (by show p≠4;omega)]
   refine⟨R9 (by show W0 (opO p b);unfold opO W0;split<;>omega) (by rw[C98];exact fa.kl) fun k hm=>?_,?_⟩
   ·obtain⟨x,hx,rfl⟩:=D0N.1 hm
    exact(ih x hx b (hk x hx) (fk x hx)).1
   ·have key: ∀m:List Fm,(∀k∈m,k∈ks)→K7.wtL (m.map (normF · b))≤3*K7.wtL m:=by
     intro m
     induction m with
     |nil=>intro _;simp[K7.wtL]
     |cons g gs ih2=>
      intro hm
      have i1:=(ih g (hm g (C9a ..)) b (hk g (hm g (C9a ..))) (fk g (hm g (C9a ..)))).2
      have i2:=ih2 fun k h=>hm k (C9h _ h)
      rw[D0g,K7.wtL,K7.wtL];omega
    rw[L1,L1]
    have:=key ks fun _ h=>h
    show 1+([]:List LTm).length+K7.wtL (ks.map (normF · b))≤3*(1+([]:List LTm).length+K7.wtL ks)
    simp only[C9W];omega
  cases Q4 hf with
  |con n h=>
   rw[B2m b rfl]
   refine⟨.mk _ _ _ _ _ (by simp[W0]) ?_ A1P (show D2.size≤_ by decide) (by simp[Fm.ks]) (by simp[Fm.ks]),?_⟩
   ·show W0 (if b=true then 1-n else n);unfold W0;split<;>omega
   ·rw[L1,L1];simp only[Fm.l,Fm.ks];omega
  |lin l h hp=>
   rw[B2n b rfl]
   cases b with
   |false=>exact⟨fa,by simp only[C9f,if_false];omega⟩
   |true=>
    simp only[if_true,Fm.l]
    unfold opL
    split
    ·refine⟨R9 (by simp[W0]) (by simp) fun k hm=>?_,?_⟩
     ·simp only[C9r,C9s,or_false]at hm
      rcases hm with rfl|rfl
      ·exact A1t (B1Z h _ (.inl rfl))
      ·exact A1t (B1Z h _ (.inr rfl))
     ·rw[L1,L1];simp[Fm.l,Fm.ks,K7.wtL,L1,A0D,shL,nilL];omega
    ·refine⟨A1t (B1Z h _ (.inr rfl)),?_⟩
     rw[L1,L1];simp[Fm.l,Fm.ks,K7.wtL,A0D,shL];omega
  |var s h=>
   rw[B2o b rfl]
   cases b with
   |false=>exact⟨fa,by simp only[C9f,if_false];omega⟩
   |true=>
    simp only[if_true]
    refine⟨R9 (by simp[W0]) (by simp) fun k hm=>?_,?_⟩
    ·rw[C9q]at hm;rw[hm];exact fa
    ·rw[L1,L1];simp[Fm.l,Fm.ks,K7.wtL,L1,nilL]
  |not k=>
   rw[B2p b rfl rfl]
   have:=ih k (C9a ..) (!b) (hk k (C9a ..)) (fk k (C9a ..))
   refine⟨this.1,?_⟩
   have h2:K7 (.mk 4 0 nilL D2 [k])=1+K7 k:=by rw[L1];simp[Fm.l,Fm.ks,K7.wtL,nilL]
   rw[h2];omega
  |and ks=>exact many 5 (.inl rfl)
  |or ks=>exact many 6 (.inr rfl)
end Go.Fo
end
section
set_option maxRecDepth 20000
namespace Go.Lin
open Go Go.Av
theorem O3.one{H Hp:Heap}{sz:Nat}{e1:List (List D)}{o1:Option Nat}(h:O3 H Hp sz e1 [] [] o1 none none):H.Le (K5 Hp o1):=by
 have:=h.last.1
 exact fun k o hk=>this k o hk
theorem A50{α β :Type}(f: α → β)(l:List α)(i:Nat)(h:i<l.length):(l.take (i+1)).map f=(l.take i).map f++[f l[i]]:=by
 rw[C9i h,D0P];rfl
theorem A8O{α β :Type}(f: α → β)(l:List α)(i:Nat)(h:i≤l.length):((l.take i).map f).length=i:=by rw[C98,C97];omega
end Go.Lin
namespace Go.Proofs.YtibphjonmikciaaGreatDoor
open Go Go.Av Go.Lin
attribute [local irreducible] ACalls W4
theorem A7I{Q}(l:List Row)(e:Row)(k n:Nat)(hlen:l.length≤1000000)(hn:n≤1000000)(hw: ∀r∈l,r.c.length=n)(he:e.c.length=n)(hk:k<n)(hr: ∀r∈l,A4p r 18446744073709551616)(hre:A4p e 18446744073709551616)(hrc: ∀r∈l,∀x∈r.c,x.natAbs≤4294967296)(hec: ∀x∈e.c,x.natAbs≤4294967296)(H:Heap)
  (h:Q (.sl 4 (Rw C5 (l.map (R7 e k)))) H):ACalls Tryz.prog 253 [.sl 4 (Rw C5 l),.agg (C5 e),.int .i64 (k:Int)] H Q:=by
 refine B2 [(7,.par)] B3 Tryz.func253 rfl (by kernel_rfl) (C9Q (by kernel_rfl)) (by kernel_rfl) ?_
 simp only[go_sem,Tryz.results253]
 intro b4 hb4
 have e4:(H.set b4 (.box (C5 e))) b4=some (.box (C5 e)):=A5 _ _
 have hle0:H.Le (H.set b4 (.box (C5 e))):=A2 hb4
 generalize H.set b4 (.box (C5 e))=Bs at e4 hle0⊢
 have z0:D.nilsl=J4 4 ((l.take 0).map (R7 e k)).length none:=rfl
 repeat' (first|with_reducible apply C9P|simp only[go_sem]|simp(disch:=omega) only[A0,A9,D4]|simp(disch:=first|omega|grind) only[A6]|(intro hx_;try simp only[A4]at hx_)|omega)
 refine D1 [2,4,11,12] (fun(p:Nat×Option Nat×Heap)=>[(13,.int .i64 p.1),(7,J4 4 p.1 p.2.1)]) (fun(p:Nat×Option Nat×Heap)=>p.2.2) (fun(p:Nat×Option Nat×Heap)=>p.1≤l.length∧O3 Bs p.2.2 4 (Rw C5 ((l.take p.1).map (R7 e k))) [] [] p.2.1 none none) (fun(p:Nat×Option Nat×Heap)=>l.length-p.1) ((0,none,Bs)) (⟨C9k _,O3.nil Bs 4⟩) (by(try simp only[go_sem])<;>(try simp(disch:=omega) [A0])<;>(try omega)) (by first|exact D0q _|exact A2 (by assumption)|exact B4 (by assumption)|simp only[Heap.Le,Heap.set,Heap.del]at* <;>grind) ?_
 rintro Ec rfl ⟨i,o1,Hp⟩ ⟨hi,h3⟩
 simp only at hi h3
 by_cases hlt:i<l.length
 ·have hkd:decide ((i:Int)<l.length)=true:=C9R (by omega)
  have hti:(i:Int)<l.length:=by omega
  have hil:=hw _ (C9d hlt)
  have hkl:k<l[i].c.length:=by omega
  have hki:(k:Int)<l[i].c.length:=by omega
  have hke:k<e.c.length:=by omega
  have hkei:(k:Int)<e.c.length:=by omega
  have gk:=D4 l[i].c k hkl
  have ge:=D4 e.c k hke
  have fs:=A50 (R7 e k) l i hlt
  have fl:=A8O (R7 e k) l i hi
  have q4:Hp b4=some (.box (C5 e)):=h3.le _ _ e4
  by_cases c0:l[i].c[k]=0
  ·have s:l[i].c[k].sign=0:=by rw[c0];rfl
   have er:R7 e k l[i]=l[i]:=by unfold R7;rw[gk,if_pos c0]
   repeat' (first|with_reducible apply C9P|simp only[go_sem,hkd,A9 _ _ hlt,C2 _ _ hlt,A9 _ _ hkl,C2 _ _ hkl,hki,s,decide_true,D0n]|simp(disch:=omega) only[A0,A9,D4]|simp(disch:=first|omega|grind) only[A6]|(intro hx_;try simp only[A4]at hx_)|with_reducible refine K2 _ _ ?_|omega)
   rename_i b9 h9 b10 h10 bx
   have hbx:=hx_
   clear hx_
   have hleX:Hp.Le ((Hp.set b9 (.box (C5 l[i]))).set b10 (.box (C4 l[i].c[k]))):=(by simp only[Go.Av.Heap.Le,Go.Av.Heap.set,Go.Av.Heap.del]at* <;>grind)
   obtain⟨R,hR⟩: ∃R,R=(Hp.set b9 (.box (C5 l[i]))).set b10 (.box (C4 l[i].c[k])):=⟨_,rfl⟩
   have hle9:Hp.Le R:=by rw[hR];exact hleX
   rw[←hR]
   have hbx2:R bx=none:=by rw[hR];simp only[A4];exact hbx
   refine A5u (P:=Tryz.prog) (H0:=R) (es:=Rw C5 ((l.take i).map (R7 e k))) hbx2 (by simp) (h3.a1.up hle9) (by rw[D6,fl]) (by simp only[C9U,C9W];omega) (by simp only[C9U,C9W];omega) fun b' H' hA=>?_
   repeat' (first|with_reducible apply C9P|simp only[go_sem]|simp(disch:=omega) only[A0,A9,D4]|simp(disch:=first|omega|grind) only[A6]|(intro hx_;try simp only[A4]at hx_)|omega)
   have fs2:Rw C5 ((l.take (i+1)).map (R7 e k))=Rw C5 ((l.take i).map (R7 e k))++[C5 (l[i])]:=by rw[fs,er,←O2];rfl
   have hA2:Apd R 4 o1 (Rw C5 ((l.take (i+1)).map (R7 e k))) b' H':=by rw[fs2];exact hA
   refine C3 (i+1,some b',H') ⟨by simp only[];omega,h3.app1 hle9 hA2⟩ (by simp only[];omega) (by(try simp only[go_sem,K1])<;>(try simp(disch:=omega) [A0])<;>(try omega)) (D0q _)
  ·have s: ¬(l[i].c[k].sign=0):=fun g=>c0 (Int.sign_eq_zero_iff_zero.1 g)
   repeat' (first|with_reducible apply C9P|simp only[go_sem,hkd,A9 _ _ hlt,C2 _ _ hlt,A9 _ _ hkl,C2 _ _ hkl,hki,s,decide_false,D0o]|simp(disch:=omega) only[A0,A9,D4]|simp(disch:=first|omega|grind) only[A6]|(intro hx_;try simp only[A4]at hx_)|with_reducible refine K2 _ _ ?_|omega)
   rename_i b9 h9 b10
   have h10:=hx_
   clear hx_
   obtain⟨n10,h10⟩:=h10
   have e9:((Hp.set b9 (.box (C5 l[i]))).set b10 (.box (C4 l[i].c[k]))) b9=some (.box (C5 l[i])):=by rw[A8 _ (Ne.symm n10),A5]
   have e10:((Hp.set b9 (.box (C5 l[i]))).set b10 (.box (C4 l[i].c[k]))) b10=some (.box (C4 l[i].c[k])):=A5 _ _
   have hle9:Hp.Le (((Hp.set b9 (.box (C5 l[i]))).set b10 (.box (C4 l[i].c[k]))).del b9):=(by simp only[Go.Av.Heap.Le,Go.Av.Heap.set,Go.Av.Heap.del]at* <;>grind)
   have f4:=(hle9.trans (D8 _ _)) _ _ q4
   have n49:b4≠b9:=fun g=>by rw[g,h9]at q4;cases q4
   generalize (Hp.set b9 (.box (C5 l[i]))).set b10 (.box (C4 l[i].c[k]))=Hq at e9 e10 hle9 f4⊢
   have m4:b4∈[b4,b9,b10]:=by simp
   have m9:b9∈[b4,b9,b10]:=by simp
   have m10:b10∈[b4,b9,b10]:=by simp
   have a1:=hrc _ (C9d hlt) _ (C9d hkl)
   have a2:=hec _ (C9d hke)
   have a3:=A1J a1 a2
   obtain⟨t,ht⟩: ∃t:Int,t=1:=⟨1,rfl⟩
   obtain⟨x,hx⟩: ∃x:Int,x=l[i].c[k]:=⟨_,rfl⟩
   obtain⟨y,hy⟩: ∃y:Int,y=e.c[k]:=⟨_,rfl⟩
   have er:R7 e k l[i]=A1o l[i] t e (-(x*y)):=by unfold R7;rw[gk,if_neg c0,ge,ht,hx,hy]
   rw[←hx]at a1 a3
   rw[←hy]at a2 a3
   have s1:Sz x:=G6 (by omega)
   have s2:Sz y:=G6 (by omega)
   refine F4 (fun i'=>if i'=1 then .agg (C4 t)else if i'=9 then .agg (C4 (x*y))else if i'=10 then .agg (C4 (-(x*y)))else if i'=11 then .agg (C5 (A1o l[i] t e (-(x*y))))else .undef) [b4,b9,b10] ?_
   repeat' (first|with_reducible apply C9P|simp only[go_sem,e9,e10,f4,m4,m9,m10,A9 _ _ hke,C2 _ _ hke,hkei,←hx,←hy]|simp(disch:=omega) only[A0,A9,D4]|simp(disch:=first|omega|grind) only[A6]|(intro hx_;try simp only[A4]at hx_)|with_reducible refine Q9 (fun H' Q hro hq=>l6 1 (by omega) (by omega) H' (by rw[←ht];exact hq)) ?_|with_reducible refine Q9 (fun H' Q hro hq=>R8 x y s1 s2 H' hq) ?_|with_reducible refine Q9 (fun H' Q hro hq=>A37 (x*y) H' hq) ?_|with_reducible refine Q9 (fun H' Q hro hq=>B5v l[i] e t (-(x*y)) (by omega) (by omega) (hr _ (C9d hlt)) hre (by omega) (by omega) H' hq) ?_|omega)
   rename_i bx
   have hbx:=hx_
   clear hx_
   have hleX:Hp.Le (Hq.set b9 (.box (C5 (A1o l[i] t e (-(x*y)))))):=(by simp only[Go.Av.Heap.Le,Go.Av.Heap.set,Go.Av.Heap.del]at* <;>grind)
   obtain⟨R,hR⟩: ∃R,R=Hq.set b9 (.box (C5 (A1o l[i] t e (-(x*y))))):=⟨_,rfl⟩
   have hle9:Hp.Le R:=by rw[hR];exact hleX
   rw[←hR]
   have hbx2:R bx=none:=by rw[hR];simp only[A4];exact hbx
   refine A5u (P:=Tryz.prog) (H0:=R) (es:=Rw C5 ((l.take i).map (R7 e k))) hbx2 (by simp) (h3.a1.up hle9) (by rw[D6,fl]) (by simp only[C9U,C9W];omega) (by simp only[C9U,C9W];omega) fun b' H' hA=>?_
   repeat' (first|with_reducible apply C9P|simp only[go_sem]|simp(disch:=omega) only[A0,A9,D4]|simp(disch:=first|omega|grind) only[A6]|(intro hx_;try simp only[A4]at hx_)|omega)
   have fs2:Rw C5 ((l.take (i+1)).map (R7 e k))=Rw C5 ((l.take i).map (R7 e k))++[C5 (A1o l[i] t e (-(x*y)))]:=by rw[fs,er,←O2];rfl
   have hA2:Apd R 4 o1 (Rw C5 ((l.take (i+1)).map (R7 e k))) b' H':=by rw[fs2];exact hA
   refine C3 (i+1,some b',H') ⟨by simp only[];omega,h3.app1 hle9 hA2⟩ (by simp only[];omega) (by(try simp only[go_sem,K1])<;>(try simp(disch:=omega) [A0])<;>(try omega)) (D0q _)
 ·have hkd:decide ((i:Int)<l.length)=false:=C9S (by omega)
  have e1:l.take i=l:=C9e (by omega)
  have e2:i=l.length:=by omega
  rw[e1]at h3
  repeat' (first|with_reducible apply C9P|simp only[go_sem,hkd]|simp(disch:=omega) only[A0,A9,D4]|simp(disch:=first|omega|grind) only[A6]|(intro hx_;try simp only[A4]at hx_)|omega)
  exact Fin.out (by rw[D6,C98];exact e2) h3.a1 (D0r (hle0.trans (O3.one h3)) h)
end Go.Proofs.YtibphjonmikciaaGreatDoor
namespace Go.Av
theorem OutAt.ne{H:Heap}{sz:Nat}{es:List (List D)}{o:Option Nat}(h:OutAt H sz es o){b:Nat}(hb:H b=none):o≠some b:=fun e=>by
 have:=h.some_of e
 rw[hb]at this;cases this
theorem O3.less{H H' Hp:Heap}{sz:Nat}{e1 e2 e3:List (List D)}{o1 o2 o3:Option Nat}(h:O3 H Hp sz e1 e2 e3 o1 o2 o3)(hl:H'.Le H):O3 H' Hp sz e1 e2 e3 o1 o2 o3:=
 ⟨hl.trans h.le,h.a1,h.a2,h.a3,fun b e=>hl.none (h.n1 b e),fun b e=>hl.none (h.n2 b e),fun b e=>hl.none (h.n3 b e),h.d12,h.d13,h.d23⟩
theorem O3.grow{H Hp:Heap}{sz:Nat}{e1 e2 e3:List (List D)}{o1 o2 o3:Option Nat}(h:O3 H Hp sz e1 e2 e3 o1 o2 o3){b:Nat}(hb:Hp b=none)(x:Go.Av.Obj):O3 (H.set b x) (Hp.set b x) sz e1 e2 e3 o1 o2 o3:=by
 have hle:=A2 (o:=x) hb
 have nn: ∀{c:Nat} {o:Option Nat} {e:List (List D)},OutAt Hp sz e o→o=some c→H c=none→(H.set b x) c=none:=fun {c o e} ha e hn=>by
  rw[A8 _ (by rintro rfl;exact ha.ne hb e)];exact hn
 refine⟨fun k o hk=>?_,h.a1.up hle,h.a2.up hle,h.a3.up hle,fun c e=>nn h.a1 e (h.n1 c e),fun c e=>nn h.a2 e (h.n2 c e),fun c e=>nn h.a3 e (h.n3 c e),h.d12,h.d13,h.d23⟩
 by_cases e:k=b
 ·subst e;rw[A5]at hk⊢;exact hk
 ·rw[A8 _ e]at hk⊢;exact h.le k o hk
theorem O3.put{H:Heap}{sz:Nat}{es:List (List D)}{ob:Option Nat}(h0:ob=none→es= [])(h1: ∀b,ob=some b→H b=none):O3 H (putB H sz es ob) sz es [] [] ob none none:=by
 refine⟨?_,B3b h0,rfl,rfl,h1,by simp,by simp,by simp,by simp,by simp⟩
 cases ob with
 |none=>exact D0q H
 |some b=>exact A2 (h1 b rfl)
theorem O3.set1{H Hp Hq:Heap}{sz c:Nat}{e1 e2 e3 e1':List (List D)}{o2 o3:Option Nat}(h:O3 H Hp sz e1 e2 e3 (some c) o2 o3)(hle:Hp.Le Hq):O3 H (Hq.set c (.vec sz e1')) sz e1' e2 e3 (some c) o2 o3:=by
 have up: ∀{e:List (List D)} {o:Option Nat},OutAt Hp sz e o→o≠some c→OutAt (Hq.set c (.vec sz e1')) sz e o:=fun {e o} ha hn=>by
  cases o with
  |none=>exact ha
  |some b=>show (Hq.set c _) b=_;rw[A8 _ (by rintro rfl;exact hn rfl)];exact hle _ _ ha
 refine⟨fun k o hk=>?_,A5 _ _,up h.a2 (h.d12 _ rfl),up h.a3 (h.d13 _ rfl),h.n1,h.n2,h.n3,h.d12,h.d13,h.d23⟩
 rw[A8 _ (by rintro rfl;have:=h.n1 _ rfl;rw[this]at hk;cases hk)]
 exact hle _ _ (h.le _ _ hk)
end Go.Av
namespace Go.Lin
open Go Go.Av
def z8(l:List Row)(k:Nat)(i j:Nat):List Row:=S6 l k++((I3 l k).take i).flatMap (fun a=>(F0 l k).map fun b=>A1I a b k false)++((F0 l k).take j).map fun b=>A1I ((I3 l k).getD i default) b k false
theorem A7J(l:List Row)(k:Nat):z8 l k 0 0=S6 l k:=by simp[z8]
theorem A7K(l:List Row)(k i:Nat)(h:i<(I3 l k).length):z8 l k i (F0 l k).length=z8 l k (i+1) 0:=by
 unfold z8
 rw[C9i h,List.take_length,List.flatMap_append]
 simp[h]
theorem B0E(l:List Row)(k:Nat):z8 l k (I3 l k).length 0=A2H l k false:=by simp[z8,A2H]
theorem A7L(l:List Row)(k i j:Nat)(h:j<(F0 l k).length):z8 l k i (j+1)=z8 l k i j++[A1I ((I3 l k).getD i default) (F0 l k)[j] k false]:=by
 unfold z8
 rw[C9i h,D0P,←D0D];rfl
theorem B6K(l:List Row)(k i j:Nat)(hl:l.length≤10000)(hi:i≤10000):(z8 l k i j).length≤100020000:=by
 unfold z8
 rw[C9V,C9V,C98,C97]
 have h1:(S6 l k).length≤l.length:=V3 _
 have h2:(F0 l k).length≤l.length:=V3 _
 have key: ∀(m:List Row),(m.flatMap fun a=>(F0 l k).map fun b=>A1I a b k false).length=m.length*(F0 l k).length:=by
  intro m
  induction m with
  |nil=>simp
  |cons a m ih=>rw[List.flatMap_cons,C9V,ih,C98,C9U,Nat.succ_mul];omega
 rw[key]
 have h3:((I3 l k).take i).length≤10000:=by rw[C97];omega
 have h4:((I3 l k).take i).length*(F0 l k).length≤10000*10000:=Nat.mul_le_mul h3 (by omega)
 omega
end Go.Lin
namespace Go.Proofs.YtibphjonmikciaaGreatDoor
open Go Go.Av Go.Lin
attribute [local irreducible] ACalls W4
theorem B6L{Q}(l:List Row)(k n:Nat)(hlen:l.length≤10000)(hn:n≤1000000)(hw: ∀r∈l,r.c.length=n)(hk:k<n)(hr: ∀r∈l,A4p r 18446744073709551616)(H:Heap)
  (h:Q (.sl 4 (Rw C5 (A2H l k false))) H):ACalls Tryz.prog 226 [.sl 4 (Rw C5 l),.int .i64 (k:Int),.bool false] H Q:=by
 refine B2 [(9,.par),(12,.par)] B3 Tryz.func226 rfl (by kernel_rfl) (C9Q (by kernel_rfl)) (by kernel_rfl) ?_
 simp only[go_sem,Tryz.results226]
 have wl: ∀r∈I3 l k,r∈l:=fun r hr=>(List.mem_filter.1 hr).1
 have wh: ∀r∈F0 l k,r∈l:=fun r hr=>(List.mem_filter.1 hr).1
 have l1:(I3 l k).length≤10000:=D0V (V3 _) hlen
 have l2:(F0 l k).length≤10000:=D0V (V3 _) hlen
 obtain⟨t,ht⟩: ∃t:Int,t=1:=⟨1,rfl⟩
 repeat' (first|with_reducible apply C9P|simp only[go_sem]|simp(disch:=omega) only[A0,A9,D4]|simp(disch:=first|omega|grind) only[A6]|(intro hx_;try simp only[A4]at hx_)|omega)
 refine B2k l k (by omega) (fun r hr=>by rw[hw r hr];exact hk) _ fun ob hob hob2=>?_
 have o0:=O3.put (H:=H) (sz:=4) (es:=Rw C5 (S6 l k)) (ob:=ob) (fun e=>by rw[hob e];rfl) hob2
 have hlr:(S6 l k).length=(z8 l k 0 0).length:=by rw[A7J]
 rw[←A7J l k]at o0⊢
 generalize putB H 4 (Rw C5 (z8 l k 0 0)) ob=Hp at o0⊢
 repeat' (first|with_reducible apply C9P|simp only[go_sem]|simp(disch:=omega) only[A0,A9,D4]|simp(disch:=first|omega|grind) only[A6]|(intro hx_;try simp only[A4]at hx_)|with_reducible refine l6 1 (by omega) (by omega) _ ?_|omega)
 rename_i b10
 have h10:=hx_
 clear hx_
 refine D1 [1,2,8,10,26,27] (fun(p:Nat×Option Nat×Heap)=>[(28,.int .i64 p.1),(9,J4 4 (z8 l k p.1 0).length p.2.1)]) (fun(p:Nat×Option Nat×Heap)=>p.2.2) (fun(p:Nat×Option Nat×Heap)=>p.1≤(I3 l k).length∧O3 H p.2.2 4 (Rw C5 (z8 l k p.1 0)) [] [] p.2.1 none none) (fun(p:Nat×Option Nat×Heap)=>(I3 l k).length-p.1) ((0,ob,Hp)) (⟨C9k _,o0⟩) (by(try simp only[go_sem])<;>(try simp(disch:=omega) [A0])<;>(try omega)) (by first|exact D0q _|exact A2 (by assumption)|exact B4 (by assumption)|simp only[Heap.Le,Heap.set,Heap.del]at* <;>grind) ?_
 clear o0 h10 hlr hob hob2
 rintro Ec rfl ⟨i,o1,Hp⟩ ⟨hi,h3⟩
 simp only at hi h3
 by_cases hlt:i<(I3 l k).length
 ·have hkd:decide ((i:Int)<(I3 l k).length)=true:=C9R (by omega)
  have hti:(i:Int)<(I3 l k).length:=by omega
  have hai:=wl _ (C9d hlt)
  have hkl:k<(I3 l k)[i].c.length:=by rw[hw _ hai];exact hk
  have hki:(k:Int)<(I3 l k)[i].c.length:=by omega
  have gi:(I3 l k).getD i default=(I3 l k)[i]:=by simp[hlt]
  repeat' (first|with_reducible apply C9P|simp only[go_sem,hkd,A9 _ _ hlt,C2 _ _ hlt]|simp(disch:=omega) only[A0,A9,D4]|simp(disch:=first|omega|grind) only[A6]|(intro hx_;try simp only[A4]at hx_)|omega)
  rename_i b12
  have h12:=hx_
  clear hx_
  have g3:=h3.grow h12 (.box (C5 (I3 l k)[i]))
  have e12:(Hp.set b12 (.box (C5 (I3 l k)[i]))) b12=some (.box (C5 (I3 l k)[i])):=A5 _ _
  have hH:H.Le (H.set b12 (.box (C5 (I3 l k)[i]))):=A2 (h3.le.none h12)
  have e12:(H.set b12 (.box (C5 (I3 l k)[i]))) b12=some (.box (C5 (I3 l k)[i])):=A5 _ _
  generalize Hp.set b12 (.box (C5 (I3 l k)[i]))=Hq at g3⊢
  generalize H.set b12 (.box (C5 (I3 l k)[i]))=H1 at g3 e12 hH
  refine D1 [1,2,8,10,12,26,27,28,32,33] (fun(p:Nat×Option Nat×Heap)=>[(34,.int .i64 p.1),(9,J4 4 (z8 l k i p.1).length p.2.1)]) (fun(p:Nat×Option Nat×Heap)=>p.2.2) (fun(p:Nat×Option Nat×Heap)=>p.1≤(F0 l k).length∧O3 H1 p.2.2 4 (Rw C5 (z8 l k i p.1)) [] [] p.2.1 none none) (fun(p:Nat×Option Nat×Heap)=>(F0 l k).length-p.1) ((0,o1,Hq)) (⟨C9k _,g3⟩) (by(try simp only[go_sem])<;>(try simp(disch:=omega) [A0])<;>(try omega)) (by first|exact D0q _|exact A2 (by assumption)|exact B4 (by assumption)|simp only[Heap.Le,Heap.set,Heap.del]at* <;>grind) ?_
  clear g3 h3
  rintro Ec rfl ⟨j,o1,Hp⟩ ⟨hj,h3⟩
  simp only at hj h3
  have a12:=h3.le _ _ e12
  by_cases hjt:j<(F0 l k).length
  ·have hkd:decide ((j:Int)<(F0 l k).length)=true:=C9R (by omega)
   have htj:(j:Int)<(F0 l k).length:=by omega
   have haj:=wh _ (C9d hjt)
   have hkl2:k<(F0 l k)[j].c.length:=by rw[hw _ haj];exact hk
   have hki2:(k:Int)<(F0 l k)[j].c.length:=by omega
   repeat' (first|with_reducible apply C9P|simp only[go_sem,hkd,A9 _ _ hjt,C2 _ _ hjt]|simp(disch:=omega) only[A0,A9,D4]|simp(disch:=first|omega|grind) only[A6]|(intro hx_;try simp only[A4]at hx_)|omega)
   rename_i b14
   have h14:=hx_
   clear hx_
   have c14:(Hp.set b14 (.box (C5 (F0 l k)[j]))) b14=some (.box (C5 (F0 l k)[j])):=A5 _ _
   have c12:(Hp.set b14 (.box (C5 (F0 l k)[j]))) b12=some (.box (C5 (I3 l k)[i])):=(A2 h14) _ _ a12
   have hle1:Hp.Le (Hp.set b14 (.box (C5 (F0 l k)[j]))):=A2 h14
   generalize Hp.set b14 (.box (C5 (F0 l k)[j]))=Hr at c14 c12 hle1⊢
   have m12:b12∈[b12,b14]:=by simp
   have m14:b14∈[b12,b14]:=by simp
   have hra:=hr _ hai
   have hrb:=hr _ haj
   have x1:=hra.2 _ (C9d hkl)
   have x2:=hrb.2 _ (C9d hkl2)
   obtain⟨p,hp⟩: ∃p,p=(I3 l k)[i].c[k]:=⟨_,rfl⟩
   obtain⟨q,hq⟩: ∃q,q= -(F0 l k)[j].c[k]:=⟨_,rfl⟩
   have es:A1I ((I3 l k).getD i default) (F0 l k)[j] k false=A1o (I3 l k)[i] q (F0 l k)[j] p:=by
    unfold A1I
    simp only[gi,D4 _ _ hkl,D4 _ _ hkl2,←hp,←hq]
    rfl
   have lz:=B6K l k i j hlen (by omega)
   have fs2:Rw C5 (z8 l k i (j+1))=Rw C5 (z8 l k i j)++[C5 (A1o (I3 l k)[i] q (F0 l k)[j] p)]:=by rw[A7L l k i j hjt,es,←O2];rfl
   have fl:(z8 l k i (j+1)).length=(z8 l k i j).length+1:=by rw[A7L l k i j hjt];simp
   refine F4 (fun i'=>if i'=10 then .agg (C4 q)else .undef) [b12,b14] ?_
   repeat' (first|with_reducible apply C9P|simp only[go_sem,m12,m14,c12,c14,hki,hki2,A9 _ _ hkl,C2 _ _ hkl,A9 _ _ hkl2,C2 _ _ hkl2,←hp]|simp(disch:=omega) only[A0,A9,D4]|simp(disch:=first|omega|grind) only[A6]|(intro hx_;try simp only[A4]at hx_)|with_reducible refine Q9 (fun H' Q hro hq2=>A37 (F0 l k)[j].c[k] H' (by rw[←hq];exact hq2)) ?_|with_reducible refine B5v (I3 l k)[i] (F0 l k)[j] q p (by rw[hw _ hai,hw _ haj]) (by rw[hw _ hai];exact hn) hra hrb (by omega) (by omega) _ ?_|omega)
   rename_i b15 h15 b16 h16 b17 h17 bx
   have hbx:=hx_
   clear hx_
   refine O3.ap h3 (e1':=Rw C5 (z8 l k i (j+1))) (hle1.trans (by simp only[Go.Av.Heap.Le,Go.Av.Heap.set,Go.Av.Heap.del]at* <;>grind)) (by simp only[A4];simp only[hbx,ne_eq,not_false_eq_true,and_self]) (by simp) (by rw[D6]) (by simp only[C9U,C9W];omega) (by simp only[C9U,C9W];omega) fs2 fun b' H' h4=>?_
   repeat' (first|with_reducible apply C9P|simp only[go_sem]|simp(disch:=omega) only[A0,A9,D4]|simp(disch:=first|omega|grind) only[A6]|(intro hx_;try simp only[A4]at hx_)|omega)
   refine C3 (j+1,some b',H') ⟨by simp only[];omega,h4⟩ (by simp only[];omega) (by(try simp only[go_sem,K1,fl])<;>(try simp(disch:=omega) [A0])<;>(try omega)) (D0q _)
  ·have hkd:decide ((j:Int)<(F0 l k).length)=false:=C9S (by omega)
   have hje:j=(F0 l k).length:=by omega
   subst hje
   rw[A7K l k i hlt]at h3
   repeat' (first|with_reducible apply C9P|simp only[go_sem,hkd,A7K l k i hlt]|simp(disch:=omega) only[A0,A9,D4]|simp(disch:=first|omega|grind) only[A6]|(intro hx_;try simp only[A4]at hx_)|omega)
   refine C3 (i+1,o1,Hp) ⟨by simp only[];omega,h3.less hH⟩ (by simp only[];omega) (by(try simp only[go_sem])<;>(try simp(disch:=omega) [A0])<;>(try omega)) (D0q _)
 ·have hkd:decide ((i:Int)<(I3 l k).length)=false:=C9S (by omega)
  have hie:i=(I3 l k).length:=by omega
  subst hie
  rw[B0E]at h3
  repeat' (first|with_reducible apply C9P|simp only[go_sem,hkd,B0E]|simp(disch:=omega) only[A0,A9,D4]|simp(disch:=first|omega|grind) only[A6]|(intro hx_;try simp only[A4]at hx_)|omega)
  exact Fin.out (by rw[D6]) h3.a1 (D0r (O3.one h3) h)
end Go.Proofs.YtibphjonmikciaaGreatDoor
namespace Go.Lin
open Go Go.Av
theorem A7M:C4 0= [.bool false,.sl 1 []]:=by
 unfold C4
 rw[show (0:Int).natAbs=0 from rfl,I9];rfl
theorem B1a{es es':List (List D)}(hl:es.length=es'.length)(h: ∀(i:Nat) e e',es[i]? =some e→es'[i]? =some e'→e=e'∨(e=zB∧e'=C4 0)):NilR (.sl 2 es) (.sl 2 es'):=by
 refine .sl 2 es es' hl (fun i e e' h1 h2=>?_) (fun i e e' j d d' h1 h2 h3 h4=>?_)
 ·rcases h i e e' h1 h2 with rfl|⟨rfl,rfl⟩
  ·rfl
  ·rw[A7M];rfl
 ·rcases h i e e' h1 h2 with rfl|⟨rfl,rfl⟩
  ·rw[h3]at h4;cases h4;exact .same _
  ·rw[A7M]at h4
   match j with
   |0=>cases h3;cases h4;exact .same _
   |1=>cases h3;cases h4;exact .nil _
   |j+2=>cases h3
theorem B3u(c:List Int):NilR (.sl 2 (Rw C4 c++[zB])) (.sl 2 (Rw C4 (c++[0]))):=by
 refine B1a (by simp[Rw]) fun i e e' h1 h2=>?_
 rw[←O2]at h2
 by_cases hi:i<c.length
 ·rw[D0J (by rw[D6];exact hi)]at h1 h2
  rw[h1]at h2;cases h2;exact .inl rfl
 ·rw[D0K (by rw[D6];omega),D6]at h1 h2
  by_cases h0:i-c.length=0
  ·rw[h0]at h1 h2;cases h1;cases h2;exact .inr ⟨rfl,rfl⟩
  ·obtain⟨q,hq⟩: ∃q,i-c.length=q+1:=⟨_,(Nat.succ_pred h0).symm⟩
   rw[hq]at h1;cases h1
theorem B3v{a a':D}{ds:List D}(h:NilR a a'):NilR (.agg (a::ds)) (.agg (a'::ds)):=by
 refine .agg _ _ (by simp) fun i d d' h1 h2=>?_
 match i with
 |0=>cases h1;cases h2;exact h
 |i+1=>
  simp only[C9v]at h1 h2
  rw[h1]at h2;cases h2;exact .same _
theorem A12{Q:D→Heap→Prop}{ds:List D}{H:Heap}{b sz n:Nat}{es:List (List D)}(hb:H b=some (.vec sz es))(hn:n=es.length)(h:Fin Q (.agg (.sl sz es::ds)) (H.del b)):Fin Q (.agg (.vec b sz 0 n::ds)) H:=by
 subst hn
 refine T3 hb (by simp) (fun i d d' h1 h2=>?_) h
 match i with
 |0=>cases h1;cases h2;exact .all
 |i+1=>
  simp only[C9v]at h1 h2
  rw[h1]at h2;cases h2;exact .same _
end Go.Lin
namespace Go.Proofs.YtibphjonmikciaaGreatDoor
open Go Go.Av Go.Lin
attribute [local irreducible] ACalls W4
theorem B6M{Q}(c:List Int)(hc:c≠[])(hl:c.length≤1000000)(H:Heap)(h: ∀(ob:Option Nat) (b:Nat),ob=some b→H b=none→Q (J4 2 c.length ob) (H.set b (.vec 2 (Rw C4 c)))):ACalls Tryz.prog 257 [.sl 2 (Rw C4 c)] H Q:=by
 refine B2 [] B3 Tryz.func257 rfl (by kernel_rfl) (C9Q (by kernel_rfl)) (by kernel_rfl) ?_
 simp only[go_sem,Tryz.results257]
 have hne:Rw C4 c≠[]:=fun e=>hc (C9n (by rw[←D6 (f:=C4),e];rfl))
 have hq: ∀(x:Nat),J8 Tryz.prog .eql 240 (J7 (.tmp x)||J7 (.const (.slice none 0 0))) (.sl 2 (Rw C4 c)) .nilsl=some (.bool false):=fun x=>A5f hne (by kernel_rfl)
 repeat' (first|with_reducible apply C9P|simp only[go_sem,hq]|intro hx_|omega)
 rename_i b0 h0 b'
 have hb':=hx_
 clear hx_
 have hs:(H.set b0 (.vec 2 [])).del b0=H:=E7 h0
 rw[hs]at hb'⊢
 exact D0u (h (some b') b' rfl hb')
theorem C2k{Q}(r:Row)(hc:r.c≠[])(hl:r.c.length≤1000000)(H:Heap)(h:Q (.agg (C5 (A2W r))) H):ACalls Tryz.prog 256 [.agg (C5 r)] H Q:=by
 refine B2 [] B3 Tryz.func256 rfl (by kernel_rfl) (C9Q (by kernel_rfl)) (by kernel_rfl) ?_
 simp only[go_sem,Tryz.results256]
 intro b1 h1 b2 h2
 simp only[A4]at h2
 have e1:((H.set b1 (.box (C5 r))).set b2 (.box [.nilsl,.bool false,.nilsl,.bool false])) b1=some (.box (C5 r)):=by rw[A8 _ h2.1.symm,A5]
 have e2:((H.set b1 (.box (C5 r))).set b2 (.box [.nilsl,.bool false,.nilsl,.bool false])) b2=some (.box [.nilsl,.bool false,.nilsl,.bool false]):=A5 _ _
 have hle:H.Le ((H.set b1 (.box (C5 r))).set b2 (.box [.nilsl,.bool false,.nilsl,.bool false])):=(A2 h1).trans (A2 (by simp only[A4];exact h2))
 have n1:b1≠b2:=h2.1.symm
 generalize (H.set b1 (.box (C5 r))).set b2 (.box [.nilsl,.bool false,.nilsl,.bool false])=Bs at e1 e2 hle⊢
 repeat' (first|with_reducible apply C9P|simp only[go_sem,e1]|simp(disch:=first|omega|grind) only[C8]|(intro hx_;try simp only[A4]at hx_)|omega)
 refine B6M _ hc hl _ fun ob bv hob hbv=>?_
 have o3:=O3.put (H:=Bs) (sz:=2) (es:=Rw C4 r.c) (ob:=some bv) (by simp) (fun b e=>by cases e;exact hbv)
 rw[←hob]at o3
 have hpe:putB Bs 2 (Rw C4 r.c) ob=Bs.set bv (.vec 2 (Rw C4 r.c)):=by rw[hob];rfl
 rw[hpe]at o3
 generalize Bs.set bv (.vec 2 (Rw C4 r.c))=Hp at o3⊢
 clear hob hpe
 repeat' (first|with_reducible apply C9P|simp only[go_sem]|simp(disch:=first|omega|grind) only[C8]|(intro hx_;try simp only[A4]at hx_)|omega)
 rename_i bx
 have hbx:=hx_
 clear hx_
 refine O3.ap o3 (e1':=Rw C4 r.c++[zB]) (D0q _) hbx (by simp) (by rw[D6]) (by simp only[C9U,C9W];omega) (by simp only[C9U,C9W];omega) rfl fun b' H' h4=>?_
 clear o3 hbx
 have c1:=h4.le _ _ e1
 have c2:=h4.le _ _ e2
 have nb1:b'≠b1:=fun g=>by have:=h4.n1 _ rfl;rw[g,e1]at this;cases this
 have nb2:b'≠b2:=fun g=>by have:=h4.n1 _ rfl;rw[g,e2]at this;cases this
 repeat' (first|with_reducible apply C9P|simp only[go_sem,c1,c2,A8 _ n1,A8 _ n1.symm]|simp(disch:=first|omega|grind) only[C8]|(intro hx_;try simp only[A4]at hx_)|omega)
 refine A12 (es:=Rw C4 r.c++[zB]) (by rw[A8 _ nb2,A8 _ nb1];exact h4.a1) (by rw[C9V,D6];rfl) (D9 (B3v (B3u r.c)) (D0r (fun k o hk=>?_) h))
 have k1:k≠b1:=fun g=>by rw[g,h1]at hk;cases hk
 have k2:k≠b2:=fun g=>by rw[g,h2.2]at hk;cases hk
 have hB:=hle _ _ hk
 have k3:k≠b':=fun g=>by have:=h4.n1 _ rfl;rw[←g,hB]at this;cases this
 rw[C8 k3,A8 _ k2,A8 _ k1]
 exact h4.le _ _ hB
end Go.Proofs.YtibphjonmikciaaGreatDoor
end
section
namespace Go.Lin
open Go Go.Av Go.Lexs
structure ZR where
 es:List (List D)
 r:Row
def zrC(z:ZR):List D:=[.sl 2 z.es,.bool (decide (z.r.k<0)),.sl 1 (Rw E9 (C0 z.r.k.natAbs)),.bool z.r.eq]
def zOk(z:ZR):Prop:=NilR (.sl 2 z.es) (.sl 2 (Rw C4 z.r.c))
theorem B3w(l:List ZR)(h: ∀z∈l,zOk z):NilR (.sl 4 (Rw zrC l)) (.sl 4 (Rw C5 (l.map (·.r)))):=by
 have e:Rw C5 (l.map (·.r))=Rw (fun z:ZR=>C5 z.r) l:=by simp[Rw]
 rw[e]
 refine NilR.rw 4 l (fun z hz=>rfl) fun z hz j d d' h1 h2=>?_
 match j with
 |0=>cases h1;cases h2;exact h z hz
 |1=>cases h1;cases h2;exact .same _
 |2=>cases h1;cases h2;exact .same _
 |3=>cases h1;cases h2;exact .same _
 |j+4=>cases h1
def Z5(names:List ByteArray)(ts:List LTm):List (List D):=names.map fun s=>match ts.find? (fun t=>decide (t.v=s))with|some t=>C4 t.c|none=>zB
theorem B3x(names:List ByteArray):Z5 names []=List.replicate names.length zB:=by
 unfold Z5
 simp only[List.find?_nil]
 rw[List.map_const']
theorem B0F(names:List ByteArray)(ts:List LTm):(Z5 names ts).length=names.length:=by simp[Z5]
theorem B6N(names:List ByteArray)(ts:List LTm)(i:Nat)(hi:i<names.length)(hn: ∀t∈ts,t.v≠names[i]):(Z5 names ts)[i]? =some zB∧(Z5 names ts).getD i []=zB:=by
 have hf:ts.find? (fun t=>decide (t.v=names[i]))=none:=by
  rw[List.find?_eq_none];intro t ht;simp[hn t ht]
 have:(Z5 names ts)[i]? =some zB:=by
  unfold Z5
  rw[C9m,C9g hi,Option.map_some,hf]
 exact⟨this,by rw[List.getD_eq_getElem?_getD,this];rfl⟩
theorem B6O(names:List ByteArray)(ts:List LTm)(t:LTm)(i:Nat)(hi:i<names.length)(he:names[i]=t.v)(hnd:names.Nodup)(hn: ∀x∈ts,x.v≠t.v):(Z5 names ts).set i (C4 t.c)=Z5 names (ts++[t]):=by
 apply D0k
 ·simp[Z5]
 ·intro j h1 h2
  have hj:j<names.length:=by simpa [Z5]using h2
  by_cases e:i=j
  ·subst e
   rw[List.getElem_set_self]
   have hf:ts.find? (fun x=>decide (x.v=names[i]))=none:=by
    rw[List.find?_eq_none];intro x hx;simp[he,hn x hx]
   simp only[Z5,D0F,List.find?_append,hf]
   simp[he]
  ·rw[List.getElem_set_ne e]
   have hne:t.v≠names[j]:=fun g=>by
    rw[←he]at g
    have hp:=List.pairwise_iff_getElem.1 hnd
    rcases Nat.lt_or_gt_of_ne e with q|q
    ·exact hp i j hi hj q g
    ·exact hp j i hj hi q g.symm
   simp only[Z5,D0F,List.find?_append]
   cases hf:ts.find? (fun x=>decide (x.v=names[j]))with
   |some x=>simp
   |none=>simp[hne]
theorem B3y(l:List LTm)(s:ByteArray):A9t l s=match l.find? (fun t=>decide (t.v=s))with|some t=>t.c|none=>0:=by
 induction l with
 |nil=>rfl
 |cons t l ih=>
  rw[A9t,List.find?_cons]
  by_cases h:t.v=s
  ·simp[h]
  ·simp[h,ih]
theorem B6P(names:List ByteArray)(ts:List LTm):NilR (.sl 2 (Z5 names ts)) (.sl 2 (Rw C4 (names.map (A9t ts)))):=by
 refine B1a (by simp[Z5,Rw]) fun i e e' h1 h2=>?_
 simp only[Z5,Rw,C9m,C9Y]at h1 h2
 obtain⟨s,hs,rfl⟩:=h1
 obtain⟨x,⟨s2,hs2,rfl⟩,rfl⟩:=h2
 rw[hs]at hs2;cases hs2
 rw[B3y]
 cases ts.find? (fun t=>decide (t.v=s))with
 |some t=>exact .inl rfl
 |none=>exact .inr ⟨rfl,rfl⟩
theorem B0G(n i:Nat)(s:Int)(hi:i<n):NilR (.sl 2 ((List.replicate n zB).set i (C4 s))) (.sl 2 (Rw C4 (A69 n i s))):=by
 refine B1a (by simp[Rw,A69]) fun j e e' h1 h2=>?_
 have hj:j<n:=by have:=(C9Z.1 h1).1;simpa using this
 simp only[Rw,A69,C9m,C9Y]at h2
 obtain⟨x,⟨k,hk,rfl⟩,rfl⟩:=h2
 rw[List.getElem?_range hj]at hk
 cases hk
 by_cases g:i=j
 ·subst g
  rw[List.getElem?_set_self (by simpa using hi)]at h1
  cases h1
  rw[if_pos rfl];exact .inl rfl
 ·rw[List.getElem?_set_ne g]at h1
  simp[hj]at h1
  rw[if_neg (fun q=>g q.symm)]
  exact .inr ⟨h1.symm,rfl⟩
end Go.Lin
end
section
namespace Go.Lin
open Go Go.Av Go.Proofs.YtibphjonmikciaaGreatDoor
abbrev A4B(n m:Nat)(r:Row):Prop:=r.c.length=n∧A4p r m
abbrev hit(r s:Row):Prop:=r.eq=false∧s.eq=false∧A33 r s 1=true
theorem A0s(r s:Row)(l:List Row):A3N r (s::l)=if hit r s then(if r.k<s.k then {s with k:=r.k}else s)::l else s::A3N r l:=rfl
theorem B0H(r:Row): ∀(l:List Row) (j:Nat) (hj:j<l.length),(∀(k:Nat) (hk:k<l.length),k<j→¬hit r l[k])→hit r l[j]→A3N r l=if r.k<l[j].k then l.set j {l[j]with k:=r.k}else l
 | [],j,hj,_,_=>by simp at hj
 |s::l,0,hj,_,h=>by
  simp only[List.getElem_cons_zero]at h⊢
  rw[A0s,if_pos h]
  split<;>rfl
 |s::l,j+1,hj,h1,h=>by
  have h0:=h1 0 (by simp) (by omega)
  simp only[List.getElem_cons_zero]at h0
  simp only[List.getElem_cons_succ]at h⊢
  rw[A0s,if_neg h0,B0H r l j (by simpa using hj) (fun k hk hkj=>by have:=h1 (k+1) (by simpa using hk) (by omega);simpa using this) h]
  split<;>rfl
theorem A7O(r:Row): ∀(l:List Row),(∀(k:Nat) (hk:k<l.length),¬hit r l[k])→A3N r l=l++[r]
 | [],_=>rfl
 |s::l,h1=>by
  have h0:=h1 0 (by simp)
  simp only[List.getElem_cons_zero]at h0
  rw[A0s,if_neg h0,A7O r l (fun k hk=>by have:=h1 (k+1) (by simpa using hk);simpa using this)];rfl
theorem B6Q{n m:Nat}(r:Row)(hr:A4B n m r): ∀(l:List Row),(∀s∈l,A4B n m s)→∀s∈A3N r l,A4B n m s
 | [],_,s,hs=>by simp[A3N]at hs;subst hs;exact hr
 |x::l,h,s,hs=>by
  have hx:=h x (C9a ..)
  rw[A0s]at hs
  split at hs
  ·rcases C9r.1 hs with rfl|hs
   ·split
    ·exact⟨hx.1,hr.2.1,hx.2.2⟩
    ·exact hx
   ·exact h s (C9h _ hs)
  ·rcases C9r.1 hs with rfl|hs
   ·exact hx
   ·exact B6Q r hr l (fun y hy=>h y (C9h _ hy)) s hs
theorem B0I(r:Row): ∀l,(A3N r l).length≤l.length+1
 | []=>by simp[A3N]
 |x::l=>by rw[A0s];have:=B0I r l;split<;>simp<;>omega
theorem B0J(l:List Row)(i:Nat)(h:i<l.length):pairs1 (l.take (i+1))=A3N l[i] (pairs1 (l.take i)):=by
 unfold pairs1
 rw[C9i h,D0H];rfl
theorem B0K{n m:Nat}: ∀(l acc:List Row),(∀s∈l,A4B n m s)→(∀s∈acc,A4B n m s)→∀s∈l.foldl (fun out r=>A3N r out) acc,A4B n m s
 | [],_,_,h=>h
 |r::l,acc,h1,h2=>B0K l _ (fun s hs=>h1 s (C9h _ hs)) (B6Q r (h1 r (C9a ..)) acc h2)
theorem A51: ∀(l acc:List Row),(l.foldl (fun out r=>A3N r out) acc).length≤acc.length+l.length
 | [],_=>by simp
 |r::l,acc=>by have:=A51 l (A3N r acc);have:=B0I r acc;simp only[List.foldl_cons,C9U];omega
theorem B3z(r s:Row)(l:List Row):A4o r (s::l)=if r.eq=true∨s.eq=true∨A33 r s (-1)=false then A4o r l
  else if r.k+s.k<0 then none else if r.k+s.k=0 then A4o {r with eq:=true} l else A4o r l:=rfl
theorem B0L(done:List Row)(r:Row)(l:List Row):y9 done (r::l)=match A4o r done with|none=>none|some r'=>y9 (done++[r']) l:=rfl
def B0M:Option (List Row)→D
 |none=>.tuple [.sl 4 [],.bool false]
 |some l=>.tuple [.sl 4 (Rw C5 l),.bool true]
end Go.Lin
end
section
namespace Go.Av
theorem O3.putle{H Hp:Heap}{sz:Nat}{e1 e2 e3:List (List D)}{o1 o2 o3:Option Nat}(h:O3 H Hp sz e1 e2 e3 o1 o2 o3):(putB H sz e1 o1).Le Hp:=by
 cases o1 with
 |none=>exact h.le
 |some b=>
  intro k o hk
  have hk:(H.set b (.vec sz e1)) k=some o:=hk
  by_cases e:k=b
  ·subst e;rw[A5]at hk;cases hk;exact h.a1
  ·rw[A8 _ e]at hk;exact h.le _ _ hk
theorem O3.base{H H2 Hp Hc:Heap}{sz:Nat}{e1 e2 e3:List (List D)}{o1 o2 o3:Option Nat}(h:O3 H Hp sz e1 e2 e3 o1 o2 o3)(h1:H2.Le Hc)(h2:Hp.Le Hc)(hn: ∀b,Hp b≠none→H b=none→H2 b=none):O3 H2 Hc sz e1 e2 e3 o1 o2 o3:=by
 have key: ∀{e:List (List D)} {o:Option Nat},OutAt Hp sz e o→(∀b,o=some b→H b=none)→∀b,o=some b→H2 b=none:=fun {e o} ha hh b g=>hn b (by rw[ha.some_of g];simp) (hh b g)
 exact⟨h1,h.a1.up h2,h.a2.up h2,h.a3.up h2,key h.a1 h.n1,key h.a2 h.n2,key h.a3 h.n3,h.d12,h.d13,h.d23⟩
end Go.Av
namespace Go.Lin
open Go Go.Av Go.Proofs.YtibphjonmikciaaGreatDoor
def A2v(c:List Int)(j:Nat):Nat:=gcdR (c.take j)
theorem A4C(c:List Int):A2v c 0=0:=rfl
theorem A7P(c:List Int)(j:Nat)(h:j<c.length):A2v c (j+1)=Nat.gcd c[j].natAbs (A2v c j):=by
 unfold A2v gcdR
 rw[C9i h,D0H];rfl
theorem A52(c:List Int):A2v c c.length=gcdR c:=by unfold A2v;rw[List.take_length]
theorem B2r(c:List Int)(m:Nat)(hm: ∀x∈c,x.natAbs≤m): ∀j,j≤c.length→A2v c j≤m
 |0,_=>by rw[A4C];omega
 |j+1,h=>by
  have ih:=B2r c m hm j (by omega)
  rw[A7P c j (by omega)]
  by_cases h0:A2v c j=0
  ·rw[h0,Nat.gcd_zero_right];exact hm _ (C9d _)
  ·exact D0V (Nat.gcd_le_right _ (by omega)) ih
def gB(j:Nat)(g:Int):List D:=if j=0 then [.bool false,.nilsl]else C4 g
theorem A45(j:Nat)(g:Int):gB (j+1) g=C4 g:=rfl
theorem C2l(c:List Int)(j:Nat):NilR (.agg (gB j (A2v c j:Nat))) (.agg (C4 (A2v c j:Nat))):=by
 cases j with
 |zero=>rw[A4C];exact A8I
 |succ j=>exact .same _
def A0t(r:Row):Option (List Row):=
 let g:=gcdR r.c
 if g=0 then(if r.k<0∨(r.eq=true∧0<r.k)then none else some [])
 else if g=1 then some [r]
 else
  let k:=r.k.fdiv g
  if r.eq=true∧k*g-r.k≠0 then none
  else some [⟨r.c.map (Int.fdiv · g),k,r.eq⟩]
theorem B1b(r:Row)(l:List Row):W7 (r::l)=(A0t r).bind fun x=>(W7 l).map (x++ ·):=by
 rw[W7]
 unfold A0t
 simp only[]
 split
 ·split
  ·rfl
  ·simp
 ·split
  ·rfl
  ·split
   ·rfl
   ·rfl
theorem B30{l:List Row}{i:Nat}{D:List Row}(h:i<l.length)(hd:W7 l=(W7 (l.drop i)).map (D++ ·)):W7 l=(A0t l[i]).bind fun x=>(W7 (l.drop (i+1))).map ((D++x)++ ·):=by
 rw[hd,C9u h,B1b]
 cases A0t l[i]with
 |none=>rfl
 |some x=>cases W7 (l.drop (i+1))<;>simp
theorem A2w(a:Int)(b:Nat)(hb:b≠0):(a.fdiv b).natAbs≤a.natAbs:=by
 rw[Int.fdiv_eq_ediv_of_nonneg _ (by omega)]
 by_cases h:0≤a
 ·have h1:=Int.ediv_nonneg h (show (0:Int)≤b by omega)
  have h2:=Int.ediv_le_self (b:=(b:Int)) h
  omega
 ·have h1:a / (b:Int)<0:=Int.ediv_neg_of_neg_of_pos (by omega) (by omega)
  have h2:a≤a / (b:Int):=by
   have:=Int.ediv_mul_le a (show (b:Int)≠0 by omega)
   have h3:=Int.mul_le_mul_of_nonpos_left (show a / (b:Int)≤0 by omega) (show (1:Int)≤b by omega)
   have h4:=Int.lt_ediv_add_one_mul_self a (show (0:Int)<b by omega)
   refine Int.le_ediv_of_mul_le (by omega) ?_
   have:=Int.mul_le_mul_of_nonpos_left (show a≤0 by omega) (show (1:Int)≤b by omega)
   omega
  omega
theorem B2s{n m:Nat}{r:Row}{x:List Row}(hr:A4B n m r)(h:A0t r=some x):(∀s∈x,A4B n m s)∧x.length≤1:=by
 unfold A0t at h
 simp only[]at h
 split at h
 ·split at h
  ·cases h
  ·cases h;simp
 ·rename_i g0
  split at h
  ·cases h;exact⟨fun s hs=>by simp at hs;subst hs;exact hr,by simp⟩
  ·split at h
   ·cases h
   ·cases h
    refine⟨fun s hs=>?_,by simp⟩
    simp at hs
    subst hs
    refine⟨by simp[hr.1],D0V (A2w _ _ g0) hr.2.1,fun y hy=>?_⟩
    simp only[D0N]at hy
    obtain⟨z,hz,rfl⟩:=hy
    exact D0V (A2w _ _ g0) (hr.2.2 z hz)
end Go.Lin
end
section
set_option maxRecDepth 20000
namespace Go.Lin
open Go Go.Av Go.Lexs
def zrV(names:List ByteArray)(a:LinV):ZR:=⟨Z5 names a.t,C5x names a⟩
def zrB(n i:Nat)(s:Int):ZR:=⟨(List.replicate n zB).set i (C4 s),⟨A69 n i s,2147483647,false⟩⟩
def zrR(names:List ByteArray)(l:List LinV)(m:Nat):List ZR:=l.map (zrV names)++(List.range m).flatMap fun i=>[zrB names.length i 1,zrB names.length i (-1)]
theorem B6S(names:List ByteArray)(l:List LinV):(zrR names l names.length).map (·.r)=A9v l names:=by
 unfold zrR A9v
 rw[D0P,List.map_map,List.map_flatMap]
 rfl
theorem C2m(names:List ByteArray)(l:List LinV)(m:Nat)(hm:m≤names.length): ∀z∈zrR names l m,zOk z:=fun z hz=>by
 unfold zrR at hz
 rcases C9p.1 hz with h|h
 ·obtain⟨a,_,rfl⟩:=D0N.1 h
  exact B6P names a.t
 ·obtain⟨i,hi,h⟩:=List.mem_flatMap.1 h
  have hi2:=List.mem_range.1 hi
  rcases C9r.1 h with rfl|h
  ·exact B0G _ _ _ (by omega)
  ·simp at h;rw[h];exact B0G _ _ _ (by omega)
def zrJ(names:List ByteArray)(l:List LinV)(i j:Nat):List ZR:=zrR names l i++([zrB names.length i 1,zrB names.length i (-1)].take j)
theorem B6T(names:List ByteArray)(l:List LinV)(i:Nat):zrJ names l i 0=zrR names l i:=by simp[zrJ]
theorem B2t(names:List ByteArray)(l:List LinV)(i:Nat):zrJ names l i 2=zrR names l (i+1):=by
 unfold zrJ zrR
 rw[List.range_succ,List.flatMap_append]
 simp
theorem B86(names:List ByteArray)(l:List LinV)(i:Nat):zrJ names l i 1=zrJ names l i 0++[zrB names.length i 1]:=by simp[zrJ]
theorem B6U(names:List ByteArray)(l:List LinV)(i:Nat):zrJ names l i 2=zrJ names l i 1++[zrB names.length i (-1)]:=by simp[zrJ]
theorem B6V(names:List ByteArray)(l:List LinV):zrR names l 0=l.map (zrV names):=by simp[zrR]
theorem B2u(names:List ByteArray)(l:List LinV)(i:Nat):(zrR names l i).length=l.length+2*i:=by
 unfold zrR
 rw[C9V,C98]
 congr 1
 induction i with
 |zero=>rfl
 |succ i ih=>rw[List.range_succ,List.flatMap_append,C9V,ih];simp;omega
theorem A47(names:List ByteArray)(l:List LinV)(i j:Nat)(hj:j≤2):(zrJ names l i j).length=l.length+2*i+j:=by
 unfold zrJ
 rw[C9V,B2u,C97]
 simp;omega
end Go.Lin
namespace Go.Proofs.YtibphjonmikciaaGreatDoor
open Go Go.Av Go.Lexs Go.Lin
attribute [local irreducible] ACalls W4
theorem A8P{Q}(b:Nat)(es:List ByteArray)(hn:es.length≤1000000)(H:Heap)(hb:H b=some (.box [.sl 1 (Rw j7 es)]))(h: ∀v,H v=none→Q (.vec v 2 0 es.length) (H.set v (.vec 2 (List.replicate es.length zB)))):ACalls Tryz.prog 227 [.box b 0] H Q:=by
 refine B2 [] B3 Tryz.func227 rfl (by kernel_rfl) (C9Q (by kernel_rfl)) (by kernel_rfl) ?_
 simp only[go_sem,Tryz.results227]
 repeat' (first|with_reducible apply C9P|simp only[go_sem,hb]|intro hx_|omega)
 rename_i v
 exact D0u (h v hx_)
set_option maxHeartbeats 2000000 in
theorem C2n{Q}(l:List LinV)(names:List ByteArray)(hlen:l.length≤1000000)(hn:names.length≤1000000)(hup:names.Pairwise fun x y=>j8 x y=true)(hv: ∀a∈l,validL a=true)(hm: ∀a∈l,∀t∈a.t,t.v∈names)(H:Heap)(h:Q (.sl 4 (Rw C5 (A9v l names))) H):
  ACalls Tryz.prog 197 [.sl 3 (Rw E3 l),.sl 1 (Rw j7 names)] H Q:=by
 refine B2 [(6,.par),(11,.par),(22,.par)] B3 Tryz.func197 rfl (by kernel_rfl) (C9Q (by kernel_rfl)) (by kernel_rfl) ?_
 simp only[go_sem,Tryz.results197]
 intro b3 hb3
 have e3:(H.set b3 (.box [.sl 1 (Rw j7 names)])) b3=some (.box [.sl 1 (Rw j7 names)]):=A5 _ _
 have hle3:H.Le (H.set b3 (.box [.sl 1 (Rw j7 names)])):=A2 hb3
 generalize H.set b3 (.box [.sl 1 (Rw j7 names)])=Bs at e3 hle3⊢
 have hnd:names.Nodup:=hup.imp fun {x y} g e=>by rw[e,j9]at g;cases g
 repeat' (first|with_reducible apply C9P|simp only[go_sem]|simp(disch:=omega) only[A0,A9]|simp(disch:=first|omega|grind) only[A6]|(intro hx_;try simp only[A4]at hx_)|omega)
 refine D1 [3,6,19,20] (fun(p:Nat×Option Nat)=>[(21,.int .i64 p.1),(5,J4 4 p.1 p.2)]) (fun(p:Nat×Option Nat)=>putB Bs 4 (Rw zrC ((l.take p.1).map (zrV names))) p.2) (fun(p:Nat×Option Nat)=>p.1≤l.length∧(p.2=none→p.1=0)∧(∀b,p.2=some b→Bs b=none)) (fun(p:Nat×Option Nat)=>l.length-p.1) ((0,none)) (⟨C9k _,by simp,by simp⟩) (by(try simp only[go_sem])<;>(try simp(disch:=omega) [A0])<;>(try omega)) (by first|exact D0q _|exact A2 (by assumption)|exact B4 (by assumption)|simp only[Heap.Le,Heap.set,Heap.del]at* <;>grind) ?_
 rintro Ec rfl ⟨i,o1⟩ ⟨hi,ho,hob⟩
 simp only at hi ho hob
 have h3:=O3.put (H:=Bs) (sz:=4) (es:=Rw zrC ((l.take i).map (zrV names))) (ob:=o1) (fun e=>by rw[ho e];rfl) hob
 have fl:=A8O (zrV names) l i hi
 generalize putB Bs 4 (Rw zrC ((l.take i).map (zrV names))) o1=Hp at h3⊢
 by_cases hlt:i<l.length
 ·have hkd:decide ((i:Int)<l.length)=true:=C9R (by omega)
  have hti:(i:Int)<l.length:=by omega
  have hva:=hv _ (C9d hlt)
  have hma:=hm _ (C9d hlt)
  have fs:=A50 (zrV names) l i hlt
  obtain⟨a,haa⟩: ∃a,a=l[i]:=⟨_,rfl⟩
  rw[←haa]at hva hma fs
  have ok:=L9 hva
  repeat' (first|with_reducible apply C9P|simp only[go_sem,hkd,A9 _ _ hlt,C2 _ _ hlt,←haa]|simp(disch:=omega) only[A0,A9]|simp(disch:=first|omega|grind) only[A6]|(intro hx_;try simp only[A4]at hx_)|omega)
  rename_i b8
  have h8:=hx_
  clear hx_
  have c8:(Hp.set b8 (.box (E3 a))) b8=some (.box (E3 a)):=A5 _ _
  have hle8:Hp.Le (Hp.set b8 (.box (E3 a))):=A2 h8
  have c3:(Hp.set b8 (.box (E3 a))) b3=some (.box [.sl 1 (Rw j7 names)]):=hle8 _ _ (h3.le _ _ e3)
  generalize Hp.set b8 (.box (E3 a))=B8 at c8 hle8 c3⊢
  have m3:b3∈[b3,b8]:=by simp
  have m8:b8∈[b3,b8]:=by simp
  obtain⟨k,hk⟩: ∃k,k=a.k:=⟨_,rfl⟩
  have okk:=ok.k
  rw[←hk]at okk
  have c8':B8 b8=some (.box [.sl 2 (Rw Q7 a.t),.int .i64 k,.bool a.e]):=by rw[hk];exact c8
  refine B2F (fun i'=>if i'=1 then .mk' (fun v=>.vec v 2 0 names.length) (.vec 2 (List.replicate names.length zB))else if i'=4 then .c (.agg (C4 k))else .c .undef) [b3,b8] ?_
  repeat' (first|with_reducible apply C9P|simp only[go_sem,c8',c3,m3,m8]|simp(disch:=omega) only[A0,A9]|simp(disch:=first|omega|grind) only[A6]|(intro hx_;try simp only[A4]at hx_)|with_reducible refine C7w c3 m3 (by simp) rfl (fun H' Q hro hb hq=>A8P b3 names hn H' hb hq) ?_|with_reducible refine Q9 (fun H' Q hro hq=>l6 k (by omega) (by omega) H' hq) ?_|omega)
  rename_i bv hv b9
  have h9:=hx_
  clear hx_
  have nb:b9≠bv:=h9.1
  have k3:b3≠bv∧b3≠b9:=⟨(fun g=>by rw[g,hv]at c3;cases c3),(fun g=>by rw[g,h9.2]at c3;cases c3)⟩
  rw[show List.replicate names.length zB=Z5 names (a.t.take 0)from(B3x names).symm]
  refine D1 [3,5,6,9,19,20,21,34,35] (fun(j:Nat)=>[(36,.int .i64 j)]) (fun(j:Nat)=>(B8.set bv (.vec 2 (Z5 names (a.t.take j)))).set b9 (.box [.vec bv 2 0 names.length,.bool (decide (k<0)),.sl 1 (Rw E9 (C0 k.natAbs)),.bool a.e])) (fun(j:Nat)=>j≤a.t.length) (fun(j:Nat)=>a.t.length-j) (0) (C9k _) (by(try simp only[go_sem])<;>(try simp(disch:=omega) [A0])<;>(try omega)) (by first|exact D0q _|exact A2 (by assumption)|exact B4 (by assumption)|simp only[Heap.Le,Heap.set,Heap.del]at* <;>grind) ?_
  rintro Ec rfl j hj
  have okl:=ok.len
  by_cases hjt:j<a.t.length
  ·have hkd2:decide ((j:Int)<a.t.length)=true:=C9R (by omega)
   have hjr:(j:Int)<a.t.length:=by omega
   obtain⟨t,ht⟩: ∃t,t=a.t[j]:=⟨_,rfl⟩
   have tc:=(A1n ok.t hjt).2.2.1
   rw[←ht]at tc
   obtain⟨x,hx,hxe⟩:=List.getElem_of_mem (hma _ (C9d hjt))
   rw[←ht]at hxe
   have hxi:(x:Int)<names.length:=by omega
   have hdj: ∀y∈a.t.take j,y.v≠t.v:=fun y hy g=>by
    obtain⟨q,hq,rfl⟩:=List.getElem_of_mem hy
    rw[C97]at hq
    have:=List.pairwise_iff_getElem.1 (B1M ok.t) q j (by omega) hjt (by omega)
    rw[List.getElem_take]at g
    rw[←ht,g,j9]at this;cases this
   obtain⟨z,hz⟩: ∃z,z=t.c:=⟨_,rfl⟩
   have ts:a.t.take (j+1)=a.t.take j++[t]:=by rw[C9i hjt,ht]
   have hset:=B6O names (a.t.take j) t x hx hxe hnd hdj
   rw[←ts,←hz]at hset
   have hpg:=B6N names (a.t.take j) x hx (fun y hy=>by rw[hxe];exact hdj y hy)
   have hpl:=B0F names (a.t.take j)
   rw[←hz]at tc
   have hz2:t.c=z:=hz.symm
   repeat' (first|with_reducible apply C9P|simp only[go_sem,hkd2,hjr,A9 _ _ hjt,C2 _ _ hjt,←ht,hz2]|simp(disch:=omega) only[A0,A9]|simp(disch:=first|omega|grind) only[A6]|(intro hx_;try simp only[A4]at hx_)|omega)
   rename_i b11
   have h11:=hx_
   clear hx_
   have j1:=h11.1
   have j2:=h11.2.1
   have j3:b3≠b11:=fun g=>by have:=h11.2.2;rw[←g,c3]at this;cases this
   have p9:b9∈[b9,b11]:=by simp
   have p11:b11∈[b9,b11]:=by simp
   repeat' (first|with_reducible apply C9P|simp only[go_sem,A8 _ j3,A8 _ k3.2,A8 _ k3.1,c3]|simp(disch:=omega) only[A0,A9]|simp(disch:=first|omega|grind) only[A6]|(intro hx_;try simp only[A4]at hx_)|with_reducible refine B3t names hup t.v x hx hxe (by omega) _ ?_|omega)
   refine F4 (fun i'=>if i'=5 then .agg (C4 z)else .undef) [b9,b11] ?_
   repeat' (first|with_reducible apply C9P|simp only[go_sem,p9,p11,hxi,hpl,hpg.1,hpg.2]|simp(disch:=omega) only[A0,A9]|simp(disch:=first|omega|grind) only[A6]|(intro hx_;try simp only[A4]at hx_)|with_reducible refine Q9 (fun H' Q hro hq=>l6 z (by omega) (by omega) H' hq) ?_|omega)
   have hset2:(Z5 names (a.t.take j)).set x ((zB.set 0 (D.bool (decide (z<0)))).set 1 (D.sl 1 (Rw E9 (C0 z.natAbs))))=Z5 names (a.t.take (j+1)):=hset
   refine C3 (j+1) (by omega) (by omega) (by(try simp only[go_sem])<;>(try simp(disch:=omega) [A0])<;>(try omega)) ?_
   rw[←hset2]
   intro q o hq
   have e11:q≠b11:=fun g=>by rw[g,A8 _ j1,A8 _ j2,h11.2.2]at hq;cases hq
   by_cases g:q=bv
   ·subst g;rw[A8 _ nb.symm,A5]at hq;rw[A5];exact hq
   ·rw[A8 _ g,A8 _ e11]
    by_cases e12:q=b9
    ·subst e12;rw[A5]at hq⊢;exact hq
    ·rw[A8 _ e12,A8 _ g]at hq⊢;exact hq
  ·have hkd2:decide ((j:Int)<a.t.length)=false:=C9S (by omega)
   have hje:j=a.t.length:=by omega
   subst hje
   rw[List.take_length]
   repeat' (first|with_reducible apply C9P|simp only[go_sem,hkd2]|simp(disch:=omega) only[A0,A9]|simp(disch:=first|omega|grind) only[A6]|(intro hx_;try simp only[A4]at hx_)|omega)
   rename_i bx
   have hbx:=hx_
   clear hx_
   have hBb:Bs bv=none:=(h3.le.trans hle8).none hv
   have q1:(Bs.set bv (.vec 2 (Z5 names a.t))).Le ((B8.set bv (.vec 2 (Z5 names a.t))).set b9 (.box [.vec bv 2 0 names.length,.bool (decide (k<0)),.sl 1 (Rw E9 (C0 k.natAbs)),.bool a.e])):=by
    intro q o hq
    by_cases g:q=bv
    ·subst g;rw[A8 _ nb.symm,A5];rw[A5]at hq;exact hq
    ·rw[A8 _ g]at hq
     have hB:=hle8 _ _ (h3.le _ _ hq)
     have g9:q≠b9:=fun g=>by rw[g,h9.2]at hB;cases hB
     rw[A8 _ g9,A8 _ g];exact hB
   have q2:Hp.Le ((B8.set bv (.vec 2 (Z5 names a.t))).set b9 (.box [.vec bv 2 0 names.length,.bool (decide (k<0)),.sl 1 (Rw E9 (C0 k.natAbs)),.bool a.e])):=by
    intro q o hq
    have hB:=hle8 _ _ hq
    have g:q≠bv:=fun g=>by rw[g,hv]at hB;cases hB
    have g9:q≠b9:=fun g=>by rw[g,h9.2]at hB;cases hB
    rw[A8 _ g9,A8 _ g];exact hB
   have h3b:=h3.base q1 q2 (fun b hb1 hb2=>by rw[A8 _ (fun g=>hb1 (by rw[g];exact hle8.none hv))];exact hb2)
   refine O3.ap h3b (e1':=Rw zrC ((l.take i).map (zrV names))++[[.vec bv 2 0 names.length,.bool (decide (k<0)),.sl 1 (Rw E9 (C0 k.natAbs)),.bool a.e]]) (D0q _) (by simp only[A4];exact hbx) (by simp) (by rw[D6,fl]) (by simp only[C9U,C9W];omega) (by simp only[C9U,C9W];omega) rfl fun b' H' h4=>?_
   clear h3b q1 q2 hbx
   repeat' (first|with_reducible apply C9P|simp only[go_sem]|simp(disch:=omega) only[A0,A9]|simp(disch:=first|omega|grind) only[A6]|(intro hx_;try simp only[A4]at hx_)|omega)
   have hn4:=h4.n1 _ rfl
   have nbv:bv≠b':=fun g=>by rw[←g,A5]at hn4;cases hn4
   have eX:Rw zrC ((l.take (i+1)).map (zrV names))=Rw zrC ((l.take i).map (zrV names))++[.sl 2 (Z5 names a.t)::[.bool (decide (k<0)),.sl 1 (Rw E9 (C0 k.natAbs)),.bool a.e]]:=by rw[fs,←O2,hk];rfl
   refine B5J (i+1,some b') ⟨by simp only[];omega,by simp,fun b e=>?_⟩ (by simp only[];omega) ?_
   ·have:=h4.n1 _ e
    rw[A8 _ (by cases e;exact nbv.symm)]at this
    exact this
   ·show A1C _ (Bs.set b' (.vec 4 (Rw zrC ((l.take (i+1)).map (zrV names))))) _ _
    rw[eX]
    refine A0n (by(try simp only[go_sem,K1])<;>(try simp(disch:=omega) [A0])<;>(try omega)) (by rw[B0F]) h4.a1 (h4.le _ _ (A5 _ _)) nbv (fun q o hq ho=>?_)
    have hkb:q≠bv:=fun g=>by rw[g,hBb]at ho;cases ho
    exact⟨hkb,h4.le q o (by rw[A8 _ hkb];exact ho)⟩
 ·have hkd:decide ((i:Int)<l.length)=false:=C9S (by omega)
  have hie:i=l.length:=by omega
  rw[C9e (by omega),←B6V]at h3
  have hl0:i=(zrR names l 0).length:=by rw[B2u];omega
  have c3:=h3.le _ _ e3
  rw[hl0]
  repeat' (first|with_reducible apply C9P|simp only[go_sem,C9S (show¬(((zrR names l 0).length:Nat):Int)<l.length by omega),c3]|simp(disch:=omega) only[A0,A9]|simp(disch:=first|omega|grind) only[A6]|(intro hx_;try simp only[A4]at hx_)|omega)
  clear hkd hob ho hi hlt fl hie
  refine D1 [6,61] (fun(p:Nat×Option Nat×Heap)=>[(62,.int .i64 p.1),(5,J4 4 (zrR names l p.1).length p.2.1)]) (fun(p:Nat×Option Nat×Heap)=>p.2.2) (fun(p:Nat×Option Nat×Heap)=>p.1≤names.length∧O3 Bs p.2.2 4 (Rw zrC (zrR names l p.1)) [] [] p.2.1 none none) (fun(p:Nat×Option Nat×Heap)=>names.length-p.1) ((0,o1,Hp)) (⟨C9k _,h3⟩) (by(try simp only[go_sem])<;>(try simp(disch:=omega) [A0])<;>(try omega)) (by first|exact D0q _|exact A2 (by assumption)|exact B4 (by assumption)|simp only[Heap.Le,Heap.set,Heap.del]at* <;>grind) ?_
  clear h3 c3
  obtain⟨M,hM⟩: ∃M:Int,M=2147483647:=⟨_,rfl⟩
  have wm: ∀(H:Heap) (Q:D→Heap→Prop),Q (.agg (C4 M)) H→ACalls Tryz.prog 228 [.int .i64 2147483647] H Q:=fun H Q hq=>l6 2147483647 (by omega) (by omega) H (by rw[←hM];exact hq)
  rintro Ec rfl ⟨i,o1,Hp⟩ ⟨hi,h3⟩
  simp only at hi h3
  by_cases hit:i<names.length
  ·have hkd2:decide ((i:Int)<names.length)=true:=C9R (by omega)
   have hin:(i:Int)<names.length:=by omega
   repeat' (first|with_reducible apply C9P|simp only[go_sem,hkd2]|simp(disch:=omega) only[A0,A9]|simp(disch:=first|omega|grind) only[A6]|(intro hx_;try simp only[A4]at hx_)|omega)
   rename_i bs
   have hbs:=hx_
   clear hx_
   have g3:=h3.grow hbs (.vec 1 [[.int .i64 1],[.int .i64 (-1)]])
   have es:(Bs.set bs (.vec 1 [[.int .i64 1],[.int .i64 (-1)]])) bs=some (.vec 1 [[.int .i64 1],[.int .i64 (-1)]]):=A5 _ _
   have hB1:Bs.Le (Bs.set bs (.vec 1 [[.int .i64 1],[.int .i64 (-1)]])):=A2 (h3.le.none hbs)
   generalize Hp.set bs (.vec 1 [[.int .i64 1],[.int .i64 (-1)]])=Hq at g3⊢
   generalize Bs.set bs (.vec 1 [[.int .i64 1],[.int .i64 (-1)]])=B1 at g3 es hB1
   rw[←B6T]at g3⊢
   refine D1 [6,14,61,62,65,66] (fun(p:Nat×Option Nat×Heap)=>[(67,.int .i64 p.1),(5,J4 4 (zrJ names l i p.1).length p.2.1)]) (fun(p:Nat×Option Nat×Heap)=>p.2.2) (fun(p:Nat×Option Nat×Heap)=>p.1≤2∧O3 B1 p.2.2 4 (Rw zrC (zrJ names l i p.1)) [] [] p.2.1 none none) (fun(p:Nat×Option Nat×Heap)=>2-p.1) ((0,o1,Hq)) (⟨C9k _,g3⟩) (by(try simp only[go_sem])<;>(try simp(disch:=omega) [A0])<;>(try omega)) (by first|exact D0q _|exact A2 (by assumption)|exact B4 (by assumption)|simp only[Heap.Le,Heap.set,Heap.del]at* <;>grind) ?_
   clear g3 h3
   rintro Ec rfl ⟨j,o1,Hp⟩ ⟨hj,h3⟩
   simp only at hj h3
   have d3:=h3.le _ _ (hB1 _ _ e3)
   have ds:=h3.le _ _ es
   match j,hj with
   |0,_=>
    have k3:decide (((0:Nat):Int)<((2:Nat):Int))=true:=by decide
    have g1:=B86 names l i
    have gl:=A47 names l i 0 (by omega)
    have gl2:=A47 names l i (1) (by omega)
    obtain⟨s,hs⟩: ∃s:Int,s=1:=⟨1,rfl⟩
    have ws: ∀(H:Heap) (Q:D→Heap→Prop),Q (.agg (C4 s)) H→ACalls Tryz.prog 228 [.int .i64 (1)] H Q:=fun H Q hq=>l6 (1) (by omega) (by omega) H (by rw[←hs];exact hq)
    repeat' (first|with_reducible apply C9P|simp only[go_sem,k3,ds,d3,C9y,C9z]|simp(disch:=omega) only[A0,A9]|simp(disch:=first|omega|grind) only[A6]|(intro hx_;try simp only[A4]at hx_)|with_reducible refine A8P b3 names hn _ d3 ?_|with_reducible refine wm _ _ ?_|omega)
    rename_i v hv b17
    have h17:=hx_
    clear hx_
    have nb:b17≠v:=h17.1
    have p17:b17∈[b17]:=by simp
    have hpz:(List.replicate names.length zB)[i]? =some zB∧(List.replicate names.length zB).getD i []=zB:=by
     have:(List.replicate names.length zB)[i]? =some zB:=by simp[hit]
     exact⟨this,by rw[List.getD_eq_getElem?_getD,this];rfl⟩
    have hzl:(List.replicate names.length zB).length=names.length:=List.length_replicate
    refine F4 (fun i'=>if i'=4 then .agg (C4 s)else .undef) [b17] ?_
    obtain⟨Z,hZ⟩: ∃Z,Z=List.replicate names.length zB:=⟨_,rfl⟩
    rw[←hZ]at hpz hzl⊢
    repeat' (first|with_reducible apply C9P|simp only[go_sem,p17,hin,hzl,hpz.1,hpz.2]|simp(disch:=omega) only[A0,A9]|simp(disch:=first|omega|grind) only[A6]|(intro hx_;try simp only[A4]at hx_)|with_reducible refine Q9 (fun H' Q hro hq=>ws H' Q hq) ?_|omega)
    rename_i bx
    have hbx:=hx_
    clear hx_
    have hset:Z.set i ((zB.set 0 (D.bool (decide (s<0)))).set 1 (D.sl 1 (Rw E9 (C0 s.natAbs))))=(List.replicate names.length zB).set i (C4 s):=by rw[hZ];rfl
    rw[hset]
    obtain⟨Y,hY⟩: ∃Y,Y=(List.replicate names.length zB).set i (C4 s):=⟨_,rfl⟩
    rw[←hY]
    have hYl:Y.length=names.length:=by rw[hY,D0M,List.length_replicate]
    have hBv:B1 v=none:=h3.le.none hv
    have q1:(B1.set v (.vec 2 Y)).Le (((Hp.set v (.vec 2 Z)).set b17 (.box [.vec v 2 0 names.length,.bool (decide (M<0)),.sl 1 (Rw E9 (C0 M.natAbs)),.bool false])).set v (.vec 2 Y)):=by
     intro q o hq
     by_cases g:q=v
     ·subst g;rw[A5]at hq⊢;exact hq
     ·rw[A8 _ g]at hq
      have hB:=h3.le _ _ hq
      have g9:q≠b17:=fun g=>by rw[g,h17.2]at hB;cases hB
      rw[A8 _ g,A8 _ g9,A8 _ g];exact hB
    have q2:Hp.Le (((Hp.set v (.vec 2 Z)).set b17 (.box [.vec v 2 0 names.length,.bool (decide (M<0)),.sl 1 (Rw E9 (C0 M.natAbs)),.bool false])).set v (.vec 2 Y)):=by
     intro q o hB
     have g:q≠v:=fun g=>by rw[g,hv]at hB;cases hB
     have g9:q≠b17:=fun g=>by rw[g,h17.2]at hB;cases hB
     rw[A8 _ g,A8 _ g9,A8 _ g];exact hB
    have h3b:=h3.base q1 q2 (fun b hb1 hb2=>by rw[A8 _ (fun g=>hb1 (by rw[g];exact hv))];exact hb2)
    refine O3.ap h3b (e1':=Rw zrC (zrJ names l i 0)++[[.vec v 2 0 names.length,.bool (decide (M<0)),.sl 1 (Rw E9 (C0 M.natAbs)),.bool false]]) (D0q _) (by simp only[A4];simp only[hbx,ne_eq,not_false_eq_true,and_self]) (by simp) (by rw[D6]) (by simp only[C9U,C9W];omega) (by simp only[C9U,C9W];omega) rfl fun b' H' h4=>?_
    clear h3b q1 q2 hbx
    repeat' (first|with_reducible apply C9P|simp only[go_sem]|simp(disch:=omega) only[A0,A9]|simp(disch:=first|omega|grind) only[A6]|(intro hx_;try simp only[A4]at hx_)|omega)
    have hn4:=h4.n1 _ rfl
    have nbv:v≠b':=fun g=>by rw[←g,A5]at hn4;cases hn4
    have hn5:B1 b'=none:=by rw[A8 _ nbv.symm]at hn4;exact hn4
    have eX:Rw zrC (zrJ names l i 1)=Rw zrC (zrJ names l i 0)++[.sl 2 Y::[.bool (decide (M<0)),.sl 1 (Rw E9 (C0 M.natAbs)),.bool false]]:=by rw[g1,←O2,hY,hM,hs];rfl
    refine B5J (1,some b',B1.set b' (.vec 4 (Rw zrC (zrJ names l i 1)))) ⟨by simp only[];omega,O3.put (H:=B1) (ob:=some b') (by simp) (fun b e=>by cases e;exact hn5)⟩ (by simp only[];omega) ?_
    show A1C _ (B1.set b' (.vec 4 (Rw zrC (zrJ names l i 1)))) _ _
    rw[eX]
    refine A0n (by(try simp only[go_sem,K1,gl,gl2])<;>(try simp(disch:=omega) [A0])<;>(try omega)) hYl.symm h4.a1 (h4.le _ _ (A5 _ _)) nbv (fun q o hq ho=>?_)
    have hkb:q≠v:=fun g=>by rw[g,hBv]at ho;cases ho
    exact⟨hkb,h4.le q o (by rw[A8 _ hkb];exact ho)⟩
   |1,_=>
    have k3:decide (((1:Nat):Int)<((2:Nat):Int))=true:=by decide
    have g1:=B6U names l i
    have gl:=A47 names l i 1 (by omega)
    have gl2:=A47 names l i (2) (by omega)
    obtain⟨s,hs⟩: ∃s:Int,s= -1:=⟨-1,rfl⟩
    have ws: ∀(H:Heap) (Q:D→Heap→Prop),Q (.agg (C4 s)) H→ACalls Tryz.prog 228 [.int .i64 (-1)] H Q:=fun H Q hq=>l6 (-1) (by omega) (by omega) H (by rw[←hs];exact hq)
    repeat' (first|with_reducible apply C9P|simp only[go_sem,k3,ds,d3,C9y,C9z]|simp(disch:=omega) only[A0,A9]|simp(disch:=first|omega|grind) only[A6]|(intro hx_;try simp only[A4]at hx_)|with_reducible refine A8P b3 names hn _ d3 ?_|with_reducible refine wm _ _ ?_|omega)
    rename_i v hv b17
    have h17:=hx_
    clear hx_
    have nb:b17≠v:=h17.1
    have p17:b17∈[b17]:=by simp
    have hpz:(List.replicate names.length zB)[i]? =some zB∧(List.replicate names.length zB).getD i []=zB:=by
     have:(List.replicate names.length zB)[i]? =some zB:=by simp[hit]
     exact⟨this,by rw[List.getD_eq_getElem?_getD,this];rfl⟩
    have hzl:(List.replicate names.length zB).length=names.length:=List.length_replicate
    refine F4 (fun i'=>if i'=4 then .agg (C4 s)else .undef) [b17] ?_
    obtain⟨Z,hZ⟩: ∃Z,Z=List.replicate names.length zB:=⟨_,rfl⟩
    rw[←hZ]at hpz hzl⊢
    repeat' (first|with_reducible apply C9P|simp only[go_sem,p17,hin,hzl,hpz.1,hpz.2]|simp(disch:=omega) only[A0,A9]|simp(disch:=first|omega|grind) only[A6]|(intro hx_;try simp only[A4]at hx_)|with_reducible refine Q9 (fun H' Q hro hq=>ws H' Q hq) ?_|omega)
    rename_i bx
    have hbx:=hx_
    clear hx_
    have hset:Z.set i ((zB.set 0 (D.bool (decide (s<0)))).set 1 (D.sl 1 (Rw E9 (C0 s.natAbs))))=(List.replicate names.length zB).set i (C4 s):=by rw[hZ];rfl
    rw[hset]
    obtain⟨Y,hY⟩: ∃Y,Y=(List.replicate names.length zB).set i (C4 s):=⟨_,rfl⟩
    rw[←hY]
    have hYl:Y.length=names.length:=by rw[hY,D0M,List.length_replicate]
    have hBv:B1 v=none:=h3.le.none hv
    have q1:(B1.set v (.vec 2 Y)).Le (((Hp.set v (.vec 2 Z)).set b17 (.box [.vec v 2 0 names.length,.bool (decide (M<0)),.sl 1 (Rw E9 (C0 M.natAbs)),.bool false])).set v (.vec 2 Y)):=by
     intro q o hq
     by_cases g:q=v
     ·subst g;rw[A5]at hq⊢;exact hq
     ·rw[A8 _ g]at hq
      have hB:=h3.le _ _ hq
      have g9:q≠b17:=fun g=>by rw[g,h17.2]at hB;cases hB
      rw[A8 _ g,A8 _ g9,A8 _ g];exact hB
    have q2:Hp.Le (((Hp.set v (.vec 2 Z)).set b17 (.box [.vec v 2 0 names.length,.bool (decide (M<0)),.sl 1 (Rw E9 (C0 M.natAbs)),.bool false])).set v (.vec 2 Y)):=by
     intro q o hB
     have g:q≠v:=fun g=>by rw[g,hv]at hB;cases hB
     have g9:q≠b17:=fun g=>by rw[g,h17.2]at hB;cases hB
     rw[A8 _ g,A8 _ g9,A8 _ g];exact hB
    have h3b:=h3.base q1 q2 (fun b hb1 hb2=>by rw[A8 _ (fun g=>hb1 (by rw[g];exact hv))];exact hb2)
    refine O3.ap h3b (e1':=Rw zrC (zrJ names l i 1)++[[.vec v 2 0 names.length,.bool (decide (M<0)),.sl 1 (Rw E9 (C0 M.natAbs)),.bool false]]) (D0q _) (by simp only[A4];simp only[hbx,ne_eq,not_false_eq_true,and_self]) (by simp) (by rw[D6]) (by simp only[C9U,C9W];omega) (by simp only[C9U,C9W];omega) rfl fun b' H' h4=>?_
    clear h3b q1 q2 hbx
    repeat' (first|with_reducible apply C9P|simp only[go_sem]|simp(disch:=omega) only[A0,A9]|simp(disch:=first|omega|grind) only[A6]|(intro hx_;try simp only[A4]at hx_)|omega)
    have hn4:=h4.n1 _ rfl
    have nbv:v≠b':=fun g=>by rw[←g,A5]at hn4;cases hn4
    have hn5:B1 b'=none:=by rw[A8 _ nbv.symm]at hn4;exact hn4
    have eX:Rw zrC (zrJ names l i 2)=Rw zrC (zrJ names l i 1)++[.sl 2 Y::[.bool (decide (M<0)),.sl 1 (Rw E9 (C0 M.natAbs)),.bool false]]:=by rw[g1,←O2,hY,hM,hs];rfl
    refine B5J (2,some b',B1.set b' (.vec 4 (Rw zrC (zrJ names l i 2)))) ⟨by simp only[];omega,O3.put (H:=B1) (ob:=some b') (by simp) (fun b e=>by cases e;exact hn5)⟩ (by simp only[];omega) ?_
    show A1C _ (B1.set b' (.vec 4 (Rw zrC (zrJ names l i 2)))) _ _
    rw[eX]
    refine A0n (by(try simp only[go_sem,K1,gl,gl2])<;>(try simp(disch:=omega) [A0])<;>(try omega)) hYl.symm h4.a1 (h4.le _ _ (A5 _ _)) nbv (fun q o hq ho=>?_)
    have hkb:q≠v:=fun g=>by rw[g,hBv]at ho;cases ho
    exact⟨hkb,h4.le q o (by rw[A8 _ hkb];exact ho)⟩
   |2,_=>
    rw[B2t]at h3
    repeat' (first|with_reducible apply C9P|simp only[go_sem,B2t]|simp(disch:=omega) only[A0,A9]|simp(disch:=first|omega|grind) only[A6]|(intro hx_;try simp only[A4]at hx_)|omega)
    refine C3 (i+1,o1,Hp) ⟨by simp only[];omega,h3.less hB1⟩ (by simp only[];omega) (by(try simp only[go_sem])<;>(try simp(disch:=omega) [A0])<;>(try omega)) (D0q _)
   |j+3,hj=>omega
  ·have hkd2:decide ((i:Int)<names.length)=false:=C9S (by omega)
   have hie:i=names.length:=by omega
   subst hie
   repeat' (first|with_reducible apply C9P|simp only[go_sem,hkd2]|simp(disch:=omega) only[A0,A9]|simp(disch:=first|omega|grind) only[A6]|(intro hx_;try simp only[A4]at hx_)|omega)
   refine Fin.out (by rw[D6]) h3.a1 (D9 (B3w _ (C2m names l _ (C9j _))) ?_)
   rw[B6S]
   exact D0r (hle3.trans (O3.one h3)) h
open Go Go.Av Go.Lin
set_option maxHeartbeats 4000000 in
theorem B87{Q}(l:List Row)(n:Nat)(hlen:l.length≤1000000)(hn:n≤1000000)(hP: ∀r∈l,A4B n 18446744073709551616 r)(H:Heap)(h:Q (B0M (y9 [] (pairs1 l))) H):ACalls Tryz.prog 250 [.sl 4 (Rw C5 l)] H Q:=by
 refine B2 [(10,.par),(11,.par),(23,.par),(24,.par)] B3 Tryz.func250 rfl (by kernel_rfl) (C9Q (by kernel_rfl)) (by kernel_rfl) ?_
 simp only[go_sem,Tryz.results250]
 have z0:D.nilsl=J4 4 (pairs1 (l.take 0)).length none:=rfl
 repeat' (first|with_reducible apply C9P|simp only[go_sem]|simp(disch:=omega) only[A0,A9]|intro hx_|omega)
 refine D1 [13,14] (fun(p:Nat×Option Nat×Heap)=>[(15,.int .i64 p.1),(4,J4 4 (pairs1 (l.take p.1)).length p.2.1)]) (fun(p:Nat×Option Nat×Heap)=>p.2.2) (fun(p:Nat×Option Nat×Heap)=>p.1≤l.length∧O3 H p.2.2 4 (Rw C5 (pairs1 (l.take p.1))) [] [] p.2.1 none none) (fun(p:Nat×Option Nat×Heap)=>l.length-p.1) ((0,none,H)) (⟨C9k _,O3.nil H 4⟩) (by(try simp only[go_sem])<;>(try simp(disch:=omega) [A0])<;>(try omega)) (by first|exact D0q _|exact A2 (by assumption)|exact B4 (by assumption)|simp only[Heap.Le,Heap.set,Heap.del]at* <;>grind) ?_
 rintro Ec rfl ⟨i,o1,Hp⟩ ⟨hi,h3⟩
 simp only at hi h3
 have hz:o1=none→(pairs1 (l.take i)).length=0:=fun e=>by
  have:=h3.a1
  rw[e]at this
  have this:Rw C5 (pairs1 (l.take i))= []:=this
  rw[←D6 (f:=C5),this];rfl
 have ol:(pairs1 (l.take i)).length≤1000000:=by have:=A51 (l.take i) [];simp at this;unfold pairs1;omega
 have oP: ∀s∈pairs1 (l.take i),A4B n 18446744073709551616 s:=B0K _ _ (fun s hs=>hP s (List.mem_of_mem_take hs)) (by simp)
 by_cases hlt:i<l.length
 ·have hkd:decide ((i:Int)<l.length)=true:=C9R (by omega)
  have hti:(i:Int)<l.length:=by omega
  have ps:=B0J l i hlt
  have hr:=hP _ (C9d hlt)
  generalize pairs1 (l.take i)=out at h3 hz ol oP ps⊢
  obtain⟨r,hrr⟩: ∃r,r=l[i]:=⟨_,rfl⟩
  rw[←hrr]at ps hr
  repeat' (first|with_reducible apply C9P|simp only[go_sem,hkd,A9 _ _ hlt,C2 _ _ hlt,←hrr,B2O hz]|simp(disch:=omega) only[A0,A9]|intro hx_|omega)
  rename_i b6
  have h6:=hx_
  clear hx_
  have e6:(Hp.set b6 (.box (C5 r))) b6=some (.box (C5 r)):=A5 _ _
  have hle6:Hp.Le (Hp.set b6 (.box (C5 r))):=A2 h6
  generalize Hp.set b6 (.box (C5 r))=Hq at e6 hle6⊢
  refine D1 [4,6,13,14,15,20] (fun(j:Nat)=>[(21,.int .i64 j)]) (fun(j:Nat)=>Hq) (fun(j:Nat)=>j≤out.length∧∀(k:Nat) (hk:k<out.length),k<j→¬hit r out[k]) (fun(j:Nat)=>out.length-j) (0) (⟨C9k _,fun _ _ h=>absurd h (Nat.not_lt_zero _)⟩) (by(try simp only[go_sem])<;>(try simp(disch:=omega) [A0])<;>(try omega)) (by first|exact D0q _|exact A2 (by assumption)|exact B4 (by assumption)|simp only[Heap.Le,Heap.set,Heap.del]at* <;>grind) ?_
  rintro Ec rfl j ⟨hj,hall⟩
  by_cases hjt:j<out.length
  ·have hkd2:decide ((j:Int)<out.length)=true:=C9R (by omega)
   have hjo:(j:Int)<out.length:=by omega
   obtain⟨c,rfl⟩: ∃c,o1=some c:=by
    cases o1 with
    |none=>have:=hz rfl;omega
    |some c=>exact⟨c,rfl⟩
   have ec:Hq c=some (.vec 4 (Rw C5 out)):=hle6 _ _ h3.a1
   have hs:=oP _ (C9d hjt)
   have step: ¬hit r out[j]→∀(k:Nat) (hk:k<out.length),k<j+1→¬hit r out[k]:=fun g k hk hkj=>by
    by_cases e:k=j
    ·subst e;exact g
    ·exact hall k hk (by omega)
   have go1: ¬hit r out[j]→(j+1≤out.length∧∀(k:Nat) (hk:k<out.length),k<j+1→¬hit r out[k]):=fun g=>⟨by omega,step g⟩
   have m6:b6∈[b6,c]:=by simp
   have mc:c∈[b6,c]:=by simp
   cases hre:r.eq with
   |true=>
    repeat' (first|with_reducible apply C9P|simp only[go_sem,hkd2,e6,ec,hre]|simp(disch:=omega) only[A0,A9]|intro hx_|omega)
    exact C3 (j+1) (go1 (fun g=>by have:=g.1;rw[hre]at this;cases this)) (by omega) (by(try simp only[go_sem])<;>(try simp(disch:=omega) [A0])<;>(try omega)) (D0q _)
   |false=>
    cases hse:out[j].eq with
    |true=>
     repeat' (first|with_reducible apply C9P|simp only[go_sem,hkd2,e6,ec,hre,hjo,A9 _ _ hjt,C2 _ _ hjt,hse]|simp(disch:=omega) only[A0,A9]|intro hx_|omega)
     exact C3 (j+1) (go1 (fun g=>by have:=g.2.1;rw[hse]at this;cases this)) (by omega) (by(try simp only[go_sem])<;>(try simp(disch:=omega) [A0])<;>(try omega)) (D0q _)
    |false=>
     repeat' (first|with_reducible apply C9P|simp only[go_sem,hkd2,e6,ec,hre,hjo,A9 _ _ hjt,C2 _ _ hjt,hse]|simp(disch:=omega) only[A0,A9]|intro hx_|omega)
     refine F4 (fun i'=>if i'=4 then .bool (A33 r out[j] 1)else .undef) [b6,c] ?_
     cases ho:A33 r out[j] 1 with
     |false=>
      repeat' (first|with_reducible apply C9P|simp only[go_sem,e6,ec,m6,mc,hjo,A9 _ _ hjt,C2 _ _ hjt]|simp(disch:=omega) only[A0,A9]|intro hx_|with_reducible refine Q9 (fun H' Q hro hq=>A2q r out[j] 1 (.inl rfl) (by rw[hr.1,hs.1]) (by rw[hr.1];exact hn) hr.2 hs.2 H' (by rw[ho];exact hq)) ?_|omega)
      exact C3 (j+1) (go1 (fun g=>by have:=g.2.2;rw[ho]at this;cases this)) (by omega) (by(try simp only[go_sem])<;>(try simp(disch:=omega) [A0])<;>(try omega)) (D0q _)
     |true=>
      have hh:hit r out[j]:=⟨hre,hse,ho⟩
      have ph:=B0H r out j hjt hall hh
      have sk:=hr.2.1
      have sk2:=hs.2.1
      have s1:Sz r.k:=G6 (by omega)
      have s2:Sz out[j].k:=G6 (by omega)
      repeat' (first|with_reducible apply C9P|simp only[go_sem,e6,ec,m6,mc,hjo,A9 _ _ hjt,C2 _ _ hjt]|simp(disch:=omega) only[A0,A9]|intro hx_|with_reducible refine Q9 (fun H' Q hro hq=>A2q r out[j] 1 (.inl rfl) (by rw[hr.1,hs.1]) (by rw[hr.1];exact hn) hr.2 hs.2 H' (by rw[ho];exact hq)) ?_|omega)
      refine F4 (fun i'=>if i'=6 then .bool (decide (r.k<out[j].k))else .undef) [b6,c] ?_
      repeat' (first|with_reducible apply C9P|simp only[go_sem,e6,ec,m6,mc,hjo,A9 _ _ hjt,C2 _ _ hjt]|simp(disch:=omega) only[A0,A9]|intro hx_|with_reducible refine Q9 (fun H' Q hro hq=>B2Z r.k out[j].k s1 s2 H' hq) ?_|omega)
      ·have hk:r.k<out[j].k:=by assumption
       rw[if_pos hk]at ph
       have e:pairs1 (l.take (i+1))=out.set j {out[j]with k:=r.k}:=by rw[ps,ph]
       have el:(pairs1 (l.take (i+1))).length=out.length:=by rw[e,D0M]
       refine C3 (i+1,some c,Hq.set c (.vec 4 (Rw C5 (pairs1 (l.take (i+1)))))) ⟨by simp only[];omega,h3.set1 hle6⟩ (by simp only[];omega) (by(try simp only[go_sem,el,K1])<;>(try simp(disch:=omega) [A0])<;>(try omega)) ?_
       simp only[]
       rw[e,←X7 out j {out[j]with k:=r.k} _ rfl]
       exact D0q _
      ·have hk: ¬r.k<out[j].k:=by omega
       rw[if_neg hk]at ph
       have e:pairs1 (l.take (i+1))=out:=by rw[ps,ph]
       refine C3 (i+1,some c,Hp) ⟨by simp only[];omega,by simp only[e];exact h3⟩ (by simp only[];omega) (by(try simp only[go_sem,e,K1])<;>(try simp(disch:=omega) [A0])<;>(try omega)) hle6
  ·have hkd2:decide ((j:Int)<out.length)=false:=C9S (by omega)
   have e:pairs1 (l.take (i+1))=out++[r]:=by rw[ps,A7O r out (fun k hk=>hall k hk (by omega))]
   have el:(pairs1 (l.take (i+1))).length=out.length+1:=by rw[e];simp
   repeat' (first|with_reducible apply C9P|simp only[go_sem,hkd2,e6]|simp(disch:=omega) only[A0,A9]|intro hx_|omega)
   rename_i bx
   have hbx:=hx_
   clear hx_
   refine O3.ap h3 (e1':=Rw C5 (pairs1 (l.take (i+1)))) hle6 hbx (by simp) (by rw[D6]) (by simp only[C9U,C9W];omega) (by simp only[C9U,C9W];omega) (by rw[e,←O2];rfl) fun b' H' h4=>?_
   repeat' (first|with_reducible apply C9P|simp only[go_sem]|simp(disch:=omega) only[A0,A9]|intro hx_|omega)
   refine C3 (i+1,some b',H') ⟨by simp only[];omega,h4⟩ (by simp only[];omega) (by(try simp only[go_sem,K1,el])<;>(try simp(disch:=omega) [A0])<;>(try omega)) (D0q _)
 ·have hkd:decide ((i:Int)<l.length)=false:=C9S (by omega)
  rw[C9e (by omega)]at h3 hz ol oP
  have e1:l.take i=l:=C9e (by omega)
  rw[e1]at*
  have hml:(pairs1 l).length≤1000000:=ol
  generalize pairs1 l=m at*
  repeat' (first|with_reducible apply C9P|simp only[go_sem,hkd,B2O hz]|simp(disch:=omega) only[A0,A9]|intro hx_|omega)
  refine D1 [4,59] (fun(p:Nat×List Row×Heap)=>[(60,.int .i64 p.1)]) (fun(p:Nat×List Row×Heap)=>p.2.2) (fun(p:Nat×List Row×Heap)=>p.1≤m.length∧p.2.1.length=m.length∧p.2.1.drop p.1=m.drop p.1∧y9 [] m=y9 (p.2.1.take p.1) (m.drop p.1)∧(∀s∈p.2.1,A4B n 18446744073709551616 s)∧O3 H p.2.2 4 (Rw C5 p.2.1) [] [] o1 none none) (fun(p:Nat×List Row×Heap)=>m.length-p.1) ((0,m,Hp)) (⟨C9k _,rfl,rfl,rfl,oP,h3⟩) (by(try simp only[go_sem])<;>(try simp(disch:=omega) [A0])<;>(try omega)) (by first|exact D0q _|exact A2 (by assumption)|exact B4 (by assumption)|simp only[Heap.Le,Heap.set,Heap.del]at* <;>grind) ?_
  clear h3 oP
  rintro Ec rfl ⟨i,X,Hp⟩ ⟨hi2,hXl,hXd,hX2,hXP,h3⟩
  simp only at hi2 hXl hXd hX2 hXP h3
  by_cases hit:i<m.length
  ·have hkd3:decide ((i:Int)<m.length)=true:=C9R (by omega)
   have him:(i:Int)<m.length:=by omega
   obtain⟨c,rfl⟩: ∃c,o1=some c:=by
    cases o1 with
    |none=>have:=hz rfl;omega
    |some c=>exact⟨c,rfl⟩
   have hiX:i<X.length:=by omega
   have hmi:m[i]=X[i]:=by
    have h1:=C9u hiX
    have h2:=C9u hit
    rw[hXd,h2]at h1
    exact(List.cons.inj h1).1
   rw[C9u hit,B0L,hmi]at hX2
   repeat' (first|with_reducible apply C9P|simp only[go_sem,hkd3]|simp(disch:=omega) only[A0,A9]|intro hx_|omega)
   refine D1 [4,9,59,60,63] (fun(p:Nat×Row×Heap)=>[(64,.int .i64 p.1)]) (fun(p:Nat×Row×Heap)=>p.2.2) (fun(p:Nat×Row×Heap)=>p.1≤i∧A4B n 18446744073709551616 p.2.1∧A4o X[i] (X.take i)=A4o p.2.1 ((X.take i).drop p.1)∧O3 H p.2.2 4 (Rw C5 (X.set i p.2.1)) [] [] (some c) none none) (fun(p:Nat×Row×Heap)=>i-p.1) ((0,X[i],Hp)) (⟨C9k _,hXP _ (C9d hiX),rfl,by rw[List.set_getElem_self];exact h3⟩) (by(try simp only[go_sem])<;>(try simp(disch:=omega) [A0])<;>(try omega)) (by first|exact D0q _|exact A2 (by assumption)|exact B4 (by assumption)|simp only[Heap.Le,Heap.set,Heap.del]at* <;>grind) ?_
   clear h3
   rintro Ec rfl ⟨j,r,Hp⟩ ⟨hj,hr,hm,h3⟩
   simp only at hj hr hm h3
   by_cases hjt:j<i
   ·have hkd4:decide ((j:Int)<i)=true:=C9R (by omega)
    have hjX:j<X.length:=by omega
    have hs:=hXP _ (C9d hjX)
    obtain⟨s,hss⟩: ∃s,s=X[j]:=⟨_,rfl⟩
    rw[←hss]at hs
    have dj:(X.take i).drop j=s::(X.take i).drop (j+1):=by
     rw[C9u (by rw[C97];omega),List.getElem_take,hss]
    rw[dj,B3z]at hm
    have yi:(X.set i r).length=X.length:=D0M ..
    have hiY:i<(X.set i r).length:=by omega
    have hjY:j<(X.set i r).length:=by omega
    have gi:(X.set i r)[i]=r:=List.getElem_set_self ..
    have gj:(X.set i r)[j]=s:=by rw[List.getElem_set_ne (by omega),hss]
    have hiXi:(i:Int)<X.length:=by omega
    have hjXi:(j:Int)<X.length:=by omega
    have ec:Hp c=some (.vec 4 (Rw C5 (X.set i r))):=h3.a1
    have ri:=A9 (f:=C5) (X.set i r) i hiY
    have ri2:=C2 (f:=C5) (X.set i r) i hiY
    have rj:=A9 (f:=C5) (X.set i r) j hjY
    have rj2:=C2 (f:=C5) (X.set i r) j hjY
    rw[gi]at ri ri2
    rw[gj]at rj rj2
    have mc:c∈[c]:=by simp
    cases hre:r.eq with
    |true=>
     rw[if_pos (.inl hre)]at hm
     repeat' (first|with_reducible apply C9P|simp only[go_sem,hkd4,hiXi,hjXi,←hXl]|simp(disch:=omega) only[A0,A9]|intro hx_|omega)
     refine F4 (fun i'=>.undef) [c] ?_
     repeat' (first|with_reducible apply C9P|simp only[go_sem,ec,mc,ri,ri2,hre,yi,hiXi]|simp(disch:=omega) only[A0,A9]|intro hx_|omega)
     exact C3 (j+1,r,Hp) ⟨by simp only[];omega,hr,hm,h3⟩ (by simp only[];omega) (by(try simp only[go_sem])<;>(try simp(disch:=omega) [A0])<;>(try omega)) (D0q _)
    |false=>
     cases hse:s.eq with
     |true=>
      rw[if_pos (.inr (.inl hse))]at hm
      repeat' (first|with_reducible apply C9P|simp only[go_sem,hkd4,hiXi,hjXi,←hXl]|simp(disch:=omega) only[A0,A9]|intro hx_|omega)
      refine F4 (fun i'=>.undef) [c] ?_
      repeat' (first|with_reducible apply C9P|simp only[go_sem,ec,mc,ri,ri2,rj,rj2,hre,hse,yi,hiXi,hjXi]|simp(disch:=omega) only[A0,A9]|intro hx_|omega)
      exact C3 (j+1,r,Hp) ⟨by simp only[];omega,hr,hm,h3⟩ (by simp only[];omega) (by(try simp only[go_sem])<;>(try simp(disch:=omega) [A0])<;>(try omega)) (D0q _)
     |false=>
      have hn1:r.c.length=s.c.length:=by rw[hr.1,hs.1]
      have hn2:r.c.length≤1000000:=by rw[hr.1];exact hn
      have opp: ∀(b:Bool),A33 r s (-1)=b→∀(H':Heap) (Q:D→Heap→Prop),Q (.bool b) H'→ACalls Tryz.prog 281 [.agg [.sl 2 (Rw C4 r.c),.bool (decide (r.k<0)),.sl 1 (Rw E9 (C0 r.k.natAbs)),.bool false],.agg [.sl 2 (Rw C4 s.c),.bool (decide (s.k<0)),.sl 1 (Rw E9 (C0 s.k.natAbs)),.bool false],.int .i64 (-1)] H' Q:=fun b hb H' Q hq=>by
       have h0:=A2q (Q:=Q) r s (-1) (.inr rfl) hn1 hn2 hr.2 hs.2 H' (by rw[hb];exact hq)
       rw[B5j,B5j,hre,hse]at h0
       exact h0
      repeat' (first|with_reducible apply C9P|simp only[go_sem,hkd4,hiXi,hjXi,←hXl]|simp(disch:=omega) only[A0,A9]|intro hx_|omega)
      cases ho:A33 r s (-1)with
      |false=>
       rw[if_pos (.inr (.inr ho))]at hm
       refine F4 (fun i'=>if i'=17 then .bool false else .undef) [c] ?_
       repeat' (first|with_reducible apply C9P|simp only[go_sem,ec,mc,ri,ri2,rj,rj2,hre,hse,yi,hiXi,hjXi]|simp(disch:=omega) only[A0,A9]|intro hx_|with_reducible refine Q9 (fun H' Q hro hq=>opp _ ho H' Q hq) ?_|omega)
       exact C3 (j+1,r,Hp) ⟨by simp only[];omega,hr,hm,h3⟩ (by simp only[];omega) (by(try simp only[go_sem])<;>(try simp(disch:=omega) [A0])<;>(try omega)) (D0q _)
      |true=>
       rw[if_neg (by rw[hre,hse,ho];decide)]at hm
       have sk:=hr.2.1
       have sk2:=hs.2.1
       have s1:Sz r.k:=G6 (by omega)
       have s2:Sz s.k:=G6 (by omega)
       refine F4 (fun i'=>if i'=17 then .bool true else .undef) [c] ?_
       repeat' (first|with_reducible apply C9P|simp only[go_sem,ec,mc,ri,ri2,rj,rj2,hre,hse,yi,hiXi,hjXi]|simp(disch:=omega) only[A0,A9]|intro hx_|with_reducible refine Q9 (fun H' Q hro hq=>opp _ ho H' Q hq) ?_|omega)
       rcases Int.lt_trichotomy (r.k+s.k) 0 with g|g|g
       ·rw[if_pos g]at hm
        have sg:(r.k+s.k).sign= -1:=Int.sign_eq_neg_one_of_neg g
        rw[hm]at hX2
        simp only[]at hX2
        rw[hX2]at h
        refine F4 (fun i'=>if i'=8 then .agg (C4 (r.k+s.k))else if i'=9 then .int .i64 (-1)else .undef) [c] ?_
        repeat' (first|with_reducible apply C9P|simp only[go_sem,ec,mc,ri,ri2,rj,rj2,yi,hiXi,hjXi]|simp(disch:=omega) only[A0,A9]|intro hx_|with_reducible refine Q9 (fun H' Q hro hq=>A0M r.k s.k s1 s2 H' hq) ?_|with_reducible refine Q9 (fun H' Q hro hq=>K2 (r.k+s.k) H' (by rw[sg];exact hq)) ?_|omega)
        exact Fin.nilsl 4 _ (D0r h3.le h)
       ·have g1: ¬r.k+s.k<0:=by omega
        rw[if_neg g1,if_pos g]at hm
        have sg:(r.k+s.k).sign=0:=by rw[g];rfl
        refine F4 (fun i'=>if i'=8 then .agg (C4 (r.k+s.k))else if i'=9 then .int .i64 0 else .undef) [c] ?_
        repeat' (first|with_reducible apply C9P|simp only[go_sem,ec,mc,ri,ri2,rj,rj2,yi,hiXi,hjXi]|simp(disch:=omega) only[A0,A9]|intro hx_|with_reducible refine Q9 (fun H' Q hro hq=>A0M r.k s.k s1 s2 H' hq) ?_|with_reducible refine Q9 (fun H' Q hro hq=>K2 (r.k+s.k) H' (by rw[sg];exact hq)) ?_|omega)
        refine C3 (j+1,{r with eq:=true},Hp.set c (.vec 4 (Rw C5 (X.set i {r with eq:=true})))) ⟨by simp only[];omega,⟨hr.1,hr.2⟩,hm,h3.set1 (D0q _)⟩ (by simp only[];omega) (by(try simp only[go_sem])<;>(try simp(disch:=omega) [A0])<;>(try omega)) ?_
        simp only[]
        rw[←List.set_set (a:=r) (b:=({r with eq:=true}:Row)),←X7 (X.set i r) i {r with eq:=true} _ rfl]
        exact D0q _
       ·have g1: ¬r.k+s.k<0:=by omega
        have g2: ¬r.k+s.k=0:=by omega
        rw[if_neg g1,if_neg g2]at hm
        have sg:(r.k+s.k).sign=1:=Int.sign_eq_one_of_pos g
        refine F4 (fun i'=>if i'=8 then .agg (C4 (r.k+s.k))else if i'=9 then .int .i64 1 else .undef) [c] ?_
        repeat' (first|with_reducible apply C9P|simp only[go_sem,ec,mc,ri,ri2,rj,rj2,yi,hiXi,hjXi]|simp(disch:=omega) only[A0,A9]|intro hx_|with_reducible refine Q9 (fun H' Q hro hq=>A0M r.k s.k s1 s2 H' hq) ?_|with_reducible refine Q9 (fun H' Q hro hq=>K2 (r.k+s.k) H' (by rw[sg];exact hq)) ?_|omega)
        exact C3 (j+1,r,Hp) ⟨by simp only[];omega,hr,hm,h3⟩ (by simp only[];omega) (by(try simp only[go_sem])<;>(try simp(disch:=omega) [A0])<;>(try omega)) (D0q _)
   ·have hkd4:decide ((j:Int)<i)=false:=C9S (by omega)
    have hje:j=i:=by omega
    subst hje
    rw[List.drop_eq_nil_of_le (by rw[C97];omega)]at hm
    rw[hm]at hX2
    simp only[A4o]at hX2
    repeat' (first|with_reducible apply C9P|simp only[go_sem,hkd4]|simp(disch:=omega) only[A0,A9]|intro hx_|omega)
    refine C3 (j+1,X.set j r,Hp) ⟨by simp only[];omega,by simp only[D0M];exact hXl,?_,?_,?_,h3⟩ (by simp only[];omega) (by(try simp only[go_sem])<;>(try simp(disch:=omega) [A0])<;>(try omega)) (D0q _)
    ·show (X.set j r).drop (j+1)=m.drop (j+1)
     rw[List.drop_set_of_lt (by omega),←D0Z,←D0Z,hXd]
    ·show y9 [] m=y9 ((X.set j r).take (j+1)) (m.drop (j+1))
     rw[hX2,C9i (by rw[D0M];exact hiX),List.take_set_of_le (by omega),List.getElem_set_self]
    ·intro s hs
     rcases List.mem_or_eq_of_mem_set hs with g|g
     ·exact hXP s g
     ·rw[g];exact hr
  ·have hkd3:decide ((i:Int)<m.length)=false:=C9S (by omega)
   rw[List.drop_eq_nil_of_le (by omega),C9e (by omega)]at hX2
   rw[hX2]at h
   repeat' (first|with_reducible apply C9P|simp only[go_sem,hkd3]|simp(disch:=omega) only[A0,A9]|intro hx_|omega)
   refine A6S (by rw[D6];exact hXl.symm) h3.a1 (D0r (O3.one h3) h)
end Go.Proofs.YtibphjonmikciaaGreatDoor
namespace Go.Lin
def CS(m:Nat)(c:List Int):Prop:=∀x∈c,x.natAbs<m
def AP(n m:Nat)(l:List Row):Prop:=∀r∈l,A4B n m r
def TA(l:List Row)(X:List Row)(i:Nat):Prop:=W7 l=(W7 (l.drop i)).map (X++ ·)
def TS(l X:List Row)(r:Row)(i:Nat):Prop:=W7 l=(A0t r).bind fun x=>(W7 (l.drop (i+1))).map ((X++x)++ ·)
end Go.Lin
namespace Go.Proofs.YtibphjonmikciaaGreatDoor
open Go Go.Av Go.Lin
attribute [local irreducible] ACalls W4
set_option maxHeartbeats 4000000 in
theorem C2o{Q}(l:List Row)(n:Nat)(hlen:l.length≤1000000)(hn:n≤1000000)(hP:AP n 4611686018427387904 l)(hS: ∀r∈l,CS 4294967296 r.c)(H:Heap)(h:Q (B0M (A9u l)) H):ACalls Tryz.prog 220 [.sl 4 (Rw C5 l)] H Q:=by
 refine B2 [(17,.par),(19,.par),(23,.par)] B3 Tryz.func220 rfl (by kernel_rfl) (C9Q (by kernel_rfl)) (by kernel_rfl) ?_
 simp only[go_sem,Tryz.results220]
 have z0:D.nilsl=J4 4 0 none:=rfl
 unfold A9u at h
 repeat' (first|with_reducible apply C9P|simp only[go_sem]|simp(disch:=omega) only[A0,A9]|simp(disch:=first|omega|grind) only[A6]|(intro hx_;try simp only[A4]at hx_)|omega)
 refine D1 [15,16] (fun(p:Nat×List Row×Option Nat)=>[(17,.int .i64 p.1),(4,J4 4 p.2.1.length p.2.2)]) (fun(p:Nat×List Row×Option Nat)=>putB H 4 (Rw C5 p.2.1) p.2.2) (fun(p:Nat×List Row×Option Nat)=>p.1≤l.length∧p.2.1.length≤p.1∧AP n 4611686018427387904 p.2.1∧TA l p.2.1 p.1∧(p.2.2=none→p.2.1= [])∧(∀b,p.2.2=some b→H b=none)) (fun(p:Nat×List Row×Option Nat)=>l.length-p.1) ((0,[],none)) (⟨C9k _,C9j _,(fun s hs=>by cases hs),(by simp[TA]),by simp,by simp⟩) (by(try simp only[go_sem])<;>(try simp(disch:=omega) [A0])<;>(try omega)) (by first|exact D0q _|exact A2 (by assumption)|exact B4 (by assumption)|simp only[Heap.Le,Heap.set,Heap.del]at* <;>grind) ?_
 rintro Ec rfl ⟨i,X,o1⟩ ⟨hi,hXl,hXP,hT,ho,hob⟩
 simp only at hi hXl hXP hT ho hob
 have h3:=O3.put (H:=H) (sz:=4) (es:=Rw C5 X) (ob:=o1) (fun e=>by rw[ho e];rfl) hob
 generalize putB H 4 (Rw C5 X) o1=Hp at h3⊢
 by_cases hlt:i<l.length
 ·have hkd:decide ((i:Int)<l.length)=true:=C9R (by omega)
  have hti:(i:Int)<l.length:=by omega
  have hr:=hP _ (C9d hlt)
  have hrs:=hS _ (C9d hlt)
  have st:TS l X l[i] i:=B30 hlt hT
  obtain⟨r,hrr⟩: ∃r,r=l[i]:=⟨_,rfl⟩
  rw[←hrr]at hr hrs st
  have hrl:r.c.length≤1000000:=by rw[hr.1];exact hn
  repeat' (first|with_reducible apply C9P|simp only[go_sem,hkd,A9 _ _ hlt,C2 _ _ hlt,←hrr]|simp(disch:=omega) only[A0,A9]|simp(disch:=first|omega|grind) only[A6]|(intro hx_;try simp only[A4]at hx_)|omega)
  rename_i b6 h6 b7
  have h7:=hx_
  clear hx_
  have n67:b6≠b7:=Ne.symm h7.1
  have e6:(Hp.set b6 (.box (C5 r))) b6=some (.box (C5 r)):=A5 _ _
  have g7:(Hp.set b6 (.box (C5 r))) b7=none:=by rw[A8 _ h7.1];exact h7.2
  have hle6:Hp.Le (Hp.set b6 (.box (C5 r))):=A2 h6
  generalize Hp.set b6 (.box (C5 r))=B6 at e6 g7 hle6⊢
  clear h7
  have gle:=B2r r.c 4294967295 (fun x hx=>by have:=hrs x hx;omega)
  have gc0: ∀(a:Int) (_:Sz a) (H:Heap) (Q:D→Heap→Prop),Q (.agg (C4 (a.natAbs:Nat))) H→ACalls Tryz.prog 244 [.agg (C4 a),.agg [.bool false,.nilsl]] H Q:=fun a ha H Q hq=>by
   refine Z8 (args':=[.agg (C4 a),.agg (C4 0)]) rfl (fun i d d' h1 h2=>?_) (B5t a 0 ha (by decide) H (by rw[show (0:Int).natAbs=0 from rfl,Nat.gcd_zero_right];exact hq))
   match i with
   |0=>cases h1;cases h2;exact .same _
   |1=>cases h1;cases h2;exact A8I
   |i+2=>cases h1
  repeat' (first|with_reducible apply C9P|simp only[go_sem,e6,A8 _ n67]|simp(disch:=omega) only[A0,A9]|simp(disch:=first|omega|grind) only[A6]|(intro hx_;try simp only[A4]at hx_)|omega)
  refine D1 [4,6,7,15,16,17,22,23] (fun(j:Nat)=>[(24,.int .i64 j)]) (fun(j:Nat)=>B6.set b7 (.box (gB j (A2v r.c j:Nat)))) (fun(j:Nat)=>j≤r.c.length) (fun(j:Nat)=>r.c.length-j) (0) (C9k _) (by(try simp only[go_sem])<;>(try simp(disch:=omega) [A0])<;>(try omega)) (by first|exact D0q _|exact A2 (by assumption)|exact B4 (by assumption)|simp only[Heap.Le,Heap.set,Heap.del]at* <;>grind) ?_
  ·rintro Ec rfl j hj
   by_cases hjt:j<r.c.length
   ·have hkd:decide ((j:Int)<r.c.length)=true:=C9R (by omega)
    have hjr:(j:Int)<r.c.length:=by omega
    have c1:=hrs _ (C9d hjt)
    have s1:Sz r.c[j]:=G6 (by omega)
    have gs:=A7P r.c j hjt
    have gj:=gle j hj
    cases j with
    |zero=>
     rw[A4C,Nat.gcd_zero_right]at gs
     have eg:gB 0 (A2v r.c 0:Nat)= [.bool false,.nilsl]:=rfl
     rw[eg]
     repeat' (first|with_reducible apply C9P|simp only[go_sem,hkd,hjr,A9 _ _ hjt,C2 _ _ hjt]|simp(disch:=omega) only[A0,A9]|simp(disch:=first|omega|grind) only[A6]|(intro hx_;try simp only[A4]at hx_)|with_reducible refine gc0 _ s1 _ _ ?_|omega)
     rename_i b9
     have h9:=hx_
     clear hx_
     refine C3 (0+1) (by omega) (by omega) (by(try simp only[go_sem])<;>(try simp(disch:=omega) [A0])<;>(try omega)) ?_
     rw[A45,gs]
     exact(by simp only[Go.Av.Heap.Le,Go.Av.Heap.set,Go.Av.Heap.del]at* <;>grind)
    |succ j=>
     have hg:Sz ((A2v r.c (j+1):Nat):Int):=G6 (by omega)
     have gcs: ∀(H:Heap) (Q:D→Heap→Prop),Q (.agg (C4 ((A2v r.c (j+1+1):Nat):Int))) H→ACalls Tryz.prog 244 [.agg (C4 r.c[j+1]),.agg (C4 ((A2v r.c (j+1):Nat):Int))] H Q:=fun H Q hq=>
      B5t _ _ s1 (by omega) H (by rw[Int.natAbs_natCast,←gs];exact hq)
     rw[A45]
     repeat' (first|with_reducible apply C9P|simp only[go_sem,hkd,hjr,A9 _ _ hjt,C2 _ _ hjt]|simp(disch:=omega) only[A0,A9]|simp(disch:=first|omega|grind) only[A6]|(intro hx_;try simp only[A4]at hx_)|with_reducible refine gcs _ _ ?_|omega)
     rename_i b9
     have h9:=hx_
     clear hx_
     refine C3 (j+1+1) (by omega) (by omega) (by(try simp only[go_sem])<;>(try simp(disch:=omega) [A0])<;>(try omega)) ?_
     rw[A45]
     exact(by simp only[Go.Av.Heap.Le,Go.Av.Heap.set,Go.Av.Heap.del]at* <;>grind)
   ·have hkd:decide ((j:Int)<r.c.length)=false:=C9S (by omega)
    have hje:j=r.c.length:=by omega
    subst hje
    rw[A52]
    have gle:=gle _ (C9j _)
    rw[A52]at gle
    have hG:NilR (.agg (gB r.c.length (gcdR r.c:Nat))) (.agg (C4 (gcdR r.c:Nat))):=by have:=C2l r.c r.c.length;rwa [A52]at this
    have hG2:gcdR r.c≠0→gB r.c.length (gcdR r.c:Nat)=C4 (gcdR r.c:Nat):=fun g=>by
     cases hl:r.c.length with
     |zero=>rw[C9n hl]at g;exact absurd rfl g
     |succ k=>exact A45 _ _
    obtain⟨d1,d2,hd⟩: ∃d1 d2,gB r.c.length (gcdR r.c:Nat)= [d1,d2]:=by
     unfold gB;split
     ·exact⟨_,_,rfl⟩
     ·exact⟨_,_,rfl⟩
    rw[hd]at hG hG2⊢
    have t1d:A0t r=if gcdR r.c=0 then(if r.k<0∨(r.eq=true∧0<r.k)then none else some [])else if gcdR r.c=1 then some [r]else if r.eq=true∧r.k.fdiv (gcdR r.c:Nat)*(gcdR r.c:Nat)-r.k≠0 then none else some [⟨r.c.map (Int.fdiv · (gcdR r.c:Nat)),r.k.fdiv (gcdR r.c:Nat),r.eq⟩]:=rfl
    generalize gcdR r.c=g at gle hG hG2 t1d
    have sgn: ∀(s:Int),(g:Int).sign=s→∀(H:Heap) (Q:D→Heap→Prop),Q (.int .i64 s) H→ACalls Tryz.prog 245 [.agg [d1,d2]] H Q:=fun s hs H Q hq=>by
     refine Z8 (args':=[.agg (C4 (g:Nat))]) rfl (fun i d d' h1 h2=>?_) (K2 (g:Int) H (by rw[hs];exact hq))
     match i with
     |0=>cases h1;cases h2;exact hG
     |i+1=>cases h1
    have e7:(B6.set b7 (.box [d1,d2])) b7=some (.box [d1,d2]):=A5 _ _
    have e6':(B6.set b7 (.box [d1,d2])) b6=some (.box (C5 r)):=by rw[A8 _ n67];exact e6
    have hle7:Hp.Le (B6.set b7 (.box [d1,d2])):=hle6.trans (A2 g7)
    generalize B6.set b7 (.box [d1,d2])=B7 at e7 e6' hle7⊢
    clear e6 g7 hle6 gc0 hd
    have none_:A0t r=none→Q (.tuple [.sl 4 [],.bool false]) H:=fun e=>by
     unfold TS at st
     rw[e]at st
     rw[st]at h
     exact h
    by_cases g0:g=0
    ·rw[if_pos g0]at t1d
     have sg0:((g:Nat):Int).sign=0:=by rw[g0];rfl
     have sk:=hr.2.1
     by_cases k1:r.k<0
     ·rw[if_pos (.inl k1)]at t1d
      have sg:r.k.sign= -1:=Int.sign_eq_neg_one_of_neg k1
      repeat' (first|with_reducible apply C9P|simp only[go_sem,hkd,e7,e6',sg]|simp(disch:=omega) only[A0,A9]|simp(disch:=first|omega|grind) only[A6]|(intro hx_;try simp only[A4]at hx_)|with_reducible refine sgn 0 sg0 _ _ ?_|with_reducible refine K2 r.k _ ?_|omega)
      exact Fin.nilsl 4 _ (D0r (h3.le.trans hle7) (none_ t1d))
     ·cases hre:r.eq with
      |true=>
       by_cases k2:0<r.k
       ·rw[if_pos (.inr ⟨hre,k2⟩)]at t1d
        have sg:r.k.sign=1:=Int.sign_eq_one_of_pos k2
        repeat' (first|with_reducible apply C9P|simp only[go_sem,hkd,e7,e6',sg,hre]|simp(disch:=omega) only[A0,A9]|simp(disch:=first|omega|grind) only[A6]|(intro hx_;try simp only[A4]at hx_)|with_reducible refine sgn 0 sg0 _ _ ?_|with_reducible refine K2 r.k _ ?_|omega)
        exact Fin.nilsl 4 _ (D0r (h3.le.trans hle7) (none_ t1d))
       ·have k0:r.k=0:=by omega
        rw[if_neg (by omega)]at t1d
        have sg:r.k.sign=0:=by rw[k0];rfl
        repeat' (first|with_reducible apply C9P|simp only[go_sem,hkd,e7,e6',sg,hre]|simp(disch:=omega) only[A0,A9]|simp(disch:=first|omega|grind) only[A6]|(intro hx_;try simp only[A4]at hx_)|with_reducible refine sgn 0 sg0 _ _ ?_|with_reducible refine K2 r.k _ ?_|omega)
        refine C3 (i+1,X,o1) ⟨by simp only[];omega,by simp only[];omega,hXP,?_,ho,hob⟩ (by simp only[];omega) (by(try simp only[go_sem])<;>(try simp(disch:=omega) [A0])<;>(try omega)) (h3.putle.trans hle7)
        unfold TS at st
        rw[t1d]at st
        simp only[TA]
        rw[st];simp
      |false=>
       have t1e:A0t r=some []:=by rw[t1d,if_neg (by rw[hre];simp;omega)]
       rcases Int.lt_trichotomy 0 r.k with k2|k2|k2
       ·have sg:r.k.sign=1:=Int.sign_eq_one_of_pos k2
        repeat' (first|with_reducible apply C9P|simp only[go_sem,hkd,e7,e6',sg,hre]|simp(disch:=omega) only[A0,A9]|simp(disch:=first|omega|grind) only[A6]|(intro hx_;try simp only[A4]at hx_)|with_reducible refine sgn 0 sg0 _ _ ?_|with_reducible refine K2 r.k _ ?_|omega)
        refine C3 (i+1,X,o1) ⟨by simp only[];omega,by simp only[];omega,hXP,?_,ho,hob⟩ (by simp only[];omega) (by(try simp only[go_sem])<;>(try simp(disch:=omega) [A0])<;>(try omega)) (h3.putle.trans hle7)
        unfold TS at st
        rw[t1e]at st
        simp only[TA]
        rw[st];simp
       ·have sg:r.k.sign=0:=by rw[←k2];rfl
        repeat' (first|with_reducible apply C9P|simp only[go_sem,hkd,e7,e6',sg,hre]|simp(disch:=omega) only[A0,A9]|simp(disch:=first|omega|grind) only[A6]|(intro hx_;try simp only[A4]at hx_)|with_reducible refine sgn 0 sg0 _ _ ?_|with_reducible refine K2 r.k _ ?_|omega)
        refine C3 (i+1,X,o1) ⟨by simp only[];omega,by simp only[];omega,hXP,?_,ho,hob⟩ (by simp only[];omega) (by(try simp only[go_sem])<;>(try simp(disch:=omega) [A0])<;>(try omega)) (h3.putle.trans hle7)
        unfold TS at st
        rw[t1e]at st
        simp only[TA]
        rw[st];simp
       ·omega
    ·rw[if_neg g0]at t1d
     have hGe:=hG2 g0
     rw[hGe]at e7
     clear hG2 hG hGe sgn
     have gi:((g:Nat):Int)≠0:=by omega
     have gb:((g:Nat):Int).natAbs<4294967296:=by omega
     have sk:=hr.2.1
     have s1:Sz r.k:=G6 (by omega)
     have s2:Sz ((g:Nat):Int):=G6 (by omega)
     obtain⟨G,hGd⟩: ∃G:Int,G=(g:Nat):=⟨_,rfl⟩
     rw[←hGd]at t1d e7 gi gb s2
     have sg: ¬G.sign=0:=by rw[Int.sign_eq_zero_iff_zero];exact gi
     by_cases g1:g=1
     ·rw[if_pos g1]at t1d
      have o1e:(G.natAbs=1)=True:=by simp[hGd,g1]
      repeat' (first|with_reducible apply C9P|simp only[go_sem,hkd,e7,e6',sg,o1e]|simp(disch:=omega) only[A0,A9]|simp(disch:=first|omega|grind) only[A6]|(intro hx_;try simp only[A4]at hx_)|with_reducible refine K2 G _ ?_|with_reducible refine A91 G _ ?_|omega)
      rename_i bx
      have hbx:=hx_
      clear hx_
      refine O3.ap h3 (e1':=Rw C5 (X++[r])) hle7 hbx (by simp) (by rw[D6]) (by simp only[C9U,C9W];omega) (by simp only[C9U,C9W];omega) (by rw[←O2];rfl) fun b' H' h4=>?_
      repeat' (first|with_reducible apply C9P|simp only[go_sem]|simp(disch:=omega) only[A0,A9]|simp(disch:=first|omega|grind) only[A6]|(intro hx_;try simp only[A4]at hx_)|omega)
      refine C3 (i+1,X++[r],some b') ⟨by simp only[];omega,by simp only[C9V,C9U,C9W];omega,fun s hs=>?_,?_,by simp,fun b e=>h4.n1 b e⟩ (by simp only[];omega) (by(try simp only[go_sem,C9V,K1])<;>(try simp(disch:=omega) [A0])<;>(try omega)) h4.putle
      ·rcases C9p.1 hs with q|q
       ·exact hXP s q
       ·simp at q;rw[q];exact hr
      ·unfold TS at st
       rw[t1d]at st
       exact st
     ·rw[if_neg g1]at t1d
      have o1e:(G.natAbs=1)=False:=by simp;omega
      obtain⟨K,hK⟩: ∃K,K=r.k.fdiv G:=⟨_,rfl⟩
      rw[←hK]at t1d
      have kabs:K.natAbs≤r.k.natAbs:=by rw[hK,hGd];exact A2w _ _ g0
      have s3:Sz K:=G6 (by omega)
      have flr: ∀(H:Heap) (Q:D→Heap→Prop),Q (.agg (C4 K)) H→ACalls Tryz.prog 247 [.agg (C4 r.k),.agg (C4 G)] H Q:=fun H Q hq=>A3R r.k G s1 gi gb H (by rw[←hK];exact hq)
      repeat' (first|with_reducible apply C9P|simp only[go_sem,hkd,e7,e6',sg,o1e]|simp(disch:=omega) only[A0,A9]|simp(disch:=first|omega|grind) only[A6]|(intro hx_;try simp only[A4]at hx_)|with_reducible refine K2 G _ ?_|with_reducible refine A91 G _ ?_|with_reducible refine flr _ _ ?_|omega)
      rename_i b11
      have h11:=hx_
      clear hx_
      have n711:b7≠b11:=fun g=>by rw[g,h11]at e7;cases e7
      have n611:b6≠b11:=fun g=>by rw[g,h11]at e6';cases e6'
      have c7:(B7.set b11 (.box (C4 K))) b7=some (.box (C4 G)):=by rw[A8 _ n711];exact e7
      have c6:(B7.set b11 (.box (C4 K))) b6=some (.box (C5 r)):=by rw[A8 _ n611];exact e6'
      have c11:(B7.set b11 (.box (C4 K))) b11=some (.box (C4 K)):=A5 _ _
      have hle8:Hp.Le (B7.set b11 (.box (C4 K))):=hle7.trans (A2 h11)
      generalize B7.set b11 (.box (C4 K))=B8 at c7 c6 c11 hle8⊢
      clear e7 e6' hle7 h11
      have m6:b6∈[b6,b7,b11]:=by simp
      have m7:b7∈[b6,b7,b11]:=by simp
      have m11:b11∈[b6,b7,b11]:=by simp
      have n6a:b6∈[b6,b11]:=by simp
      have n6b:b11∈[b6,b11]:=by simp
      cases hre:r.eq with
      |true=>
       have a3:=A1J (a:=K) (b:=G) (m:=4611686018427387904) (n:=4294967296) (by omega) (by omega)
       have s4:Sz (K*G):=G6 (by omega)
       obtain⟨Z,hZ⟩: ∃Z,Z=K*G-r.k:=⟨_,rfl⟩
       have mns: ∀(H:Heap) (Q:D→Heap→Prop),Q (.agg (C4 Z)) H→ACalls Tryz.prog 249 [.agg (C4 (K*G)),.agg (C4 r.k)] H Q:=fun H Q hq=>z7 (K*G) r.k s4 s1 H (by rw[←hZ];exact hq)
       refine F4 (fun i'=>if i'=5 then .agg (C4 (K*G))else if i'=8 then .agg (C4 Z)else if i'=9 then .int .i64 Z.sign else .undef) [b6,b7,b11] ?_
       by_cases z0:Z=0
       ·have sz:Z.sign=0:=by rw[z0];rfl
        have t1f:A0t r=some [⟨r.c.map (Int.fdiv · G),K,r.eq⟩]:=by rw[t1d,if_neg (by rw[←hZ,z0];simp)]
        rw[sz]
        repeat' (first|with_reducible apply C9P|simp only[go_sem,c6,c7,c11,m6,m7,m11,hre]|simp(disch:=omega) only[A0,A9]|simp(disch:=first|omega|grind) only[A6]|(intro hx_;try simp only[A4]at hx_)|with_reducible refine Q9 (fun H' Q hro hq=>R8 K G s3 s2 H' hq) ?_|with_reducible refine Q9 (fun H' Q hro hq=>mns H' Q hq) ?_|with_reducible refine Q9 (fun H' Q hro hq=>K2 Z H' (by rw[sz];exact hq)) ?_|omega)
        obtain⟨C,hC⟩: ∃C,C=r.c.map (Int.fdiv · G):=⟨_,rfl⟩
        have hCl:C.length=r.c.length:=by rw[hC];simp
        refine F4 (fun i'=>.undef) [b6,b11] ?_
        repeat' (first|with_reducible apply C9P|simp only[go_sem,c6,c7,c11,n6a,n6b]|simp(disch:=omega) only[A0,A9]|simp(disch:=first|omega|grind) only[A6]|(intro hx_;try simp only[A4]at hx_)|omega)
        rename_i bv hv b12
        have h12:=hx_
        clear hx_
        have nb:b12≠bv:=h12.1
        have k6:b6≠bv∧b6≠b12:=⟨(fun g=>by rw[g,hv]at c6;cases c6),(fun g=>by rw[g,h12.2]at c6;cases c6)⟩
        have k7:b7≠bv∧b7≠b12:=⟨(fun g=>by rw[g,hv]at c7;cases c7),(fun g=>by rw[g,h12.2]at c7;cases c7)⟩
        rw[show List.replicate r.c.length [D.bool false,.nilsl]=Z4 C r.c.length 0 from(A2J _ _).symm]
        obtain⟨RR,hRR⟩: ∃RR:Row,RR=⟨C,K,r.eq⟩:=⟨_,rfl⟩
        refine D1 [4,6,7,12,15,16,17,76,77] (fun(j:Nat)=>[(78,.int .i64 j)]) (fun(j:Nat)=>(B8.set bv (.vec 2 (Z4 C r.c.length j))).set b12 (.box [.vec bv 2 0 r.c.length,.bool (decide (K<0)),.sl 1 (Rw E9 (C0 K.natAbs)),.bool r.eq])) (fun(j:Nat)=>j≤r.c.length) (fun(j:Nat)=>r.c.length-j) (0) (C9k _) (by(try simp only[go_sem])<;>(try simp(disch:=omega) [A0])<;>(try omega)) (by first|exact D0q _|exact A2 (by assumption)|exact B4 (by assumption)|simp only[Heap.Le,Heap.set,Heap.del]at* <;>grind) ?_
        rintro Ec rfl j hj
        have hpl:=A3S C r.c.length j hCl hj
        by_cases hjt:j<r.c.length
        ·have hkd2:decide ((j:Int)<r.c.length)=true:=C9R (by omega)
         have hjr:(j:Int)<r.c.length:=by omega
         have c1:=hrs _ (C9d hjt)
         have sj:Sz r.c[j]:=G6 (by omega)
         have hjC:j<C.length:=by omega
         have hci:C[j]=r.c[j].fdiv G:=by simp only[hC,D0F]
         have hset:=A1r C r.c.length j hCl hjt (C4 (r.c[j].fdiv G)) (by rw[hci])
         have hpg:=A0p C r.c.length j j hCl (C9j _) hjt
         have hpg2:=A0o C r.c.length j j hCl (C9j _) hjt
         repeat' (first|with_reducible apply C9P|simp only[go_sem,hkd2,hjr,A9 _ _ hjt,C2 _ _ hjt]|simp(disch:=omega) only[A0,A9]|simp(disch:=first|omega|grind) only[A6]|(intro hx_;try simp only[A4]at hx_)|omega)
         rename_i b14
         have h14:=hx_
         clear hx_
         have p12:b12∈[b7,b12,b14]:=by simp
         have p14:b14∈[b7,b12,b14]:=by simp
         have p7:b7∈[b7,b12,b14]:=by simp
         have j1:=h14.1
         have j2:=h14.2.1
         have j3:b7≠b14:=fun g=>by have:=h14.2.2;rw[←g,c7]at this;cases this
         have v7:((B8.set bv (.vec 2 (Z4 C r.c.length j))).set b12 (.box [.vec bv 2 0 r.c.length,.bool (decide (K<0)),.sl 1 (Rw E9 (C0 K.natAbs)),.bool r.eq])) b7=some (.box (C4 G)):=by rw[A8 _ k7.2,A8 _ k7.1];exact c7
         obtain⟨y,hy⟩: ∃y,y=r.c[j].fdiv G:=⟨_,rfl⟩
         have fl2: ∀(H:Heap) (Q:D→Heap→Prop),Q (.agg (C4 y)) H→ACalls Tryz.prog 247 [.agg (C4 r.c[j]),.agg (C4 G)] H Q:=fun H Q hq=>A3R r.c[j] G sj gi gb H (by rw[←hy];exact hq)
         rw[←hy]at hset
         refine F4 (fun i'=>if i'=5 then .agg (C4 y)else .undef) [b7,b12,b14] ?_
         repeat' (first|with_reducible apply C9P|simp only[go_sem,p7,p12,p14,A8 _ j3,A8 _ k7.2,A8 _ k7.1,c7,hjr,hpl,hpg,hpg2,hset]|simp(disch:=omega) only[A0,A9]|simp(disch:=first|omega|grind) only[A6]|(intro hx_;try simp only[A4]at hx_)|with_reducible refine Q9 (fun H' Q hro hq=>fl2 H' Q hq) ?_|omega)
         refine C3 (j+1) (by omega) (by omega) (by(try simp only[go_sem])<;>(try simp(disch:=omega) [A0])<;>(try omega)) ?_
         rw[←hset]
         intro k o hk
         have e14:k≠b14:=fun g=>by rw[g,A8 _ j1,A8 _ j2,h14.2.2]at hk;cases hk
         by_cases e:k=bv
         ·subst e;rw[A8 _ nb.symm,A5]at hk;rw[A5];exact hk
         ·rw[A8 _ e,A8 _ e14]
          by_cases e12:k=b12
          ·subst e12;rw[A5]at hk⊢;exact hk
          ·rw[A8 _ e12,A8 _ e]at hk⊢;exact hk
        ·have hkd2:decide ((j:Int)<r.c.length)=false:=C9S (by omega)
         have hje:j=r.c.length:=by omega
         subst hje
         rw[A3T C _ hCl]
         repeat' (first|with_reducible apply C9P|simp only[go_sem,hkd2,A8 _ k6.1,A8 _ k6.2,c6]|simp(disch:=omega) only[A0,A9]|simp(disch:=first|omega|grind) only[A6]|(intro hx_;try simp only[A4]at hx_)|omega)
         rename_i bx
         have hbx:=hx_
         clear hx_
         have hHB:H.Le B8:=h3.le.trans hle8
         have hHb:H bv=none:=hHB.none hv
         have q1:(H.set bv (.vec 2 (Rw C4 C))).Le (((B8.set bv (.vec 2 (Rw C4 C))).set b12 (.box [.vec bv 2 0 r.c.length,.bool (decide (K<0)),.sl 1 (Rw E9 (C0 K.natAbs)),.bool r.eq])).set b6 (.box [.vec bv 2 0 r.c.length,.bool (decide (K<0)),.sl 1 (Rw E9 (C0 K.natAbs)),.bool r.eq])):=by
          intro k o hk
          by_cases e:k=bv
          ·subst e;rw[A8 _ k6.1.symm,A8 _ nb.symm,A5];rw[A5]at hk;exact hk
          ·rw[A8 _ e]at hk
           have e6:k≠b6:=fun g=>by have:=h3.le _ _ hk;rw[g,h6]at this;cases this
           have e12:k≠b12:=fun g=>by have:=hHB _ _ hk;rw[g,h12.2]at this;cases this
           rw[A8 _ e6,A8 _ e12,A8 _ e];exact hHB _ _ hk
         have q2:Hp.Le (((B8.set bv (.vec 2 (Rw C4 C))).set b12 (.box [.vec bv 2 0 r.c.length,.bool (decide (K<0)),.sl 1 (Rw E9 (C0 K.natAbs)),.bool r.eq])).set b6 (.box [.vec bv 2 0 r.c.length,.bool (decide (K<0)),.sl 1 (Rw E9 (C0 K.natAbs)),.bool r.eq])):=by
          intro k o hk
          have e:k≠bv:=fun g=>by have:=hle8 _ _ hk;rw[g,hv]at this;cases this
          have e6:k≠b6:=fun g=>by rw[g,h6]at hk;cases hk
          have e12:k≠b12:=fun g=>by have:=hle8 _ _ hk;rw[g,h12.2]at this;cases this
          rw[A8 _ e6,A8 _ e12,A8 _ e];exact hle8 _ _ hk
         have h3b:=h3.base q1 q2 (fun b hb1 hb2=>by rw[A8 _ (fun g=>hb1 (by rw[g];exact hle8.none hv))];exact hb2)
         refine O3.ap h3b (e1':=Rw C5 X++[[.vec bv 2 0 r.c.length,.bool (decide (K<0)),.sl 1 (Rw E9 (C0 K.natAbs)),.bool r.eq]]) (D0q _) (by simp only[A4];simp only[hbx,ne_eq,not_false_eq_true,and_self]) (by simp) (by rw[D6]) (by simp only[C9U,C9W];omega) (by simp only[C9U,C9W];omega) rfl fun b' H' h4=>?_
         clear h3b q1 q2 hbx
         repeat' (first|with_reducible apply C9P|simp only[go_sem]|simp(disch:=omega) only[A0,A9]|simp(disch:=first|omega|grind) only[A6]|(intro hx_;try simp only[A4]at hx_)|omega)
         have hn4:=h4.n1 _ rfl
         have nbv:bv≠b':=fun g=>by rw[←g,A5]at hn4;cases hn4
         have eX:Rw C5 (X++[RR])=Rw C5 X++[.sl 2 (Rw C4 C)::[.bool (decide (K<0)),.sl 1 (Rw E9 (C0 K.natAbs)),.bool r.eq]]:=by rw[←O2,hRR];rfl
         have hRP:=B2s hr t1f
         rw[←hC,←hRR]at hRP t1f
         refine B5J (i+1,X++[RR],some b') ⟨by simp only[];omega,by simp only[C9V,C9U,C9W];omega,fun s hs=>?_,?_,by simp,fun b e=>?_⟩ (by simp only[];omega) ?_
         ·rcases C9p.1 hs with q|q
          ·exact hXP s q
          ·exact hRP.1 s q
         ·unfold TS at st
          rw[t1f]at st
          exact st
         ·have:=h4.n1 _ e
          rw[A8 _ (by cases e;exact nbv.symm)]at this
          exact this
         ·show A1C _ (H.set b' (.vec 4 (Rw C5 (X++[RR])))) _ _
          rw[eX]
          refine A0n (by(try simp only[go_sem,C9V,K1])<;>(try simp(disch:=omega) [A0])<;>(try omega)) (by rw[D6,hCl]) h4.a1 (h4.le _ _ (A5 _ _)) nbv (fun k o hk ho=>?_)
          have hkb:k≠bv:=fun g=>by rw[g,hHb]at ho;cases ho
          exact⟨hkb,h4.le k o (by rw[A8 _ hkb];exact ho)⟩
       ·have sz: ¬Z.sign=0:=by rw[Int.sign_eq_zero_iff_zero];exact z0
        have t1f:A0t r=none:=by rw[t1d,if_pos ⟨hre,by rw[←hZ];exact z0⟩]
        repeat' (first|with_reducible apply C9P|simp only[go_sem,c6,c7,c11,m6,m7,m11,hre,sz]|simp(disch:=omega) only[A0,A9]|simp(disch:=first|omega|grind) only[A6]|(intro hx_;try simp only[A4]at hx_)|with_reducible refine Q9 (fun H' Q hro hq=>R8 K G s3 s2 H' hq) ?_|with_reducible refine Q9 (fun H' Q hro hq=>mns H' Q hq) ?_|with_reducible refine Q9 (fun H' Q hro hq=>K2 Z H' hq) ?_|omega)
        exact Fin.nilsl 4 _ (D0r (h3.le.trans hle8) (none_ t1f))
      |false=>
       have t1f:A0t r=some [⟨r.c.map (Int.fdiv · G),K,r.eq⟩]:=by rw[t1d,if_neg (by rw[hre];simp)]
       refine F4 (fun i'=>.undef) [b6,b7,b11] ?_
       repeat' (first|with_reducible apply C9P|simp only[go_sem,c6,c7,c11,m6,m7,m11,hre]|simp(disch:=omega) only[A0,A9]|simp(disch:=first|omega|grind) only[A6]|(intro hx_;try simp only[A4]at hx_)|omega)
       obtain⟨C,hC⟩: ∃C,C=r.c.map (Int.fdiv · G):=⟨_,rfl⟩
       have hCl:C.length=r.c.length:=by rw[hC];simp
       refine F4 (fun i'=>.undef) [b6,b11] ?_
       repeat' (first|with_reducible apply C9P|simp only[go_sem,c6,c7,c11,n6a,n6b]|simp(disch:=omega) only[A0,A9]|simp(disch:=first|omega|grind) only[A6]|(intro hx_;try simp only[A4]at hx_)|omega)
       rename_i bv hv b12
       have h12:=hx_
       clear hx_
       have nb:b12≠bv:=h12.1
       have k6:b6≠bv∧b6≠b12:=⟨(fun g=>by rw[g,hv]at c6;cases c6),(fun g=>by rw[g,h12.2]at c6;cases c6)⟩
       have k7:b7≠bv∧b7≠b12:=⟨(fun g=>by rw[g,hv]at c7;cases c7),(fun g=>by rw[g,h12.2]at c7;cases c7)⟩
       rw[show List.replicate r.c.length [D.bool false,.nilsl]=Z4 C r.c.length 0 from(A2J _ _).symm]
       obtain⟨RR,hRR⟩: ∃RR:Row,RR=⟨C,K,r.eq⟩:=⟨_,rfl⟩
       refine D1 [4,6,7,12,15,16,17,76,77] (fun(j:Nat)=>[(78,.int .i64 j)]) (fun(j:Nat)=>(B8.set bv (.vec 2 (Z4 C r.c.length j))).set b12 (.box [.vec bv 2 0 r.c.length,.bool (decide (K<0)),.sl 1 (Rw E9 (C0 K.natAbs)),.bool r.eq])) (fun(j:Nat)=>j≤r.c.length) (fun(j:Nat)=>r.c.length-j) (0) (C9k _) (by(try simp only[go_sem])<;>(try simp(disch:=omega) [A0])<;>(try omega)) (by first|exact D0q _|exact A2 (by assumption)|exact B4 (by assumption)|simp only[Heap.Le,Heap.set,Heap.del]at* <;>grind) ?_
       rintro Ec rfl j hj
       have hpl:=A3S C r.c.length j hCl hj
       by_cases hjt:j<r.c.length
       ·have hkd2:decide ((j:Int)<r.c.length)=true:=C9R (by omega)
        have hjr:(j:Int)<r.c.length:=by omega
        have c1:=hrs _ (C9d hjt)
        have sj:Sz r.c[j]:=G6 (by omega)
        have hjC:j<C.length:=by omega
        have hci:C[j]=r.c[j].fdiv G:=by simp only[hC,D0F]
        have hset:=A1r C r.c.length j hCl hjt (C4 (r.c[j].fdiv G)) (by rw[hci])
        have hpg:=A0p C r.c.length j j hCl (C9j _) hjt
        have hpg2:=A0o C r.c.length j j hCl (C9j _) hjt
        repeat' (first|with_reducible apply C9P|simp only[go_sem,hkd2,hjr,A9 _ _ hjt,C2 _ _ hjt]|simp(disch:=omega) only[A0,A9]|simp(disch:=first|omega|grind) only[A6]|(intro hx_;try simp only[A4]at hx_)|omega)
        rename_i b14
        have h14:=hx_
        clear hx_
        have p12:b12∈[b7,b12,b14]:=by simp
        have p14:b14∈[b7,b12,b14]:=by simp
        have p7:b7∈[b7,b12,b14]:=by simp
        have j1:=h14.1
        have j2:=h14.2.1
        have j3:b7≠b14:=fun g=>by have:=h14.2.2;rw[←g,c7]at this;cases this
        have v7:((B8.set bv (.vec 2 (Z4 C r.c.length j))).set b12 (.box [.vec bv 2 0 r.c.length,.bool (decide (K<0)),.sl 1 (Rw E9 (C0 K.natAbs)),.bool r.eq])) b7=some (.box (C4 G)):=by rw[A8 _ k7.2,A8 _ k7.1];exact c7
        obtain⟨y,hy⟩: ∃y,y=r.c[j].fdiv G:=⟨_,rfl⟩
        have fl2: ∀(H:Heap) (Q:D→Heap→Prop),Q (.agg (C4 y)) H→ACalls Tryz.prog 247 [.agg (C4 r.c[j]),.agg (C4 G)] H Q:=fun H Q hq=>A3R r.c[j] G sj gi gb H (by rw[←hy];exact hq)
        rw[←hy]at hset
        refine F4 (fun i'=>if i'=5 then .agg (C4 y)else .undef) [b7,b12,b14] ?_
        repeat' (first|with_reducible apply C9P|simp only[go_sem,p7,p12,p14,A8 _ j3,A8 _ k7.2,A8 _ k7.1,c7,hjr,hpl,hpg,hpg2,hset]|simp(disch:=omega) only[A0,A9]|simp(disch:=first|omega|grind) only[A6]|(intro hx_;try simp only[A4]at hx_)|with_reducible refine Q9 (fun H' Q hro hq=>fl2 H' Q hq) ?_|omega)
        refine C3 (j+1) (by omega) (by omega) (by(try simp only[go_sem])<;>(try simp(disch:=omega) [A0])<;>(try omega)) ?_
        rw[←hset]
        intro k o hk
        have e14:k≠b14:=fun g=>by rw[g,A8 _ j1,A8 _ j2,h14.2.2]at hk;cases hk
        by_cases e:k=bv
        ·subst e;rw[A8 _ nb.symm,A5]at hk;rw[A5];exact hk
        ·rw[A8 _ e,A8 _ e14]
         by_cases e12:k=b12
         ·subst e12;rw[A5]at hk⊢;exact hk
         ·rw[A8 _ e12,A8 _ e]at hk⊢;exact hk
       ·have hkd2:decide ((j:Int)<r.c.length)=false:=C9S (by omega)
        have hje:j=r.c.length:=by omega
        subst hje
        rw[A3T C _ hCl]
        repeat' (first|with_reducible apply C9P|simp only[go_sem,hkd2,A8 _ k6.1,A8 _ k6.2,c6]|simp(disch:=omega) only[A0,A9]|simp(disch:=first|omega|grind) only[A6]|(intro hx_;try simp only[A4]at hx_)|omega)
        rename_i bx
        have hbx:=hx_
        clear hx_
        have hHB:H.Le B8:=h3.le.trans hle8
        have hHb:H bv=none:=hHB.none hv
        have q1:(H.set bv (.vec 2 (Rw C4 C))).Le (((B8.set bv (.vec 2 (Rw C4 C))).set b12 (.box [.vec bv 2 0 r.c.length,.bool (decide (K<0)),.sl 1 (Rw E9 (C0 K.natAbs)),.bool r.eq])).set b6 (.box [.vec bv 2 0 r.c.length,.bool (decide (K<0)),.sl 1 (Rw E9 (C0 K.natAbs)),.bool r.eq])):=by
         intro k o hk
         by_cases e:k=bv
         ·subst e;rw[A8 _ k6.1.symm,A8 _ nb.symm,A5];rw[A5]at hk;exact hk
         ·rw[A8 _ e]at hk
          have e6:k≠b6:=fun g=>by have:=h3.le _ _ hk;rw[g,h6]at this;cases this
          have e12:k≠b12:=fun g=>by have:=hHB _ _ hk;rw[g,h12.2]at this;cases this
          rw[A8 _ e6,A8 _ e12,A8 _ e];exact hHB _ _ hk
        have q2:Hp.Le (((B8.set bv (.vec 2 (Rw C4 C))).set b12 (.box [.vec bv 2 0 r.c.length,.bool (decide (K<0)),.sl 1 (Rw E9 (C0 K.natAbs)),.bool r.eq])).set b6 (.box [.vec bv 2 0 r.c.length,.bool (decide (K<0)),.sl 1 (Rw E9 (C0 K.natAbs)),.bool r.eq])):=by
         intro k o hk
         have e:k≠bv:=fun g=>by have:=hle8 _ _ hk;rw[g,hv]at this;cases this
         have e6:k≠b6:=fun g=>by rw[g,h6]at hk;cases hk
         have e12:k≠b12:=fun g=>by have:=hle8 _ _ hk;rw[g,h12.2]at this;cases this
         rw[A8 _ e6,A8 _ e12,A8 _ e];exact hle8 _ _ hk
        have h3b:=h3.base q1 q2 (fun b hb1 hb2=>by rw[A8 _ (fun g=>hb1 (by rw[g];exact hle8.none hv))];exact hb2)
        refine O3.ap h3b (e1':=Rw C5 X++[[.vec bv 2 0 r.c.length,.bool (decide (K<0)),.sl 1 (Rw E9 (C0 K.natAbs)),.bool r.eq]]) (D0q _) (by simp only[A4];simp only[hbx,ne_eq,not_false_eq_true,and_self]) (by simp) (by rw[D6]) (by simp only[C9U,C9W];omega) (by simp only[C9U,C9W];omega) rfl fun b' H' h4=>?_
        clear h3b q1 q2 hbx
        repeat' (first|with_reducible apply C9P|simp only[go_sem]|simp(disch:=omega) only[A0,A9]|simp(disch:=first|omega|grind) only[A6]|(intro hx_;try simp only[A4]at hx_)|omega)
        have hn4:=h4.n1 _ rfl
        have nbv:bv≠b':=fun g=>by rw[←g,A5]at hn4;cases hn4
        have eX:Rw C5 (X++[RR])=Rw C5 X++[.sl 2 (Rw C4 C)::[.bool (decide (K<0)),.sl 1 (Rw E9 (C0 K.natAbs)),.bool r.eq]]:=by rw[←O2,hRR];rfl
        have hRP:=B2s hr t1f
        rw[←hC,←hRR]at hRP t1f
        refine B5J (i+1,X++[RR],some b') ⟨by simp only[];omega,by simp only[C9V,C9U,C9W];omega,fun s hs=>?_,?_,by simp,fun b e=>?_⟩ (by simp only[];omega) ?_
        ·rcases C9p.1 hs with q|q
         ·exact hXP s q
         ·exact hRP.1 s q
        ·unfold TS at st
         rw[t1f]at st
         exact st
        ·have:=h4.n1 _ e
         rw[A8 _ (by cases e;exact nbv.symm)]at this
         exact this
        ·show A1C _ (H.set b' (.vec 4 (Rw C5 (X++[RR])))) _ _
         rw[eX]
         refine A0n (by(try simp only[go_sem,C9V,K1])<;>(try simp(disch:=omega) [A0])<;>(try omega)) (by rw[D6,hCl]) h4.a1 (h4.le _ _ (A5 _ _)) nbv (fun k o hk ho=>?_)
         have hkb:k≠bv:=fun g=>by rw[g,hHb]at ho;cases ho
         exact⟨hkb,h4.le k o (by rw[A8 _ hkb];exact ho)⟩
 ·have hkd:decide ((i:Int)<l.length)=false:=C9S (by omega)
  unfold TA at hT
  rw[List.drop_eq_nil_of_le (by omega)]at hT
  have hT:W7 l=some X:=by rw[hT];simp[W7]
  rw[hT]at h
  repeat' (first|with_reducible apply C9P|simp only[go_sem,hkd]|simp(disch:=omega) only[A0,A9]|simp(disch:=first|omega|grind) only[A6]|(intro hx_;try simp only[A4]at hx_)|omega)
  refine ACalls.out (by rw[D6]) h3.a1 ?_
  refine B87 X n (by omega) hn (fun r hr=>⟨(hXP r hr).1,by have:=(hXP r hr).2.1;omega,fun x hx=>by have:=(hXP r hr).2.2 x hx;omega⟩) _ ?_
  generalize hR:y9 [] (pairs1 X)=R
  rw[show ((some X).bind fun l=>y9 [] (pairs1 l))=R from hR]at h
  cases R with
  |none=>
   simp only[go_sem,B0M]
   exact D0r (O3.one h3) h
  |some Y=>
   simp only[go_sem,B0M]
   exact D0r (O3.one h3) h
end Go.Proofs.YtibphjonmikciaaGreatDoor
namespace Go.Av
theorem A4y{P:Program}{f v sz n:Nat}{es:List (List D)}{a:D}{ds rs:List D}{H:Heap}{Q:D→Heap→Prop}(hb:H v=some (.vec sz es))(hn:n=es.length)(h:ACalls P f (a:: .agg (.sl sz es::ds)::rs) (H.del v) Q):ACalls P f (a:: .agg (.vec v sz 0 n::ds)::rs) H Q:=by
 subst hn
 refine ACalls.shift (args':=a:: .agg (.sl sz es::ds)::rs) (fun w vs h1 h2 hs=>?_) h
 have hle:=D8 H v
 refine⟨by simpa using h1,fun i d hd=>?_,hs.less hle,fun k hn=>hle.held hn⟩
 match i with
 |0=>cases hd;exact(h2 0 _ rfl).less hle
 |1=>
  cases hd
  have hr1:=h2 1 _ rfl
  revert hr1
  generalize vs.getD 1 undef=v1
  intro hr1
  cases hr1 with
  |agg _ us hlv ho hr=>
   refine .agg _ us (by simpa using hlv) (fun i d' hd'=>?_) (fun i d' hd'=>?_)
   ·cases i with
    |zero=>cases hd';rfl
    |succ i=>exact ho (i+1) d' hd'
   ·cases i with
    |zero=>
     cases hd'
     have hf:Fz v sz es (.vec v sz 0 es.length) (.sl sz es):=.all
     exact hf.R hs hb (hr 0 _ rfl)
    |succ i=>exact(hr (i+1) d' hd').less hle
 |i+2=>exact(h2 (i+2) d (by simpa using hd)).less hle
end Go.Av
namespace Go.Lin
open Go Go.Av
theorem B0N(a b:Int)(hb:0<b):(A0m a b).natAbs≤b.natAbs:=by
 unfold A0m
 have h0:(0:Int)<b*2:=by omega
 rw[Int.fdiv_eq_ediv_of_nonneg _ (by omega)]
 have h1:=Int.ediv_mul_le (a*2+b) (show b*2≠0 by omega)
 have h2:=Int.lt_ediv_add_one_mul_self (a*2+b) h0
 generalize (a*2+b) / (b*2)=q at h1 h2
 have e1:q*(b*2)=2*(b*q):=by rw[Int.mul_comm q,Int.mul_assoc,Int.mul_comm 2 q,←Int.mul_assoc,Int.mul_comm _ 2]
 have e2:(q+1)*(b*2)=2*(b*q)+b*2:=by rw[Int.add_mul,e1];omega
 rw[e1]at h1
 rw[e2]at h2
 generalize b*q=z at h1 h2
 omega
end Go.Lin
namespace Go.Proofs.YtibphjonmikciaaGreatDoor
open Go Go.Av Go.Lin
attribute [local irreducible] ACalls W4
set_option maxHeartbeats 4000000 in
theorem B1c{Q}(l:List Row)(at_ n k:Nat)(hlen:l.length≤10000)(hn0:0<n)(hn:n≤1000)(hat:at_<l.length)(hw: ∀r∈l,r.c.length=n)(hr: ∀r∈l,A4p r 4611686018427387904)(hrc: ∀r∈l,∀x∈r.c,x.natAbs<1073741824)
  (hk:A34 (l.getD at_ default)=some k) (H:Heap) (h:Q (.sl 4 (Rw C5 (n8 l at_))) H):ACalls Tryz.prog 223 [.sl 4 (Rw C5 l),.int .i64 (at_:Int)] H Q:=by
 refine B2 [(14,.par),(18,.par),(20,.par)] B3 Tryz.func223 rfl (by kernel_rfl) (C9Q (by kernel_rfl)) (by kernel_rfl) ?_
 simp only[go_sem,Tryz.results223]
 have hati:(at_:Int)<l.length:=by omega
 have ge:l.getD at_ default=l[at_]:=by simp[hat]
 have hel:=C9d hat
 obtain⟨e,he⟩: ∃e,e=l[at_]:=⟨_,rfl⟩
 have eqd:n8 l at_=if(U8 e.c k).natAbs=1 then(l.take at_++l.drop (at_+1)).map (R7 e k)else((l.take at_++l.drop (at_+1)++[e]).map A2W).map (R7 ⟨e.c.map (A0m · ((U8 e.c k).natAbs+1))++[-(((U8 e.c k).natAbs:Int)+1)],A0m e.k ((U8 e.c k).natAbs+1),true⟩ k):=by
  unfold n8
  simp only[]
  rw[ge,←he]
  rw[ge,←he]at hk
  rw[hk];rfl
 rw[ge,←he]at hk
 rw[←he]at hel
 have hew:=hw e hel
 have her:=hr e hel
 have hec:=hrc e hel
 have hkl:k<e.c.length:=by
  rw[A5y]at hk;exact A2N _ _ _ hk
 have hki:(k:Int)<e.c.length:=by omega
 rw[D4 _ _ hkl]at eqd
 have hoi:L0 (A34 e)=k:=by rw[hk];rfl
 have hRl:(l.take at_++l.drop (at_+1)).length≤10000:=by rw[C9V,C97,C9x];omega
 have hRm: ∀r∈l.take at_++l.drop (at_+1),r∈l:=fun r hr=>(C9p.1 hr).elim List.mem_of_mem_take List.mem_of_mem_drop
 repeat' (first|with_reducible apply C9P|simp only[go_sem,hati,A9 _ _ hat,C2 _ _ hat,←he]|simp(disch:=omega) only[A0,A9,D4]|simp(disch:=first|omega|grind) only[A6,C8]|(intro hx_;try simp only[A4]at hx_)|omega)
 rename_i b5 h5 bx
 have hbx:=hx_
 clear hx_
 have c5:(H.set b5 (.box (C5 e))) b5=some (.box (C5 e)):=A5 _ _
 have hle5:H.Le (H.set b5 (.box (C5 e))):=A2 h5
 have hbx2:(H.set b5 (.box (C5 e))) bx=none:=by simp only[A4];exact hbx
 change ACalls _ _ _ ((H.set b5 (.box (C5 e))).set bx _) _
 generalize H.set b5 (.box (C5 e))=B5 at c5 hle5 hbx2⊢
 clear h5 hbx
 rw[C9e (show (Rw C5 l).length≤l.length by rw[D6];exact C9j _),A74,B8Z]
 refine T1 (A5 _ _) rfl ?_
 rw[E7 hbx2]
 refine A7F _ _ (by rw[C9V]at hRl;omega) _ ?_
 obtain⟨R,hR⟩: ∃R,R=l.take at_++l.drop (at_+1):=⟨_,rfl⟩
 rw[←hR]at eqd hRl hRm⊢
 have hup: ∀r∈l,A4p r 18446744073709551616:=fun r hx=>⟨by have:=(hr r hx).1;omega,fun x hy=>by have:=(hr r hx).2 x hy;omega⟩
 have la: ∀(H:Heap) (Q:D→Heap→Prop),Q (.int .i64 (k:Int)) H→ACalls Tryz.prog 252 [.agg (C5 e)] H Q:=fun H Q hq=>B82 e (by omega) (hup e hel) H (by rw[hoi];exact hq)
 obtain⟨c,hc⟩: ∃c,c=e.c[k]:=⟨_,rfl⟩
 rw[←hc]at eqd
 have hcb:c.natAbs<1073741824:=by rw[hc];exact hec _ (C9d hkl)
 by_cases h1:c.natAbs=1
 ·rw[if_pos h1]at eqd
  rw[eqd]at h
  have o1: ∀(H:Heap) (Q:D→Heap→Prop),Q (.bool true) H→ACalls Tryz.prog 246 [.agg (C4 c)] H Q:=fun H Q hq=>A91 c H (by rw[C9R h1];exact hq)
  repeat' (first|with_reducible apply C9P|simp only[go_sem,c5,hki,A9 _ _ hkl,C2 _ _ hkl,←hc]|simp(disch:=omega) only[A0,A9,D4]|simp(disch:=first|omega|grind) only[A6,C8]|(intro hx_;try simp only[A4]at hx_)|with_reducible refine la _ _ ?_|with_reducible refine o1 _ _ ?_|omega)
  refine A7I R e k n (by omega) (by omega) (fun r hx=>hw r (hRm r hx)) hew (by omega) (fun r hx=>hup r (hRm r hx)) (hup e hel) (fun r hx x hy=>by have:=hrc r (hRm r hx) x hy;omega) (fun x hy=>by have:=hec x hy;omega) _ ?_
  repeat' (first|with_reducible apply C9P|simp only[go_sem]|simp(disch:=omega) only[A0,A9,D4]|simp(disch:=first|omega|grind) only[A6,C8]|(intro hx_;try simp only[A4]at hx_)|omega)
  exact D0r hle5 h
 ·rw[if_neg h1]at eqd
  have o1: ∀(H:Heap) (Q:D→Heap→Prop),Q (.bool false) H→ACalls Tryz.prog 246 [.agg (C4 c)] H Q:=fun H Q hq=>A91 c H (by rw[C9S h1];exact hq)
  obtain⟨t,ht⟩: ∃t:Int,t=1:=⟨1,rfl⟩
  obtain⟨m,hm⟩: ∃m:Int,m=(c.natAbs:Nat)+1:=⟨_,rfl⟩
  have hmt:((c.natAbs:Nat):Int)+t=m:=by rw[ht,hm]
  rw[←hm]at eqd
  have s1:Sz ((c.natAbs:Nat):Int):=G6 (by omega)
  have s2:Sz t:=G6 (by omega)
  have w1: ∀(H:Heap) (Q:D→Heap→Prop),Q (.agg (C4 t)) H→ACalls Tryz.prog 228 [.int .i64 1] H Q:=fun H Q hq=>l6 1 (by omega) (by omega) H (by rw[←ht];exact hq)
  have p1: ∀(H:Heap) (Q:D→Heap→Prop),Q (.agg (C4 m)) H→ACalls Tryz.prog 255 [.agg (C4 ((c.natAbs:Nat):Int)),.agg (C4 t)] H Q:=fun H Q hq=>A0M _ t s1 s2 H (by rw[hmt];exact hq)
  repeat' (first|with_reducible apply C9P|simp only[go_sem,c5,hki,A9 _ _ hkl,C2 _ _ hkl,←hc]|simp(disch:=omega) only[A0,A9,D4]|simp(disch:=first|omega|grind) only[A6,C8]|(intro hx_;try simp only[A4]at hx_)|with_reducible refine la _ _ ?_|with_reducible refine o1 _ _ ?_|with_reducible refine B5s c _ ?_|with_reducible refine w1 _ _ ?_|with_reducible refine p1 _ _ ?_|omega)
  rename_i b8 h8 b2 h2 bx
  have hbx:=hx_
  clear hx_
  have e5:=(A2 (o:=.box (C4 m)) h8) _ _ c5
  have e8:(B5.set b8 (.box (C4 m))) b8=some (.box (C4 m)):=A5 _ _
  have hle8:H.Le (B5.set b8 (.box (C4 m))):=hle5.trans (A2 h8)
  have g2:(B5.set b8 (.box (C4 m))) b2=none:=by simp only[A4];exact h2
  have gx:(B5.set b8 (.box (C4 m))) bx=none∧bx≠b2:=by simp only[A4];exact⟨⟨hbx.2.1,hbx.2.2⟩,hbx.1⟩
  change ACalls _ _ _ (((B5.set b8 (.box (C4 m))).set b2 (.vec 4 [C5 e])).set bx (.vec 1 [[.sl 4 (Rw C5 R)],[.vec b2 4 0 1]])) _
  generalize B5.set b8 (.box (C4 m))=B8 at e5 e8 hle8 g2 gx⊢
  clear h8 h2 hbx c5 hle5 hbx2
  refine A6Q (b:=b2) (sz:=4) (es:=[C5 e]) (H':=B8.set bx (.vec 1 [[.sl 4 (Rw C5 R)],[.sl 4 [C5 e]]])) (by rw[A8 _ gx.2.symm,A5]) (fun q o' hq=>?_) ?_
  ·by_cases g:q=bx
   ·subst g
    rw[A5]at hq
    cases hq
    refine⟨gx.2,_,A5 _ _,.vec _ _ _ rfl fun i y y' hy hy'=>?_⟩
    match i with
    |0=>
     cases hy;cases hy'
     exact⟨rfl,fun j d d' h3 h4=>by rw[h3]at h4;cases h4;exact .same _⟩
    |1=>
     cases hy;cases hy'
     refine⟨rfl,fun j d d' h3 h4=>?_⟩
     cases j with
     |zero=>cases h3;cases h4;exact .all
     |succ j=>cases h3
    |i+2=>cases hy
   ·rw[A8 _ g]at hq
    have g3:q≠b2:=fun g4=>by rw[g4,g2]at hq;cases hq
    exact⟨g3,o',by rw[A8 _ g,A8 _ g3];exact hq,.same _⟩
  refine T1 (A5 _ _) rfl ?_
  rw[E7 gx.1,show ([C5 e]:List (List D))=Rw C5 [e]from rfl]
  refine A7F R [e] (by simp only[C9U,C9W];omega) _ ?_
  obtain⟨L,hL⟩: ∃L,L=R++[e]:=⟨_,rfl⟩
  rw[←hL]at eqd⊢
  have hLl:L.length≤10001:=by rw[hL,C9V,C9U,C9W];omega
  have hLm: ∀r∈L,r∈l:=fun r hr=>by
   rw[hL]at hr
   rcases C9p.1 hr with g|g
   ·exact hRm r g
   ·simp at g;rw[g];exact hel
  clear hL gx g2
  repeat' (first|with_reducible apply C9P|simp only[go_sem]|simp(disch:=omega) only[A0,A9,D4]|simp(disch:=first|omega|grind) only[A6,C8]|(intro hx_;try simp only[A4]at hx_)|omega)
  refine D1 [5,7,8,9,53,54] (fun(p:Nat×Option Nat×Heap)=>[(55,.int .i64 p.1),(10,J4 4 p.1 p.2.1)]) (fun(p:Nat×Option Nat×Heap)=>p.2.2) (fun(p:Nat×Option Nat×Heap)=>p.1≤L.length∧O3 B8 p.2.2 4 (Rw C5 ((L.take p.1).map A2W)) [] [] p.2.1 none none) (fun(p:Nat×Option Nat×Heap)=>L.length-p.1) ((0,none,B8)) (⟨C9k _,O3.nil B8 4⟩) (by(try simp only[go_sem])<;>(try simp(disch:=omega) [A0])<;>(try omega)) (by first|exact D0q _|exact A2 (by assumption)|exact B4 (by assumption)|simp only[Heap.Le,Heap.set,Heap.del]at* <;>grind) ?_
  rintro Ec rfl ⟨i,o1,Hp⟩ ⟨hi,h3⟩
  simp only at hi h3
  by_cases hlt:i<L.length
  ·have hkd:decide ((i:Int)<L.length)=true:=C9R (by omega)
   have hti:(i:Int)<L.length:=by omega
   have hLi:=hLm _ (C9d hlt)
   have fs:=A50 A2W L i hlt
   have fl:=A8O A2W L i hi
   have hcl:L[i].c.length=n:=hw _ hLi
   have hcn:L[i].c≠[]:=fun g=>by rw[g]at hcl;simp at hcl;omega
   repeat' (first|with_reducible apply C9P|simp only[go_sem,hkd,A9 _ _ hlt,C2 _ _ hlt]|simp(disch:=omega) only[A0,A9,D4]|simp(disch:=first|omega|grind) only[A6,C8]|(intro hx_;try simp only[A4]at hx_)|with_reducible refine C2k _ hcn (by omega) _ ?_|omega)
   rename_i b12 h12 bx
   have hbx:=hx_
   clear hx_
   have hle9:Hp.Le (Hp.set b12 (.box (C5 L[i]))):=A2 h12
   refine O3.ap h3 (e1':=Rw C5 ((L.take (i+1)).map A2W)) hle9 (by simp only[A4];exact hbx) (by simp) (by rw[D6,fl]) (by simp only[C9U,C9W];omega) (by simp only[C9U,C9W];omega) (by rw[fs,←O2];rfl) fun b' H' h4=>?_
   repeat' (first|with_reducible apply C9P|simp only[go_sem]|simp(disch:=omega) only[A0,A9,D4]|simp(disch:=first|omega|grind) only[A6,C8]|(intro hx_;try simp only[A4]at hx_)|omega)
   refine C3 (i+1,some b',H') ⟨by simp only[];omega,h4⟩ (by simp only[];omega) (by(try simp only[go_sem,K1])<;>(try simp(disch:=omega) [A0])<;>(try omega)) (D0q _)
  ·have hkd:decide ((i:Int)<L.length)=false:=C9S (by omega)
   have e1:L.take i=L:=C9e (by omega)
   have e2:i=L.length:=by omega
   rw[e1]at h3
   have f5:=h3.le _ _ e5
   have f8:=h3.le _ _ e8
   repeat' (first|with_reducible apply C9P|simp only[go_sem,hkd]|simp(disch:=omega) only[A0,A9,D4]|simp(disch:=first|omega|grind) only[A6,C8]|(intro hx_;try simp only[A4]at hx_)|omega)
   obtain⟨C,hC⟩: ∃C,C=e.c.map (A0m · m)++[-m]:=⟨_,rfl⟩
   obtain⟨K,hK⟩: ∃K,K=A0m e.k m:=⟨_,rfl⟩
   rw[←hC,←hK]at eqd
   have hCl:C.length=e.c.length+1:=by rw[hC,C9V,C98];rfl
   have hm0:0<m:=by omega
   have hm1:m<2147483648:=by omega
   have hek:e.k.natAbs≤18446744073709551616:=(hup e hel).1
   have hKa:K.natAbs≤m.natAbs:=by rw[hK];exact B0N _ _ hm0
   have hCa: ∀x∈C,x.natAbs≤4294967296:=fun x hx=>by
    rw[hC]at hx
    rcases C9p.1 hx with g|g
    ·simp only[D0N]at g
     obtain⟨z,_,rfl⟩:=g
     have:=B0N z m hm0
     omega
    ·simp at g;omega
   have nr: ∀(H:Heap) (Q:D→Heap→Prop),Q (.agg (C4 K)) H→ACalls Tryz.prog 258 [.agg (C4 e.k),.agg (C4 m)] H Q:=fun H Q hq=>B5u e.k m hek hm0 hm1 H (by rw[←hK];exact hq)
   have m5:b5∈[b5,b8]:=by simp
   have m8:b8∈[b5,b8]:=by simp
   refine F4 (fun i'=>if i'=8 then .agg (C4 K)else .undef) [b5,b8] ?_
   repeat' (first|with_reducible apply C9P|simp only[go_sem,f5,f8,m5,m8]|simp(disch:=omega) only[A0,A9,D4]|simp(disch:=first|omega|grind) only[A6,C8]|(intro hx_;try simp only[A4]at hx_)|with_reducible refine Q9 (fun H' Q hro hq=>nr H' Q hq) ?_|omega)
   rename_i bv hv b13
   have h13:=hx_
   clear hx_
   have nb:b13≠bv:=h13.1
   have k5:b5≠bv∧b5≠b13:=⟨(fun g=>by rw[g,hv]at f5;cases f5),(fun g=>by rw[g,h13.2]at f5;cases f5)⟩
   have k8:b8≠bv∧b8≠b13:=⟨(fun g=>by rw[g,hv]at f8;cases f8),(fun g=>by rw[g,h13.2]at f8;cases f8)⟩
   rw[show (([D.bool false,.nilsl]::List.replicate e.c.length [D.bool false,.nilsl]):List (List D))=Z4 C (e.c.length+1) 0 from(A2J C (e.c.length+1)).symm]
   refine D1 [5,7,8,10,13,77,78] (fun(j:Nat)=>[(79,.int .i64 j)]) (fun(j:Nat)=>(Hp.set bv (.vec 2 (Z4 C (e.c.length+1) j))).set b13 (.box [.vec bv 2 0 (e.c.length+1),.bool (decide (K<0)),.sl 1 (Rw E9 (C0 K.natAbs)),.bool true])) (fun(j:Nat)=>j≤e.c.length) (fun(j:Nat)=>e.c.length-j) (0) (C9k _) (by(try simp only[go_sem])<;>(try simp(disch:=omega) [A0])<;>(try omega)) (by first|exact D0q _|exact A2 (by assumption)|exact B4 (by assumption)|simp only[Heap.Le,Heap.set,Heap.del]at* <;>grind) ?_
   rintro Ec rfl j hj
   have hpl:=A3S C (e.c.length+1) j hCl (by omega)
   by_cases hjt:j<e.c.length
   ·have hkd2:decide ((j:Int)<e.c.length)=true:=C9R (by omega)
    have hjr:(j:Int)<e.c.length:=by omega
    have hjr1:(j:Int)<((e.c.length:Nat):Int)+1:=by omega
    have hjC:j<C.length:=by omega
    have hci:C[j]=A0m e.c[j] m:=by simp only[hC];rw[List.getElem_append_left (by rw[C98];exact hjt),D0F]
    have c1:=hec _ (C9d hjt)
    have hset:=A1r C (e.c.length+1) j hCl (by omega) (C4 (A0m e.c[j] m)) (by rw[hci])
    have hpg:=A0p C (e.c.length+1) j j hCl (C9j _) (by omega)
    have hpg2:=A0o C (e.c.length+1) j j hCl (C9j _) (by omega)
    repeat' (first|with_reducible apply C9P|simp only[go_sem,hkd2,hjr,A9 _ _ hjt,C2 _ _ hjt]|simp(disch:=omega) only[A0,A9,D4]|simp(disch:=first|omega|grind) only[A6,C8]|(intro hx_;try simp only[A4]at hx_)|omega)
    rename_i b15
    have h15:=hx_
    clear hx_
    have p13:b13∈[b8,b13,b15]:=by simp
    have p15:b15∈[b8,b13,b15]:=by simp
    have p8:b8∈[b8,b13,b15]:=by simp
    have j1:=h15.1
    have j2:=h15.2.1
    have j3:b8≠b15:=fun g=>by have:=h15.2.2;rw[←g,f8]at this;cases this
    obtain⟨y,hy⟩: ∃y,y=A0m e.c[j] m:=⟨_,rfl⟩
    have nr2: ∀(H:Heap) (Q:D→Heap→Prop),Q (.agg (C4 y)) H→ACalls Tryz.prog 258 [.agg (C4 e.c[j]),.agg (C4 m)] H Q:=fun H Q hq=>B5u e.c[j] m (by omega) hm0 hm1 H (by rw[←hy];exact hq)
    rw[←hy]at hset
    refine F4 (fun i'=>if i'=5 then .agg (C4 y)else .undef) [b8,b13,b15] ?_
    repeat' (first|with_reducible apply C9P|simp only[go_sem,p8,p13,p15,A8 _ j3,A8 _ k8.2,A8 _ k8.1,f8,hjr,hjr1,hpl,hpg,hpg2,hset]|simp(disch:=omega) only[A0,A9,D4]|simp(disch:=first|omega|grind) only[A6,C8]|(intro hx_;try simp only[A4]at hx_)|with_reducible refine Q9 (fun H' Q hro hq=>nr2 H' Q hq) ?_|omega)
    refine C3 (j+1) (by omega) (by omega) (by(try simp only[go_sem])<;>(try simp(disch:=omega) [A0])<;>(try omega)) ?_
    rw[←hset]
    intro q o hq
    have e15:q≠b15:=fun g=>by rw[g,A8 _ j1,A8 _ j2,h15.2.2]at hq;cases hq
    by_cases g:q=bv
    ·subst g;rw[A8 _ nb.symm,A5]at hq;rw[A5];exact hq
    ·rw[A8 _ g,A8 _ e15]
     by_cases e12:q=b13
     ·subst e12;rw[A5]at hq⊢;exact hq
     ·rw[A8 _ e12,A8 _ g]at hq⊢;exact hq
   ·have hkd2:decide ((j:Int)<e.c.length)=false:=C9S (by omega)
    have hje:j=e.c.length:=by omega
    subst hje
    have hjC:e.c.length<C.length:=by omega
    have hci:C[e.c.length]= -m:=by simp only[hC];rw[List.getElem_append_right (by rw[C98];exact C9j _)];simp
    have hset:=A1r C (e.c.length+1) e.c.length hCl (by omega) (C4 (-m)) (by rw[hci])
    have hpg:=A0p C (e.c.length+1) e.c.length e.c.length hCl (C9j _) (by omega)
    have hpg2:=A0o C (e.c.length+1) e.c.length e.c.length hCl (C9j _) (by omega)
    have hjr1:(e.c.length:Int)<((e.c.length:Nat):Int)+1:=by omega
    obtain⟨y,hy⟩: ∃y,y= -m:=⟨_,rfl⟩
    rw[←hy,A3T C _ hCl]at hset
    have ng: ∀(H:Heap) (Q:D→Heap→Prop),Q (.agg (C4 y)) H→ACalls Tryz.prog 259 [.agg (C4 m)] H Q:=fun H Q hq=>A37 m H (by rw[←hy];exact hq)
    have p13:b13∈[b5,b8,b13]:=by simp
    have p5:b5∈[b5,b8,b13]:=by simp
    have p8:b8∈[b5,b8,b13]:=by simp
    repeat' (first|with_reducible apply C9P|simp only[go_sem,hkd2]|simp(disch:=omega) only[A0,A9,D4]|simp(disch:=first|omega|grind) only[A6,C8]|(intro hx_;try simp only[A4]at hx_)|omega)
    refine F4 (fun i'=>if i'=6 then .agg (C4 y)else .undef) [b5,b8,b13] ?_
    repeat' (first|with_reducible apply C9P|simp only[go_sem,p8,p13,p5,A8 _ k8.2,A8 _ k8.1,A8 _ k5.2,A8 _ k5.1,f8,f5,hjr1,hpl,hpg,hpg2,hset]|simp(disch:=omega) only[A0,A9,D4]|simp(disch:=first|omega|grind) only[A6,C8]|(intro hx_;try simp only[A4]at hx_)|with_reducible refine Q9 (fun H' Q hro hq=>ng H' Q hq) ?_|omega)
    have hset2:(Z4 C (e.c.length+1) e.c.length).set e.c.length ((zB.set 0 (D.bool (decide (y<0)))).set 1 (D.sl 1 (Rw E9 (C0 y.natAbs))))=Rw C4 C:=hset
    rw[hset2]
    obtain⟨Hf,hHf⟩: ∃Hf,Hf=((Hp.set bv (.vec 2 (Z4 C (e.c.length+1) e.c.length))).set b13 (.box [.vec bv 2 0 (e.c.length+1),.bool (decide (K<0)),.sl 1 (Rw E9 (C0 K.natAbs)),.bool true])).set bv (.vec 2 (Rw C4 C)):=⟨_,rfl⟩
    have hfb:Hf bv=some (.vec 2 (Rw C4 C)):=by rw[hHf];exact A5 _ _
    have hpf:Hp.Le Hf:=fun q o hq=>by
     have g1:q≠bv:=fun g=>by rw[g,hv]at hq;cases hq
     have g2:q≠b13:=fun g=>by rw[g,h13.2]at hq;cases hq
     rw[hHf,A8 _ g1,A8 _ g2,A8 _ g1];exact hq
    rw[←hHf]
    have hob:o1≠some bv:=h3.a1.ne hv
    have hdel: ∀(q:Nat) (o:Go.Av.Obj),Hf q=some o→o1≠some q→K5 Hf o1 q=some o:=fun q o hq hn=>by
     cases o1 with
     |none=>exact hq
     |some c=>show (Hf.del c) q=_;rw[C8 (by rintro rfl;exact hn rfl)];exact hq
    refine ACalls.out (by rw[D6,C98];exact e2) (h3.a1.up hpf) ?_
    refine A4y (hdel _ _ hfb hob) (by rw[D6,hCl]) ?_
    rw[eqd]at h
    have hwr: ∀r∈L.map A2W,∃s∈l,r=A2W s:=fun r hr=>by
     obtain⟨s,hs,rfl⟩:=D0N.1 hr
     exact⟨s,hLm s hs,rfl⟩
    refine A7I (L.map A2W) ⟨C,K,true⟩ k (n+1) (by rw[C98];omega) (by omega) (fun r hx=>?_) (by show C.length=n+1;omega) (by omega) (fun r hx=>?_) ⟨by show K.natAbs≤_;omega,fun x hx=>by have:=hCa x hx;omega⟩ (fun r hx x hy=>?_) hCa _ ?_
    ·obtain⟨s,hs,rfl⟩:=hwr r hx
     show (s.c++[0]).length=n+1
     rw[C9V,hw s hs];rfl
    ·obtain⟨s,hs,rfl⟩:=hwr r hx
     refine⟨(hup s hs).1,fun x hy=>?_⟩
     rcases C9p.1 hy with g|g
     ·exact(hup s hs).2 x g
     ·simp at g;rw[g];decide
    ·obtain⟨s,hs,rfl⟩:=hwr r hx
     rcases C9p.1 hy with g|g
     ·have:=hrc s hs x g;omega
     ·simp at g;rw[g];decide
    ·repeat' (first|with_reducible apply C9P|simp only[go_sem]|simp(disch:=omega) only[A0,A9,D4]|simp(disch:=first|omega|grind) only[A6,C8]|(intro hx_;try simp only[A4]at hx_)|omega)
     refine D0r (fun q o hq=>?_) h
     have q1:=h3.le _ _ (hle8 _ _ hq)
     have q2:q≠bv:=fun g=>by rw[g,hv]at q1;cases q1
     rw[C8 q2]
     exact hdel _ _ (hpf _ _ q1) (fun g=>by have:=h3.n1 _ g;rw[hle8 _ _ hq]at this;cases this)
end Go.Proofs.YtibphjonmikciaaGreatDoor
namespace Go.Lin
open Go Go.Av Go.Proofs.YtibphjonmikciaaGreatDoor
structure OkR(n:Nat)(l:List Row):Prop where
 len:l.length≤9999
 nn:n≤1000
 w: ∀r∈l,r.c.length=n
 s: ∀r∈l,A4p r 4611686018427387904
 c: ∀r∈l,∀x∈r.c,x.natAbs<1073741824
theorem A4d{l:List Row}(h:A8C l=true): ∃n,OkR n l:=by
 unfold A8C at h
 simp only[C9c,C9l]at h
 obtain⟨h1,h2⟩:=h
 cases l with
 |nil=>exact⟨0,by omega,by omega,by simp,by simp,by simp⟩
 |cons r l=>
  simp only[C9c,C9l,C90]at h2
  obtain⟨h2,h3⟩:=h2
  have key: ∀s∈r::l,s.c.length=r.c.length∧(∀x∈s.c,x.natAbs<1073741824)∧s.k.natAbs<4611686018427387904:=fun s hs=>by
   have:=h3 s hs
   unfold C0t at this
   simp only[C9c,beq_iff_eq,C9l,C90]at this
   exact⟨this.1.1,fun x hx=>by have:=this.1.2 x hx;simpa using this,by have:=this.2;simpa using this⟩
  exact⟨r.c.length,by omega,by omega,fun s hs=>(key s hs).1,fun s hs=>⟨by have:=(key s hs).2.2;omega,fun x hx=>by have:=(key s hs).2.1 x hx;omega⟩,fun s hs=>(key s hs).2.1⟩
theorem B0O(p:Row→Bool): ∀l:List Row,V2 p l=match l.findIdx? p with|none=> -1|some i=>(i:Int)
 | []=>rfl
 |r::l=>by
  rw[V2,B0O p l,List.findIdx?_cons]
  by_cases h:p r=true
  ·rw[if_pos h,h];rfl
  ·simp only[h]
   cases l.findIdx? p with
   |none=>simp
   |some i=>simp;omega
theorem B88{p:Row→Bool}{l:List Row}{i:Nat}(h:l.findIdx? p=some i):i<l.length:=(List.findIdx?_eq_some_iff_findIdx_eq.1 h).1
theorem B1d(l:List Row): ∀(n k:Nat),(chT l n).best=some k→k<n
 |0,k,h=>by simp[chT]at h
 |n+1,k,h=>by
  rw[B0C]at h
  unfold A3O at h
  simp only[]at h
  split at h
  ·have:=B1d l n k h;omega
  ·split at h
   ·simp at h;omega
   ·have:=B1d l n k h;omega
theorem B31{l:List Row}{n k:Nat}(hl:l≠[])(hw: ∀r∈l,r.c.length=n)(h:(Y2 l).best=some k):k<n:=by
 have:Y2 l=chT l n:=by
  unfold Y2 chT
  cases l with
  |nil=>exact absurd rfl hl
  |cons r l=>rw[show ((r::l).headD default).c.length=n from hw r (C9a ..)]
 rw[this]at h
 exact B1d l n k h
end Go.Lin
namespace Go.Proofs.YtibphjonmikciaaGreatDoor
open Go Go.Av Go.Lin
attribute [local irreducible] ACalls W4
theorem C2p{Q}(r:Row)(H:Heap)(h:Q (.bool r.eq) H):ACalls Tryz.prog 222 [.agg (C5 r)] H Q:=by
 refine B2 [] B3 Tryz.func222 rfl (by kernel_rfl) (C9Q (by kernel_rfl)) (by kernel_rfl) ?_
 simp only[go_sem,Tryz.results222]
 repeat' (first|with_reducible apply C9P|simp only[go_sem]|intro hx_|omega)
 exact D0r (by simp only[Go.Av.Heap.Le,Go.Av.Heap.set,Go.Av.Heap.del]at* <;>grind) h
set_option maxHeartbeats 1000000 in
theorem B1e{Q}(f:Nat)(l:List Row)(b:Bool)(hs:A4a f l=some b)(H:Heap)(h:Q (.bool b) H):ACalls Tryz.prog 196 [.sl 4 (Rw C5 l)] H Q:=by
 refine B2 [] B3 Tryz.func196 rfl (by kernel_rfl) (C9Q (by kernel_rfl)) (by kernel_rfl) ?_
 simp only[go_sem,Tryz.results196]
 repeat' (first|with_reducible apply C9P|simp only[go_sem]|intro hx_|omega)
 refine D1 [] (fun(p:Nat×List Row)=>[(0,.sl 4 (Rw C5 p.2))]) (fun(p:Nat×List Row)=>H) (fun(p:Nat×List Row)=>A4a p.1 p.2=some b) (fun(p:Nat×List Row)=>p.1) ((f,l)) (hs) (by(try simp only[go_sem])<;>(try simp(disch:=omega) [A0])<;>(try omega)) (by first|exact D0q _|exact A2 (by assumption)|exact B4 (by assumption)|simp only[Heap.Le,Heap.set,Heap.del]at* <;>grind) ?_
 rintro Ec rfl ⟨f,l⟩ hs
 simp only at hs
 cases f with
 |zero=>simp[A4a]at hs
 |succ f=>
  rw[A4a]at hs
  split at hs
  case isFalse=>cases hs
  rename_i hok
  obtain⟨n,ok⟩:=A4d hok
  have td: ∀(H:Heap) (Q:D→Heap→Prop),Q (B0M (A9u l)) H→ACalls Tryz.prog 220 [.sl 4 (Rw C5 l)] H Q:=fun H Q hq=>C2o l n (by have:=ok.len;omega) (by have:=ok.nn;omega) (fun r hr=>⟨ok.w r hr,ok.s r hr⟩) (fun r hr x hx=>by have:=ok.c r hr x hx;omega) H hq
  clear hok
  repeat' (first|with_reducible apply C9P|simp only[go_sem]|intro hx_|with_reducible refine td _ _ ?_|omega)
  cases ht:A9u l with
  |none=>
   rw[ht]at hs
   simp only[C91]at hs
   simp only[go_sem,B0M]
   repeat' (first|with_reducible apply C9P|simp only[go_sem]|intro hx_|omega)
   rw[←hs]at h
   exact D0u h
  |some m=>
   rw[ht]at hs
   cases m with
   |nil=>
    simp only[C91]at hs
    simp only[go_sem,B0M]
    repeat' (first|with_reducible apply C9P|simp only[go_sem]|intro hx_|omega)
    rw[←hs]at h
    exact D0u h
   |cons r m=>
    simp only[]at hs
    split at hs
    case isFalse=>cases hs
    rename_i hok
    obtain⟨L,hL⟩: ∃L,L=r::m:=⟨_,rfl⟩
    have hL0:L≠[]:=by rw[hL];simp
    have hL1: ¬(L.length:Int)=0:=by rw[hL];simp;omega
    rw[←hL]at hs hok
    obtain⟨n,ok⟩:=A4d hok
    simp only[go_sem,B0M]
    rw[←hL]
    clear hok td ht hL
    have ic: ∀(H:Heap) (Q:D→Heap→Prop),Q (.int .i64 (V2 (·.eq) L)) H→ACalls Tryz.prog 221 [.sl 4 (Rw C5 L),.fn (.func 222) [] []] H Q:=fun H Q hq=>B6C (·.eq) L (by have:=ok.len;omega) _ [] [] H (fun a _ Q hq=>C2p a H hq) hq
    have ix:=B0O (·.eq) L
    cases hf:L.findIdx? (·.eq)with
    |some i=>
     rw[hf]at hs ix
     simp only[]at hs ix
     split at hs
     case isFalse=>cases hs
     rename_i hk
     obtain⟨k,hk⟩:=Option.isSome_iff_exists.1 hk
     have hi:=B88 hf
     have hn0:0<n:=by
      have e:L.getD i default=L[i]:=by simp[hi]
      rw[e,A5y]at hk
      have:=A2N _ _ _ hk
      rw[ok.w _ (C9d hi)]at this
      omega
     have eqc: ∀(H:Heap) (Q:D→Heap→Prop),Q (.sl 4 (Rw C5 (n8 L i))) H→ACalls Tryz.prog 223 [.sl 4 (Rw C5 L),.int .i64 (i:Int)] H Q:=fun H Q hq=>B1c L i n k (by have:=ok.len;omega) hn0 ok.nn hi ok.w ok.s ok.c hk H hq
     have ip:(0:Int)≤i:=by omega
     rw[ix]at ic
     repeat' (first|with_reducible apply C9P|simp only[go_sem,hL1,ip]|intro hx_|with_reducible refine ic _ _ ?_|with_reducible refine eqc _ _ ?_|omega)
     exact C3 (f,n8 L i) hs (Nat.lt_succ_self f) (by(try simp only[go_sem])<;>(try simp(disch:=omega) [A0])<;>(try omega)) (D0q _)
    |none=>
     rw[hf]at hs ix
     simp only[]at hs ix
     rw[ix]at ic
     have chc: ∀(H:Heap) (Q:D→Heap→Prop),Q (.tuple [.int .i64 (L0 (Y2 L).best),.bool (Y2 L).sure]) H→ACalls Tryz.prog 224 [.sl 4 (Rw C5 L)] H Q:=fun H Q hq=>B6F L n hL0 (by have:=ok.len;omega) ok.w (by have:=ok.nn;omega) H hq
     split at hs
     ·rename_i k cost hch
      rw[hch]at chc
      have hkn:k<n:=B31 hL0 ok.w (by rw[hch])
      have sh: ∀(H:Heap) (Q:D→Heap→Prop),Q (.sl 4 (Rw C5 (A2H L k false))) H→ACalls Tryz.prog 226 [.sl 4 (Rw C5 L),.int .i64 (k:Int),.bool false] H Q:=fun H Q hq=>B6L L k n (by have:=ok.len;omega) (by have:=ok.nn;omega) ok.w hkn (fun r hr=>⟨by have:=(ok.s r hr).1;omega,fun x hx=>by have:=(ok.s r hr).2 x hx;omega⟩) H hq
      have oi:L0 (some k)=k:=rfl
      simp only[oi]at chc
      repeat' (first|with_reducible apply C9P|simp only[go_sem,hL1]|intro hx_|with_reducible refine ic _ _ ?_|with_reducible refine chc _ _ ?_|with_reducible refine sh _ _ ?_|omega)
      exact C3 (f,A2H L k false) hs (Nat.lt_succ_self f) (by(try simp only[go_sem])<;>(try simp(disch:=omega) [A0])<;>(try omega)) (D0q _)
     ·cases hs
end Go.Proofs.YtibphjonmikciaaGreatDoor
namespace Go.Lin
open Go Go.Av Go.Lexs
theorem A7Q{s:ByteArray}(h:H8 (B s)=true):s.size≤200:=by
 unfold H8 at h
 simp only[C9c,C9l]at h
 have:=h.1.1.2
 rwa [Y7]at this
theorem B6W{l:List LinV}(hv: ∀a∈l,validL a=true):(O4 l).length≤12*l.length∧∀s∈O4 l,s.size≤200:=by
 constructor
 ·have key: ∀(m:List LinV),(∀c∈m,validL c=true)→(O4 m).length≤12*m.length:=by
   intro m
   induction m with
   |nil=>intro _;simp[O4]
   |cons c m ih=>
    intro hm
    have i1:=ih (fun x hx=>hm x (C9h _ hx))
    have i2:=(L9 (hm c (C9a ..))).len
    unfold O4 at i1⊢
    rw[List.flatMap_cons,C9V,C98,C9U]
    omega
  exact key l hv
 ·intro s hs
  unfold O4 at hs
  obtain⟨c,hc,hs⟩:=List.mem_flatMap.1 hs
  obtain⟨t,ht,rfl⟩:=D0N.1 hs
  exact A7Q (M7 (L9 (hv c hc)).t t ht).1
theorem B32(l:List ByteArray)(s:ByteArray):(P6 l s).length≤l.length+1:=by
 induction l with
 |nil=>simp[P6]
 |cons x l ih=>
  unfold P6
  split
  ·simp;omega
  ·split<;>simp
theorem B33(m:List ByteArray): ∀l:List ByteArray,(m.foldl P6 l).length≤l.length+m.length:=by
 induction m with
 |nil=>intro l;simp
 |cons s m ih=>intro l;have:=ih (P6 l s);have:=B32 l s;simp only[List.foldl_cons,C9U];omega
theorem B34{l:List LinV}{a:LinV}(ha:a∈l){t:LTm}(ht:t∈a.t):t.v∈A1j l:=by
 rw[A63]
 exact List.mem_flatMap.2 ⟨a,ha,D0N.2 ⟨t,ht,rfl⟩⟩
def C8C(P:Program)(can:List LinV→Option Bool)(g:Nat)(cap:List D)(H:Heap):Prop:=∀(more:List LinV) (b:Bool),can more=some b→(∀a∈more,validL a=true)→more.length≤2→∀(H':Heap) (Q:D→Heap→Prop),H.Le H'→Q (.bool b) H'→ACalls P g (.sl 3 (Rw E3 more)::cap) H' Q
theorem A7R{s:ByteArray}(hs:H8 (B s)=true)(c k:Int)(e:Bool)(hc:c≠0)(hc2:c.natAbs≤1048576)(hk:k.natAbs≤1099511627776):validL ⟨[⟨s,c⟩],k,e⟩=true:=by
 unfold validL l4 A6Y N1
 simp[hs,hc]
 omega
theorem A7S{s:ByteArray}(hs:H8 (B s)=true)(n m:Int)(hn:n.natAbs≤1099511627776)(hm:m.natAbs≤1099511627776): ∀a∈[U9 s n,l5 s m],validL a=true:=fun a ha=>by
 rcases C9r.1 ha with rfl|ha
 ·exact A7R hs 1 _ _ (by decide) (by decide) (by omega)
 ·simp at ha;rw[ha];exact A7R hs (-1) _ _ (by decide) (by decide) hm
theorem B35(can:List LinV→Option Bool)(s:ByteArray)(f:Nat)(low high:Int):A3P can s (f+1) low high=if low<high then
      match can [U9 s (-((low+high).tdiv 2)),l5 s ((low+high).tdiv 2)]with
      |none=>none
      |some true=>A3P can s f low ((low+high).tdiv 2)
      |some false=>A3P can s f ((low+high).tdiv 2+1) high
    else some low:=rfl
end Go.Lin
namespace Go.Proofs.YtibphjonmikciaaGreatDoor
open Go Go.Av Go.Lexs Go.Lin
attribute [local irreducible] ACalls W4
theorem C2q{Q}(l:List LinV)(hlen:l.length≤1000)(hv: ∀a∈l,validL a=true)(b:Bool)(hs:C0u l=some b)(H:Heap)(h:Q (.bool b) H):ACalls Tryz.prog 155 [.sl 3 (Rw E3 l)] H Q:=by
 refine B2 [] B3 Tryz.func155 rfl (by kernel_rfl) (C9Q (by kernel_rfl)) (by kernel_rfl) ?_
 simp only[go_sem,Tryz.results155]
 obtain⟨n1,n2⟩:=B6W hv
 have hs2:A4a 100 (A9v l (A1j l))=some b:=hs
 have vl:(A1j l).length≤12000:=by have:=B33 (O4 l) [];simp at this;unfold A1j;omega
 repeat' (first|with_reducible apply C9P|simp only[go_sem]|intro hx_|with_reducible refine C2W l (by omega) (by omega) (fun s hs=>by have:=n2 s hs;omega) (fun c hc=>by have:=(L9 (hv c hc)).len;omega) _ ?_|with_reducible refine C2n l (A1j l) (by omega) (by omega) (A9h l) hv (fun a ha t ht=>B34 ha ht) _ ?_|with_reducible refine B1e 100 _ b hs2 _ ?_|omega)
 exact D0u h
theorem A7T{Q}(s:ByteArray)(n:Int)(hn:n.natAbs≤1000000000000000)(H:Heap)(h:Q (.agg (E3 (U9 s n))) H):ACalls Tryz.prog 127 [.str s,.int .i64 n] H Q:=by
 refine B2 [] B3 Tryz.func127 rfl (by kernel_rfl) (C9Q (by kernel_rfl)) (by kernel_rfl) ?_
 simp only[go_sem,Tryz.results127]
 have w:IntKind.i64.wrap (0-n)= -n:=by rw[A0 (by omega) (by omega)];omega
 repeat' (first|with_reducible apply C9P|simp only[go_sem,w]|simp(disch:=omega) only[A0]|simp(disch:=first|omega|grind) only[A6,C8]|(intro hx_;try simp only[A4]at hx_)|omega)
 rename_i b4 h4 b7
 have h7:=hx_
 clear hx_
 refine A12 (es:=Rw Q7 [⟨s,1⟩]) (by rw[A8 _ h7.1,A5];rfl) rfl (D0r (fun k o hk=>?_) h)
 have k1:k≠b4:=fun g=>by rw[g,h4]at hk;cases hk
 have k2:k≠b7:=fun g=>by rw[g,h7.2]at hk;cases hk
 rw[C8 k2,A8 _ k1,A8 _ k2,A8 _ k1];exact hk
theorem B0P{Q}(s:ByteArray)(n:Int)(H:Heap)(h:Q (.agg (E3 (l5 s n))) H):ACalls Tryz.prog 128 [.str s,.int .i64 n] H Q:=by
 refine B2 [] B3 Tryz.func128 rfl (by kernel_rfl) (C9Q (by kernel_rfl)) (by kernel_rfl) ?_
 simp only[go_sem,Tryz.results128]
 repeat' (first|with_reducible apply C9P|simp only[go_sem]|simp(disch:=first|omega|grind) only[A6,C8]|(intro hx_;try simp only[A4]at hx_)|omega)
 rename_i b4 h4 b7
 have h7:=hx_
 clear hx_
 refine A12 (es:=Rw Q7 [⟨s,-1⟩]) (by rw[A8 _ h7.1,A5];rfl) rfl (D0r (fun k o hk=>?_) h)
 have k1:k≠b4:=fun g=>by rw[g,h4]at hk;cases hk
 have k2:k≠b7:=fun g=>by rw[g,h7.2]at hk;cases hk
 rw[C8 k2,A8 _ k1,A8 _ k2,A8 _ k1];exact hk
theorem B36{Q}(can:List LinV→Option Bool)(s:ByteArray)(hns:H8 (B s)=true)(g:Nat)(cap:List D)(H:Heap)(hcan:C8C Tryz.prog can g cap H)(n:Int)(hn:B5i can s=some n)(h:Q (.int .i64 n) H):ACalls Tryz.prog 76 [.str s,.fn (.func g) [] cap] H Q:=by
 refine B2 [] B3 Tryz.func76 rfl (by kernel_rfl) (C9Q (by kernel_rfl)) (by kernel_rfl) ?_
 simp only[go_sem,Tryz.results76]
 unfold B5i at hn
 cases hh:A3P can s 40 0 2147483647 with
 |none=>rw[hh]at hn;cases hn
 |some res=>
  rw[hh]at hn
  simp only[]at hn
  repeat' (first|with_reducible apply C9P|simp only[go_sem]|simp(disch:=omega) only[A0]|intro hx_|omega)
  refine D1 [0,1] (fun(p:Nat×Int×Int)=>[(5,.int .i64 p.2.1),(6,.int .i64 p.2.2)]) (fun(p:Nat×Int×Int)=>H) (fun(p:Nat×Int×Int)=>A3P can s p.1 p.2.1 p.2.2=some res∧0≤p.2.1∧p.2.1≤p.2.2∧p.2.2≤2147483647) (fun(p:Nat×Int×Int)=>p.1) ((40,0,2147483647)) (⟨hh,by simp,by simp,by simp⟩) (by(try simp only[go_sem])<;>(try simp(disch:=omega) [A0])<;>(try omega)) (by first|exact D0q _|exact A2 (by assumption)|exact B4 (by assumption)|simp only[Heap.Le,Heap.set,Heap.del]at* <;>grind) ?_
  rintro Ec rfl ⟨f,low,high⟩ ⟨q1,q2,q3,q4⟩
  simp only at q1 q2 q3 q4
  cases f with
  |zero=>simp[A3P]at q1
  |succ f=>
   rw[B35]at q1
   by_cases hlt:low<high
   ·rw[if_pos hlt]at q1
    obtain⟨m,hm⟩: ∃m,m=(low+high).tdiv 2:=⟨_,rfl⟩
    have hmr:low≤m∧m<high:=by
     rw[hm,Int.tdiv_eq_ediv_of_nonneg (by omega)];omega
    rw[←hm]at q1
    have w1:IntKind.i64.wrap m=m:=A0 (by omega) (by omega)
    have w2:IntKind.i64.wrap (0-m)= -m:=by rw[A0 (by omega) (by omega)];omega
    cases hc:can [U9 s (-m),l5 s m]with
    |none=>rw[hc]at q1;cases q1
    |some b=>
     rw[hc]at q1
     repeat' (first|with_reducible apply C9P|simp only[go_sem,hlt,←hm,w1,w2,Int.zero_sub]|simp(disch:=omega) only[A0]|intro hx_|with_reducible refine A7T s (-m) (by omega) _ ?_|with_reducible refine B0P s m _ ?_|omega)
     rename_i bs
     have hbs:=hx_
     clear hx_
     refine T1 (es:=Rw E3 [U9 s (-m),l5 s m]) (A5 _ _) rfl ?_
     rw[E7 hbs]
     refine hcan _ b hc (A7S hns _ _ (by omega) (by omega)) (by simp) _ _ (D0q _) ?_
     cases b with
     |true=>
      repeat' (first|with_reducible apply C9P|simp only[go_sem]|simp(disch:=omega) only[A0]|intro hx_|omega)
      exact C3 (f,low,m) ⟨q1,q2,by simp only[];omega,by simp only[];omega⟩ (Nat.lt_succ_self f) (by(try simp only[go_sem])<;>(try simp(disch:=omega) [A0])<;>(try omega)) (D0q _)
     |false=>
      repeat' (first|with_reducible apply C9P|simp only[go_sem]|simp(disch:=omega) only[A0]|intro hx_|omega)
      exact C3 (f,m+1,high) ⟨q1,by simp only[];omega,by simp only[];omega,q4⟩ (Nat.lt_succ_self f) (by(try simp only[go_sem])<;>(try simp(disch:=omega) [A0])<;>(try omega)) (D0q _)
   ·rw[if_neg hlt]at q1
    simp only[C91]at q1
    subst q1
    by_cases h0:0<low
    ·rw[if_pos h0]at hn
     cases hc:can [U9 s low,l5 s low]with
     |none=>rw[hc]at hn;cases hn
     |some b=>
      rw[hc]at hn
      repeat' (first|with_reducible apply C9P|simp only[go_sem,hlt,h0,Int.zero_sub]|simp(disch:=omega) only[A0]|intro hx_|with_reducible refine A7T s low (by omega) _ ?_|with_reducible refine B0P s low _ ?_|omega)
      rename_i bs
      have hbs:=hx_
      clear hx_
      refine T1 (es:=Rw E3 [U9 s low,l5 s low]) (A5 _ _) rfl ?_
      rw[E7 hbs]
      refine hcan _ b hc (A7S hns _ _ (by omega) (by omega)) (by simp) _ _ (D0q _) ?_
      cases b with
      |true=>
       simp only[C91]at hn
       subst hn
       repeat' (first|with_reducible apply C9P|simp only[go_sem]|simp(disch:=omega) only[A0]|intro hx_|omega)
       exact D0u h
      |false=>
       simp only[C91]at hn
       subst hn
       repeat' (first|with_reducible apply C9P|simp only[go_sem,Int.zero_sub]|simp(disch:=omega) only[A0]|intro hx_|omega)
       exact D0u h
    ·rw[if_neg h0]at hn
     simp only[C91]at hn
     subst hn
     repeat' (first|with_reducible apply C9P|simp only[go_sem,hlt,h0]|simp(disch:=omega) only[A0]|intro hx_|omega)
     exact D0u h
end Go.Proofs.YtibphjonmikciaaGreatDoor
namespace Go.Lin
open Go Go.Av Go.Lexs
structure FI(H:Heap)(b5 bv:Nat)(so:List LinV)(out:List VlV)(ob:Option Nat)(Hp:Heap):Prop where
 le:H.Le Hp
 h5:H b5=none
 hv:H bv=none
 e5:Hp b5=some (.box [.vec bv 3 0 so.length])
 ev:Hp bv=some (.vec 3 (Rw E3 so))
 eo:OutAt Hp 2 (Rw vlC out) ob
 no: ∀b,ob=some b→H b=none
 n5:ob≠some b5
 nv:ob≠some bv
end Go.Lin
namespace Go.Proofs.YtibphjonmikciaaGreatDoor
open Go Go.Av Go.Lexs Go.Lin
attribute [local irreducible] ACalls W4
end Go.Proofs.YtibphjonmikciaaGreatDoor
namespace Go.Av
structure BxI(H:Heap)(bx sz n:Nat)(X:List (List D))(rest:List D)(ob:Option Nat)(Hp:Heap):Prop where
 le:H.Le Hp
 hx:H bx=none
 ex:Hp bx=some (.box (J4 sz n ob::rest))
 eo:OutAt Hp sz X ob
 no: ∀b,ob=some b→H b=none
 nx:ob≠some bx
theorem B4W{H:Heap}{bx:Nat}(h:H bx=none)(sz:Nat)(rest:List D):BxI H bx sz 0 [] rest none (H.set bx (.box (.nilsl::rest))):=
 ⟨A2 h,h,A5 _ _,rfl,by simp,by simp⟩
theorem BxI.up{H Hp H':Heap}{bx sz n:Nat}{X:List (List D)}{rest:List D}{ob:Option Nat}(h:BxI H bx sz n X rest ob Hp)(hle:Hp.Le H'):BxI H bx sz n X rest ob H':=
 ⟨h.le.trans hle,h.hx,hle _ _ h.ex,h.eo.up hle,h.no,h.nx⟩
theorem BxI.ap{H Hp H0 H':Heap}{bx sz n m:Nat}{X Y:List (List D)}{rest:List D}{ob:Option Nat}{b':Nat}(h:BxI H bx sz n X rest ob Hp)(hle:Hp.Le H0)(ha:Apd H0 sz ob Y b' H'):BxI H bx sz m Y rest (some b') (H'.set bx (.box (.vec b' sz 0 m::rest)))∧H' bx=some (.box (J4 sz n ob::rest)):=by
 have e5:H' bx=some (.box (J4 sz n ob::rest)):=ha.2.1 bx _ (hle _ _ h.ex) h.nx
 have nb:b'≠bx:=fun e=>by have:=ha.1;rw[e,e5]at this;cases this
 have gb:H b'=none:=by
  rcases ha.2.2 with g|g
  ·exact h.le.none (hle.none g)
  ·exact h.no _ g
 refine⟨⟨fun k o hk=>?_,h.hx,A5 _ _,?_,fun b e=>by cases e;exact gb,fun e=>nb (by cases e;rfl)⟩,e5⟩
 ·rw[A8 _ (fun e=>by rw[e,h.hx]at hk;cases hk)]
  exact ha.2.1 k o (hle _ _ (h.le _ _ hk)) (fun e=>by have:=h.no _ e;rw[this]at hk;cases hk)
 ·show (H'.set bx _) b'=_
  rw[A8 _ nb];exact ha.1
end Go.Av
namespace Go.Proofs.YtibphjonmikciaaGreatDoor
open Go Go.Av Go.Lexs Go.Lin
attribute [local irreducible] ACalls W4
end Go.Proofs.YtibphjonmikciaaGreatDoor
namespace Go.Lin
open Go Go.Av Go.Lexs
theorem B7f{Q:D→Heap→Prop}{ds:List D}{x:D}{H:Heap}{b sz n:Nat}{es:List (List D)}(hb:H b=some (.vec sz es))(hn:n=es.length)(h:Fin Q (.tuple [.agg (.sl sz es::ds),x]) (H.del b)):Fin Q (.tuple [.agg (.vec b sz 0 n::ds),x]) H:=by
 subst hn
 refine A4h hb (by simp) (fun i d d' h1 h2=>?_) h
 match i with
 |0=>cases h1;cases h2;exact .all
 |i+1=>
  simp only[C9v]at h1 h2
  rw[h1]at h2;cases h2;exact .same _
theorem A53(sz n:Nat)(ob:Option Nat):(match J4 sz n ob with|D.undef=>false|D.agg cs=>false|D.tuple cs=>false|x=>true)=true:=by cases ob<;>rfl
theorem G3{H Bs:Heap}{b:Nat}{x:Go.Av.Obj}(hle:H.Le Bs)(h:H b=none):H.Le (Bs.set b x):=fun k o hk=>by
 rw[A8 _ (fun e=>by rw[e,h]at hk;cases hk)];exact hle _ _ hk
end Go.Lin
namespace Go.Proofs.YtibphjonmikciaaGreatDoor
open Go Go.Av Go.Lexs Go.Lin
attribute [local irreducible] ACalls W4
end Go.Proofs.YtibphjonmikciaaGreatDoor
namespace Go.Av
theorem A4x{P:Program}{f v sz n:Nat}{es:List (List D)}{ds rs:List D}{H:Heap}{Q:D→Heap→Prop}(hb:H v=some (.vec sz es))(hn:n=es.length)(h:ACalls P f (.agg (.sl sz es::ds)::rs) (H.del v) Q):ACalls P f (.agg (.vec v sz 0 n::ds)::rs) H Q:=by
 subst hn
 refine ACalls.shift (args':=.agg (.sl sz es::ds)::rs) (fun w vs h1 h2 hs=>?_) h
 have hle:=D8 H v
 refine⟨by simpa using h1,fun i d hd=>?_,hs.less hle,fun k hn=>hle.held hn⟩
 match i with
 |0=>
  cases hd
  have hr1:=h2 0 _ rfl
  revert hr1
  generalize vs.getD 0 undef=v1
  intro hr1
  cases hr1 with
  |agg _ us hlv ho hr=>
   refine .agg _ us (by simpa using hlv) (fun i d' hd'=>?_) (fun i d' hd'=>?_)
   ·cases i with
    |zero=>cases hd';rfl
    |succ i=>exact ho (i+1) d' hd'
   ·cases i with
    |zero=>
     cases hd'
     have hf:Fz v sz es (.vec v sz 0 es.length) (.sl sz es):=.all
     exact hf.R hs hb (hr 0 _ rfl)
    |succ i=>exact(hr (i+1) d' hd').less hle
 |i+1=>exact(h2 (i+1) d (by simpa using hd)).less hle
end Go.Av
namespace Go.Lin
open Go Go.Av Go.Lexs
theorem B0Q{a:LinV}(h:validL a=true): ∀t∈a.t,t.c≠0∧t.c.natAbs≤1048576:=fun t ht=>by
 have:=(M7 (L9 h).t t ht)
 exact⟨this.2.1,by have:=this.2.2;omega⟩
theorem _root_.Go.Av.BxI.fin{H0 H Hp:Heap}{bx sz n b4 b:Nat}{X:List (List D)}{rest cs:List D}{T:Option TypeId}{x:Go.Av.Obj}(h:BxI H bx sz n X rest (some b) Hp)(hle:H0.Le H)(h4:H0 b4=none)(e4:Hp b4=some (.box cs T)):(Hp.set b4 x) b=some (.vec sz X)∧H0.Le ((Hp.set b4 x).del b):=by
 have hb:Hp b=some (.vec sz X):=h.eo
 have nb:b≠b4:=fun e=>by rw[e,e4]at hb;cases hb
 refine⟨by rw[A8 _ nb];exact hb,fun k o hk=>?_⟩
 have h1:=hle _ _ hk
 have k1:k≠b:=fun e=>by have:=h.no b rfl;rw[←e,h1]at this;cases this
 rw[C8 k1,A8 _ (fun e=>by rw[e,h4]at hk;cases hk)]
 exact h.le _ _ h1
theorem _root_.Go.Av.BxI.re{H Hp:Heap}{bx sz n:Nat}{X:List (List D)}{rest:List D}{ob:Option Nat}(h:BxI H bx sz n X rest ob Hp)(rest':List D):BxI H bx sz n X rest' ob (Hp.set bx (.box (J4 sz n ob::rest'))):=by
 refine⟨fun k o hk=>?_,h.hx,A5 _ _,?_,h.no,h.nx⟩
 ·rw[A8 _ (fun e=>by rw[e,h.hx]at hk;cases hk)];exact h.le _ _ hk
 ·have:=h.eo
  cases ob with
  |none=>exact this
  |some b=>
   show (Hp.set bx _) b=_
   rw[A8 _ (fun e=>h.nx (by rw[e]))];exact this
theorem A54{C T:Nat→Heap→Prop}{G:Prop}(h:(∀b H,C b H→T b H)→G)(t: ∀b H,C b H→T b H):G:=h t
end Go.Lin
namespace Go.Proofs.YtibphjonmikciaaGreatDoor
open Go Go.Av Go.Lexs Go.Lin
attribute [local irreducible] ACalls W4
theorem B89{Q}(a:LinV)(fa:a7 a)(H:Heap)(h:Q (.bool true) H):ACalls Tryz.prog 60 [.agg (E3 a),.agg (E3 a)] H Q:=by
 refine B2 [(6,.par)] B3 Tryz.func60 rfl (by kernel_rfl) (C9Q (by kernel_rfl)) (by kernel_rfl) ?_
 simp only[go_sem,Tryz.results60]
 intro b2 g2 b3 g3
 simp only[A4]at g3
 have e2:((H.set b2 (.box (E3 a))).set b3 (.box (E3 a))) b2=some (.box (E3 a)):=by rw[A8 _ g3.1.symm,A5]
 have e3:((H.set b2 (.box (E3 a))).set b3 (.box (E3 a))) b3=some (.box (E3 a)):=A5 _ _
 have hle:H.Le ((H.set b2 (.box (E3 a))).set b3 (.box (E3 a))):=(A2 g2).trans (A2 (by simp only[A4];exact g3))
 generalize (H.set b2 (.box (E3 a))).set b3 (.box (E3 a))=Bs at e2 e3 hle⊢
 have m2:b2∈[b2,b3]:=by simp
 have m3:b3∈[b2,b3]:=by simp
 have hlen:=fa.len
 obtain⟨T,K,E⟩:=a
 have hlen:T.length≤5864062014639:=hlen
 have hee:(E==E)=true:=by cases E<;>rfl
 repeat' (first|with_reducible apply C9P|simp only[go_sem,e2,e3,hee]|simp(disch:=omega) only[A0,A9]|(intro hx_;try simp only[A4]at hx_)|omega)
 refine D1 [2,3,29] (fun(i:Nat)=>[(30,.int .i64 i)]) (fun(i:Nat)=>Bs) (fun(i:Nat)=>i≤T.length) (fun(i:Nat)=>T.length-i) (0) (C9k _) (by(try simp only[go_sem])<;>(try simp(disch:=omega) [A0])<;>(try omega)) (by first|exact D0q _|exact A2 (by assumption)|exact B4 (by assumption)|simp only[Heap.Le,Heap.set,Heap.del]at* <;>grind) ?_
 rintro Ec rfl i hi
 by_cases hlt:i<T.length
 ·have hkd:decide ((i:Int)<T.length)=true:=C9R (by omega)
  have hti:(i:Int)<T.length:=by omega
  repeat' (first|with_reducible apply C9P|simp only[go_sem,hkd,hti,A9 _ _ hlt,C2 _ _ hlt]|simp(disch:=omega) only[A0,A9]|(intro hx_;try simp only[A4]at hx_)|omega)
  refine F4 (fun i'=>.undef) [b2,b3] ?_
  repeat' (first|with_reducible apply C9P|simp only[go_sem,hkd,hti,A9 _ _ hlt,C2 _ _ hlt,e2,e3,m2,m3]|simp(disch:=omega) only[A0,A9]|(intro hx_;try simp only[A4]at hx_)|omega)
  exact C3 (i+1) (by omega) (by omega) (by(try simp only[go_sem])<;>(try simp(disch:=omega) [A0])<;>(try omega)) (by simp only[Go.Av.Heap.Le,Go.Av.Heap.set,Go.Av.Heap.del]at* <;>grind)
 ·have hkd:decide ((i:Int)<T.length)=false:=C9S (by omega)
  repeat' (first|with_reducible apply C9P|simp only[go_sem,hkd]|simp(disch:=omega) only[A0,A9]|(intro hx_;try simp only[A4]at hx_)|omega)
  exact D0r hle h
end Go.Proofs.YtibphjonmikciaaGreatDoor
namespace Go.Lin
open Go Go.Av Go.Lexs
theorem M0(n:Int):Lib.itoa n=(if n<0 then [45]else [])++dec n.natAbs:=by
 unfold Lib.itoa dec
 by_cases h:n<0
 ·rw[if_pos h,if_pos h];rfl
 ·rw[if_neg h,if_neg h]
  have:n.toNat=n.natAbs:=by omega
  rw[this];rfl
theorem A55(n:Int)(h:n.natAbs<10000000000000000000):(Lib.itoa n).length≤20:=by
 rw[M0,C9V]
 have:=A42 18 n.natAbs (by omega)
 split<;>simp<;>omega
theorem B6X{α :Type}(T:List α)(i:Nat)(h:i<T.length):(T.take i).isEmpty=decide (i=0):=by
 cases T with
 |nil=>simp at h
 |cons x T=>cases i<;>simp
end Go.Lin
namespace Go.Proofs.YtibphjonmikciaaGreatDoor
open Go Go.Av Go.Lexs Go.Lin
attribute [local irreducible] ACalls W4
set_option maxHeartbeats 1000000 in
theorem B6Y{Q}(a:LinV)(fa:a7 a)(H:Heap)(hT:Tabs H)(h:Q (.tuple [.str (if validL a=true then S (F1 a)else S []),.int .i64 (if validL a=true then 0 else 2)]) H):ACalls Tryz.prog 115 [.agg (E3 a)] H Q:=by
 refine B2 [] B3 Tryz.func115 rfl (by kernel_rfl) (C9Q (by kernel_rfl)) (by kernel_rfl) ?_
 simp only[go_sem,Tryz.results115]
 intro b2 g2
 have e2:(H.set b2 (.box (E3 a))) b2=some (.box (E3 a)):=A5 _ _
 have hle:H.Le (H.set b2 (.box (E3 a))):=A2 g2
 generalize H.set b2 (.box (E3 a))=Bs at e2 hle⊢
 have hTb:=hT.le hle
 by_cases c:validL a=true
 ·rw[if_pos c,if_pos c]at h
  have hlen:=(L9 c).len
  have vt:=B0Q c
  have nm: ∀t∈a.t,t.v.size≤200:=fun t ht=>A7Q ((M7 (L9 c).t t ht).1)
  repeat' (first|with_reducible apply C9P|simp only[go_sem,e2,c]|simp(disch:=omega) only[A0,A9]|intro hx_|with_reducible refine A8G a fa _ ?_|omega)
  refine D1 [1,12,13] (fun(p:Nat×ByteArray×Heap)=>[(14,.int .i64 p.1),(4,.str p.2.1)]) (fun(p:Nat×ByteArray×Heap)=>p.2.2) (fun(p:Nat×ByteArray×Heap)=>p.1≤a.t.length∧B p.2.1=K8 true (a.t.take p.1)∧p.2.1.size≤1000*p.1∧Bs.Le p.2.2) (fun(p:Nat×ByteArray×Heap)=>a.t.length-p.1) ((0,⟨#[]⟩,Bs)) (⟨C9k _,rfl,C9k _,D0q _⟩) (by(try simp only[go_sem])<;>(try simp(disch:=omega) [A0])<;>(try omega)) (by first|exact D0q _|exact A2 (by assumption)|exact B4 (by assumption)|simp only[Heap.Le,Heap.set,Heap.del]at* <;>grind) ?_
  rintro Ec rfl ⟨i,x,Hp⟩ ⟨hi,hX,hXl,hp⟩
  simp only at hi hX hXl hp
  by_cases hlt:i<a.t.length
  ·have hkd:decide ((i:Int)<a.t.length)=true:=C9R (by omega)
   have hti:(i:Int)<a.t.length:=by omega
   obtain⟨x0,x1⟩:=vt _ (C9d hlt)
   have hnm:=nm _ (C9d hlt)
   have hTp:=hTb.le hp
   have hz: ∀b o,Hp b=none→Tabs (Hp.set b o):=fun b o hb=>hTp.le (A2 hb)
   have z45:(⟨#[45]⟩:ByteArray).size=1:=rfl
   have z43:(⟨#[43]⟩:ByteArray).size=1:=rfl
   have z42:(⟨#[42]⟩:ByteArray).size=1:=rfl
   have tk:K8 true (a.t.take (i+1))=K8 true (a.t.take i)++S5 (decide (i=0)) a.t[i]:=by rw[C9i hlt,A9l,B6X _ _ hlt,Bool.true_and]
   have ws:IntKind.i64.wrap (0-a.t[i].c)= -a.t[i].c:=by rw[A0 (by omega) (by omega)];omega
   have hil:=A55 a.t[i].c (by omega)
   by_cases q1:a.t[i].c<0
   ·have hil:=A55 (-a.t[i].c) (by omega)
    by_cases q2: -a.t[i].c=1
    ·have q3:True:=trivial
     repeat' (first|with_reducible apply C9P|simp only[go_sem,hkd,hti,A9 _ _ hlt,C2 _ _ hlt,ws,q1,q2,q3,hil]|simp(disch:=omega) only[A0,A9]|intro hx_|with_reducible refine V0 _ (by omega) (by omega) _ (hz _ _ (by assumption)) ?_|omega)
     have qa:a.t[i].c.natAbs=1:=by omega
     have qi:Lib.itoa (-a.t[i].c)=dec a.t[i].c.natAbs:=by rw[M0,if_neg (by omega),D0b]<;>(try(congr 1;omega))
     skip
     refine C3 (i+1,x++⟨#[45]⟩++a.t[i].v,_) ⟨by simp only[];omega,?_,?_,hp.trans (A2 (by assumption))⟩ (by simp only[];omega) (by(try simp only[go_sem])<;>(try simp(disch:=omega) [A0])<;>(try omega)) (D0q _)
     ·simp only[u7,l9,A0J,hX,tk,S5,qa,q1,qi,if_true,if_false]
      simp
     ·simp only[ByteArray.size_append,O1,z45,z43,z42];omega
    ·have q3:True:=trivial
     repeat' (first|with_reducible apply C9P|simp only[go_sem,hkd,hti,A9 _ _ hlt,C2 _ _ hlt,ws,q1,q2,q3,hil]|simp(disch:=omega) only[A0,A9]|intro hx_|with_reducible refine V0 _ (by omega) (by omega) _ (hz _ _ (by assumption)) ?_|omega)
     have qa: ¬a.t[i].c.natAbs=1:=by omega
     have qi:Lib.itoa (-a.t[i].c)=dec a.t[i].c.natAbs:=by rw[M0,if_neg (by omega),D0b]<;>(try(congr 1;omega))
     skip
     refine C3 (i+1,x++⟨#[45]⟩++(S (Lib.itoa (-a.t[i].c))++⟨#[42]⟩)++a.t[i].v,_) ⟨by simp only[];omega,?_,?_,hp.trans (A2 (by assumption))⟩ (by simp only[];omega) (by(try simp only[go_sem])<;>(try simp(disch:=omega) [A0])<;>(try omega)) (D0q _)
     ·simp only[u7,l9,A0J,hX,tk,S5,qa,q1,qi,if_true,if_false]
      simp
     ·simp only[ByteArray.size_append,O1,z45,z43,z42];omega
   ·by_cases q3:(0:Int)<i
    ·by_cases q2:a.t[i].c=1
     ·repeat' (first|with_reducible apply C9P|simp only[go_sem,hkd,hti,A9 _ _ hlt,C2 _ _ hlt,ws,q1,q2,q3,hil]|simp(disch:=omega) only[A0,A9]|intro hx_|with_reducible refine V0 _ (by omega) (by omega) _ (hz _ _ (by assumption)) ?_|omega)
      have qa:a.t[i].c.natAbs=1:=by omega
      have qi:Lib.itoa a.t[i].c=dec a.t[i].c.natAbs:=by rw[M0,if_neg (by omega),D0b]<;>(try(congr 1;omega))
      have qz:decide (i=0)=false:=by simp;omega
      refine C3 (i+1,x++⟨#[43]⟩++a.t[i].v,_) ⟨by simp only[];omega,?_,?_,hp.trans (A2 (by assumption))⟩ (by simp only[];omega) (by(try simp only[go_sem])<;>(try simp(disch:=omega) [A0])<;>(try omega)) (D0q _)
      ·simp only[u7,l9,A0J,hX,tk,S5,qa,q1,qi,qz,if_true,if_false]
       simp
      ·simp only[ByteArray.size_append,O1,z45,z43,z42];omega
     ·repeat' (first|with_reducible apply C9P|simp only[go_sem,hkd,hti,A9 _ _ hlt,C2 _ _ hlt,ws,q1,q2,q3,hil]|simp(disch:=omega) only[A0,A9]|intro hx_|with_reducible refine V0 _ (by omega) (by omega) _ (hz _ _ (by assumption)) ?_|omega)
      have qa: ¬a.t[i].c.natAbs=1:=by omega
      have qi:Lib.itoa a.t[i].c=dec a.t[i].c.natAbs:=by rw[M0,if_neg (by omega),D0b]<;>(try(congr 1;omega))
      have qz:decide (i=0)=false:=by simp;omega
      refine C3 (i+1,x++⟨#[43]⟩++(S (Lib.itoa a.t[i].c)++⟨#[42]⟩)++a.t[i].v,_) ⟨by simp only[];omega,?_,?_,hp.trans (A2 (by assumption))⟩ (by simp only[];omega) (by(try simp only[go_sem])<;>(try simp(disch:=omega) [A0])<;>(try omega)) (D0q _)
      ·simp only[u7,l9,A0J,hX,tk,S5,qa,q1,qi,qz,if_true,if_false]
       simp
      ·simp only[ByteArray.size_append,O1,z45,z43,z42];omega
    ·by_cases q2:a.t[i].c=1
     ·repeat' (first|with_reducible apply C9P|simp only[go_sem,hkd,hti,A9 _ _ hlt,C2 _ _ hlt,ws,q1,q2,q3,hil]|simp(disch:=omega) only[A0,A9]|intro hx_|with_reducible refine V0 _ (by omega) (by omega) _ (hz _ _ (by assumption)) ?_|omega)
      have qa:a.t[i].c.natAbs=1:=by omega
      have qi:Lib.itoa a.t[i].c=dec a.t[i].c.natAbs:=by rw[M0,if_neg (by omega),D0b]<;>(try(congr 1;omega))
      have qz:decide (i=0)=true:=by simp;omega
      refine C3 (i+1,x++a.t[i].v,_) ⟨by simp only[];omega,?_,?_,hp.trans (A2 (by assumption))⟩ (by simp only[];omega) (by(try simp only[go_sem])<;>(try simp(disch:=omega) [A0])<;>(try omega)) (D0q _)
      ·simp only[u7,l9,A0J,hX,tk,S5,qa,q1,qi,qz,if_true,if_false]
       simp
      ·simp only[ByteArray.size_append,O1,z45,z43,z42];omega
     ·repeat' (first|with_reducible apply C9P|simp only[go_sem,hkd,hti,A9 _ _ hlt,C2 _ _ hlt,ws,q1,q2,q3,hil]|simp(disch:=omega) only[A0,A9]|intro hx_|with_reducible refine V0 _ (by omega) (by omega) _ (hz _ _ (by assumption)) ?_|omega)
      have qa: ¬a.t[i].c.natAbs=1:=by omega
      have qi:Lib.itoa a.t[i].c=dec a.t[i].c.natAbs:=by rw[M0,if_neg (by omega),D0b]<;>(try(congr 1;omega))
      have qz:decide (i=0)=true:=by simp;omega
      refine C3 (i+1,x++(S (Lib.itoa a.t[i].c)++⟨#[42]⟩)++a.t[i].v,_) ⟨by simp only[];omega,?_,?_,hp.trans (A2 (by assumption))⟩ (by simp only[];omega) (by(try simp only[go_sem])<;>(try simp(disch:=omega) [A0])<;>(try omega)) (D0q _)
      ·simp only[u7,l9,A0J,hX,tk,S5,qa,q1,qi,qz,if_true,if_false]
       simp
      ·simp only[ByteArray.size_append,O1,z45,z43,z42];omega
  ·have hkd:decide ((i:Int)<a.t.length)=false:=C9S (by omega)
   have hie:i=a.t.length:=by omega
   subst hie
   have e2p:=hp _ _ e2
   have hTp:=hTb.le hp
   rw[List.take_length]at hX
   have vk:=(L9 c).k
   have hil:=A55 a.k (by omega)
   have z43:(⟨#[43]⟩:ByteArray).size=1:=rfl
   by_cases t0:a.t= []
   ·have l0:(a.t.length:Int)=0:=by rw[t0];rfl
    have x0:x=⟨#[]⟩:=i6 (by rw[hX,t0];rfl)
    by_cases ae:a.e=true
    ·have ae:a.e=true:=ae
     have hB:B (x++S (Lib.itoa a.k)++⟨#[61,48]⟩)=F1 a:=by
      unfold F1 L7 R0
      simp[u7,l9,A0J,hX,ae,A0A,M0,t0]
     have hs:S (F1 a)=x++S (Lib.itoa a.k)++⟨#[61,48]⟩:=i6 (by rw[l9,hB])
     rw[hs]at h
     repeat' (first|with_reducible apply C9P|simp only[go_sem,hkd,e2p,ae,l0]|simp(disch:=omega) only[A0,A9]|intro hx_|with_reducible refine V0 _ (by omega) (by omega) _ hTp ?_|omega)
     exact D0r (hle.trans hp) h
    ·have ae:a.e=false:=by simpa using ae
     have hB:B (x++S (Lib.itoa a.k)++⟨#[62,61,48]⟩)=F1 a:=by
      unfold F1 L7 R0
      simp[u7,l9,A0J,hX,ae,A0A,M0,t0]
     have hs:S (F1 a)=x++S (Lib.itoa a.k)++⟨#[62,61,48]⟩:=i6 (by rw[l9,hB])
     rw[hs]at h
     repeat' (first|with_reducible apply C9P|simp only[go_sem,hkd,e2p,ae,l0]|simp(disch:=omega) only[A0,A9]|intro hx_|with_reducible refine V0 _ (by omega) (by omega) _ hTp ?_|omega)
     exact D0r (hle.trans hp) h
   ·have l0: ¬(a.t.length:Int)=0:=fun e=>t0 (C9n (by omega))
    have l1:(0:Int)<a.t.length:=by omega
    have le:a.t.isEmpty=false:=by cases h:a.t with|nil=>exact absurd h t0|cons=>rfl
    by_cases k0:a.k=0
    ·by_cases ae:a.e=true
     ·have ae:a.e=true:=ae
      have hB:B (x++⟨#[61,48]⟩)=F1 a:=by
       unfold F1 L7 R0
       simp[u7,l9,A0J,hX,ae,A0A,M0,k0,t0]
      have hs:S (F1 a)=x++⟨#[61,48]⟩:=i6 (by rw[l9,hB])
      rw[hs]at h
      repeat' (first|with_reducible apply C9P|simp only[go_sem,hkd,e2p,ae,l0,l1,k0]|simp(disch:=omega) only[A0,A9]|intro hx_|with_reducible refine V0 _ (by omega) (by omega) _ hTp ?_|omega)
      exact D0r (hle.trans hp) h
     ·have ae:a.e=false:=by simpa using ae
      have hB:B (x++⟨#[62,61,48]⟩)=F1 a:=by
       unfold F1 L7 R0
       simp[u7,l9,A0J,hX,ae,A0A,M0,k0,t0]
      have hs:S (F1 a)=x++⟨#[62,61,48]⟩:=i6 (by rw[l9,hB])
      rw[hs]at h
      repeat' (first|with_reducible apply C9P|simp only[go_sem,hkd,e2p,ae,l0,l1,k0]|simp(disch:=omega) only[A0,A9]|intro hx_|with_reducible refine V0 _ (by omega) (by omega) _ hTp ?_|omega)
      exact D0r (hle.trans hp) h
    ·by_cases k1:0<a.k
     ·have k2: ¬a.k<0:=by omega
      by_cases ae:a.e=true
      ·have ae:a.e=true:=ae
       have hB:B (x++⟨#[43]⟩++S (Lib.itoa a.k)++⟨#[61,48]⟩)=F1 a:=by
        unfold F1 L7 R0
        simp[u7,l9,A0J,hX,ae,A0A,M0,k0,t0,k2,le]
       have hs:S (F1 a)=x++⟨#[43]⟩++S (Lib.itoa a.k)++⟨#[61,48]⟩:=i6 (by rw[l9,hB])
       rw[hs]at h
       repeat' (first|with_reducible apply C9P|simp only[go_sem,hkd,e2p,ae,l0,l1,k0,k1]|simp(disch:=omega) only[A0,A9]|intro hx_|with_reducible refine V0 _ (by omega) (by omega) _ hTp ?_|omega)
       exact D0r (hle.trans hp) h
      ·have ae:a.e=false:=by simpa using ae
       have hB:B (x++⟨#[43]⟩++S (Lib.itoa a.k)++⟨#[62,61,48]⟩)=F1 a:=by
        unfold F1 L7 R0
        simp[u7,l9,A0J,hX,ae,A0A,M0,k0,t0,k2,le]
       have hs:S (F1 a)=x++⟨#[43]⟩++S (Lib.itoa a.k)++⟨#[62,61,48]⟩:=i6 (by rw[l9,hB])
       rw[hs]at h
       repeat' (first|with_reducible apply C9P|simp only[go_sem,hkd,e2p,ae,l0,l1,k0,k1]|simp(disch:=omega) only[A0,A9]|intro hx_|with_reducible refine V0 _ (by omega) (by omega) _ hTp ?_|omega)
       exact D0r (hle.trans hp) h
     ·have k2:a.k<0:=by omega
      by_cases ae:a.e=true
      ·have ae:a.e=true:=ae
       have hB:B (x++S (Lib.itoa a.k)++⟨#[61,48]⟩)=F1 a:=by
        unfold F1 L7 R0
        simp[u7,l9,A0J,hX,ae,A0A,M0,k0,t0,k2,le]
       have hs:S (F1 a)=x++S (Lib.itoa a.k)++⟨#[61,48]⟩:=i6 (by rw[l9,hB])
       rw[hs]at h
       repeat' (first|with_reducible apply C9P|simp only[go_sem,hkd,e2p,ae,l0,l1,k0,k1]|simp(disch:=omega) only[A0,A9]|intro hx_|with_reducible refine V0 _ (by omega) (by omega) _ hTp ?_|omega)
       exact D0r (hle.trans hp) h
      ·have ae:a.e=false:=by simpa using ae
       have hB:B (x++S (Lib.itoa a.k)++⟨#[62,61,48]⟩)=F1 a:=by
        unfold F1 L7 R0
        simp[u7,l9,A0J,hX,ae,A0A,M0,k0,t0,k2,le]
       have hs:S (F1 a)=x++S (Lib.itoa a.k)++⟨#[62,61,48]⟩:=i6 (by rw[l9,hB])
       rw[hs]at h
       repeat' (first|with_reducible apply C9P|simp only[go_sem,hkd,e2p,ae,l0,l1,k0,k1]|simp(disch:=omega) only[A0,A9]|intro hx_|with_reducible refine V0 _ (by omega) (by omega) _ hTp ?_|omega)
       exact D0r (hle.trans hp) h
 ·rw[if_neg c,if_neg c]at h
  have c:validL a=false:=by simpa using c
  repeat' (first|with_reducible apply C9P|simp only[go_sem,e2,c]|simp(disch:=omega) only[A0,A9]|intro hx_|with_reducible refine A8G a fa _ ?_|omega)
  exact D0r hle h
end Go.Proofs.YtibphjonmikciaaGreatDoor
namespace Go.Lin
open Go Go.Av Go.Lexs
theorem B6Z(l:List UInt8)(c:UInt8)(h:c∈l):Lib.indexByte l c=((l.takeWhile (· != c)).length:Int)∧(l.takeWhile (· != c)).length<l.length:=by
 induction l with
 |nil=>cases h
 |cons b l ih=>
  unfold Lib.indexByte
  by_cases e:b=c
  ·subst e;simp
  ·have e1:(b==c)=false:=by simpa using e
   have hm:c∈l:=(C9r.1 h).resolve_left (fun g=>e g.symm)
   obtain⟨i1,i2⟩:=ih hm
   have e2:(b != c)=true:=by simp[e]
   rw[e1,i1,List.takeWhile_cons,if_pos e2]
   have e3:(((l.takeWhile (· != c)).length:Int)== -1)=false:=by
    simp only[beq_eq_false_iff_ne,ne_eq];omega
   rw[e3]
   simp only[C9f,if_false,C9U]
   omega
theorem B6a(l:List UInt8)(c:UInt8)(h:c∉l):Lib.indexByte l c= -1:=by
 induction l with
 |nil=>rfl
 |cons b l ih=>
  unfold Lib.indexByte
  have e1:(b==c)=false:=by
   simp only[beq_eq_false_iff_ne,ne_eq];rintro rfl;exact h (C9a ..)
  rw[e1,ih (fun g=>h (C9h _ g))]
  rfl
theorem B9A(l:List UInt8)(p:UInt8→Bool):l.take (l.takeWhile p).length=l.takeWhile p:=by
 induction l with
 |nil=>rfl
 |cons b l ih=>rw[List.takeWhile_cons];split<;>simp[ih]
theorem B9B(l:List UInt8)(p:UInt8→Bool):l.drop (l.takeWhile p).length=l.dropWhile p:=by
 induction l with
 |nil=>rfl
 |cons b l ih=>rw[List.takeWhile_cons,List.dropWhile_cons];split<;>simp[ih]
theorem A56{l c n:List UInt8}(h:A0B l=some (c,n)):Lib.indexByte l 42=(c.length:Int)∧c.length<l.length∧l.take c.length=c∧l.drop (c.length+1)=n:=by
 unfold A0B at h
 split at h
 ·rename_i hm
  injection h with h
  have h1:l.takeWhile (· != 42)=c:=congrArg Prod.fst h
  have h2:(l.dropWhile (· != 42)).drop 1=n:=congrArg Prod.snd h
  obtain⟨i1,i2⟩:=B6Z l 42 hm
  have t:=B9A l (· != 42)
  have d:=B9B l (· != 42)
  rw[h1]at i1 i2 t d
  refine⟨i1,i2,t,?_⟩
  rw[←h2,←d,D0Z]
 ·cases h
theorem B6b{l:List UInt8}(h:A0B l=none):Lib.indexByte l 42= -1:=by
 unfold A0B at h
 split at h
 ·cases h
 ·rename_i hm;exact B6a l 42 hm
end Go.Lin
namespace Go.Proofs.YtibphjonmikciaaGreatDoor
open Go Go.Av Go.RowKit Go.Lexs Go.Lin
attribute [local irreducible] ACalls W4
theorem B2v{Q}(s:ByteArray)(H:Heap)(h:Q (.int .i64 (Lib.indexByte (B s) 42)) H):ACalls Tryz.prog 236 [.str s,.str ⟨#[42]⟩] H Q:=
 I4 (by kernel_rfl) (fun w vs hl hr hs=>by
  obtain⟨a,b,rfl,ha,hb⟩:=y0 hl hr
  rw[ha.str_inv,hb.str_inv]
  refine(Tryz.stringslite_Index_one s 42 w).mono fun e w' ⟨he,hw⟩=>?_
  subst hw
  exact⟨_,he,Below.refl _ _,.int _ _⟩) h
theorem C2r{Q}(s:ByteArray)(c n:List UInt8)(hc:A0B (B s)=some (c,n))(hsz:s.size≤1000000000000)(H:Heap)(h:Q (.tuple [.str (S c),.str (S n),.bool true]) H):ACalls Tryz.prog 216 [.str s,.str ⟨#[42]⟩] H Q:=by
 refine B2 [] B3 Tryz.func216 rfl (by kernel_rfl) (C9Q (by kernel_rfl)) (by kernel_rfl) ?_
 simp only[go_sem,Tryz.results216]
 obtain⟨h1,h2,h3,h4⟩:=A56 hc
 have hl:=Y7 s
 have z42:((⟨#[42]⟩:ByteArray).size:Int)=1:=rfl
 have hw:IntKind.i64.wrap ((c.length:Int)+((1:Nat):Int))=(c.length:Int)+1:=A0 (by omega) (by omega)
 have hk0:(0:Int)≤(c.length:Int)+1:=by omega
 have hk:(c.length:Int)≤s.size:=by omega
 have hk2:(c.length:Int)+1≤s.size:=by omega
 repeat' (first|with_reducible apply C9P|simp only[go_sem,h1,z42,hw,hk,hk2,hk0]|simp(disch:=omega) only[A0]|intro hx_|with_reducible refine B2v s _ ?_|omega)
 rw[h3,h4]
 exact D0u h
theorem C2s{Q}(s:ByteArray)(c n:List UInt8)(hc:A0B (B s)=some (c,n))(hsz:s.size≤1000000000000)(H:Heap)(h:Q (.tuple [.str (S c),.str (S n),.bool true]) H):ACalls Tryz.prog 187 [.str s,.str ⟨#[42]⟩] H Q:=by
 refine B2 [] B3 Tryz.func187 rfl (by kernel_rfl) (C9Q (by kernel_rfl)) (by kernel_rfl) ?_
 simp only[go_sem,Tryz.results187]
 repeat' (first|with_reducible apply C9P|simp only[go_sem]|intro hx_|with_reducible refine C2r s c n hc hsz _ ?_|omega)
 exact D0u h
theorem C2t{Q}(s:ByteArray)(hc:A0B (B s)=none)(H:Heap)(h:Q (.tuple [.str s,.str ⟨#[]⟩,.bool false]) H):ACalls Tryz.prog 216 [.str s,.str ⟨#[42]⟩] H Q:=by
 refine B2 [] B3 Tryz.func216 rfl (by kernel_rfl) (C9Q (by kernel_rfl)) (by kernel_rfl) ?_
 simp only[go_sem,Tryz.results216]
 have h1:=B6b hc
 repeat' (first|with_reducible apply C9P|simp only[go_sem,h1]|intro hx_|with_reducible refine B2v s _ ?_|omega)
 exact D0u h
theorem A8Q{Q}(s:ByteArray)(hc:A0B (B s)=none)(H:Heap)(h:Q (.tuple [.str s,.str ⟨#[]⟩,.bool false]) H):ACalls Tryz.prog 187 [.str s,.str ⟨#[42]⟩] H Q:=by
 refine B2 [] B3 Tryz.func187 rfl (by kernel_rfl) (C9Q (by kernel_rfl)) (by kernel_rfl) ?_
 simp only[go_sem,Tryz.results187]
 repeat' (first|with_reducible apply C9P|simp only[go_sem]|intro hx_|with_reducible refine C2t s hc _ ?_|omega)
 exact D0u h
theorem B9C{Q}(s:ByteArray)(hsz:s.size≤1000000000000)(v:Int)(hv:Lib.atoiAll (B s)= .ok v)(H:Heap)(h:Q (.tuple [.int .i64 v,.nilif]) H):ACalls Tryz.prog 188 [.str s] H Q:=
 I4 (by kernel_rfl) (fun w vs hl hr hs=>by
  obtain⟨a,rfl,ha⟩:=A1i hl hr
  rw[ha.str_inv]
  refine(Tryz.strconv_Atoi_ok s (by omega) v hv w).mono fun e w' ⟨he,hw⟩=>?_
  have hB:Below w.heap.size w w':=by
   rcases hw with rfl|⟨t,rfl⟩
   ·exact Below.refl _ _
   ·exact A9f _ _ _
  exact⟨_,he,hB,.tuple _ _ rfl fun i d hd=>(match i,hd with|0,hd=>by simp at hd;subst hd;exact .int _ _|1,hd=>by simp at hd;subst hd;exact .nilif|i+2,hd=>by simp at hd)⟩) h
theorem B0R{w:World}{H:Heap}{g t:Nat}(hs:Sat H w)(h:H g=some (.ro [.iface t .undef])): ∃v,w.cell? ⟨g,0,none⟩=some (.iface t v):=by
 obtain⟨c,T,fz,h1,h2,h3⟩:=hs g _ h
 have h4:=(h3 0 _ rfl).2
 have hz:c.size=1:=h2
 have e:w.cell? ⟨g,0,none⟩=some (c.getD 0 Go.undef):=by
  rw[U2 h1]
  have:0<c.size:=by omega
  simp[this]
 generalize c.getD 0 Go.undef=x at h4 e
 cases h4 with
 |iface _ _ v hr=>exact⟨v,e⟩
theorem B9D{Q}(s:ByteArray)(hsz:s.size≤1000000000000)(hv: ∀v,Lib.atoiAll (B s)≠ .ok v)(H:Heap)(hT:Tabs H)(h: ∀n t,Q (.tuple [.int .i64 n,.iface t .undef]) H):ACalls Tryz.prog 188 [.str s] H Q:=by
 have tp: ∀(w:World) (n:Int) (t:Nat) (v:Value),R w H (.tuple [.int .i64 n,.iface t .undef]) (.tuple #[.int .i64 n,.iface t v]):=fun w n t v=>
  .tuple _ _ rfl fun i d hd=>(match i,hd with|0,hd=>by simp at hd;subst hd;exact .int _ _|1,hd=>by simp at hd;subst hd;exact .iface _ _ _ (.undef _)|i+2,hd=>by simp at hd)
 cases hc:Lib.atoiAll (B s)with
 |ok v=>exact absurd hc (hv v)
 | «syntax» =>
  refine I4 (r:=.tuple [.int .i64 0,.iface 266 .undef]) (by kernel_rfl) (fun w vs hl hr hs=>?_) (h _ _)
  obtain⟨a,rfl,ha⟩:=A1i hl hr
  rw[ha.str_inv]
  obtain⟨t,ht⟩:=hT.syn
  obtain⟨x,hx⟩:=B0R hs ht
  refine(Tryz.strconv_Atoi_syntax s (by omega) hc _ w hx (.inr ⟨_,_,rfl⟩)).mono fun e w' ⟨N,he,_,_,hB⟩=>⟨_,he,hB,tp w' _ _ _⟩
 |range=>
  refine I4 (r:=.tuple [.int .i64 (Lib.atoiSat (B s)),.iface 266 .undef]) (by kernel_rfl) (fun w vs hl hr hs=>?_) (h _ _)
  obtain⟨a,rfl,ha⟩:=A1i hl hr
  rw[ha.str_inv]
  obtain⟨t,ht⟩:=hT.rng
  obtain⟨x,hx⟩:=B0R hs ht
  refine(Tryz.strconv_Atoi_range s (by omega) hc _ w hx (.inr ⟨_,_,rfl⟩)).mono fun e w' ⟨N,he,_,_,hB⟩=>⟨_,he,hB,tp w' _ _ _⟩
end Go.Proofs.YtibphjonmikciaaGreatDoor
end
