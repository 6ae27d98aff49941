/- LinearSums, proved: for every input the law returns true, and the arguments read as before; the listed tables hold what the program's text lays (the card). No other condition than the row's own. -/
import Derived.Test.YtacekpdodelnbaaGreatDoorProg
import Derived.Test.YtacekpdodelnbaaGreatDoorCards
import Derived.Test.YtacekpdodelnbaaGreatDoorTie
import Derived.Test.YtacekpdodelnbaaGreatDoorK6
set_option linter.unusedSimpArgs false
set_option linter.unusedVariables false
section
namespace Go.Av
section
variable {P:Program} {Z:List (Nat×Rc)} {Q:AX→Env→Heap→Prop} {E:Env} {H:Heap} {K:Env→Heap→Prop} {gs:List (Option Nat)} {l:List Oper} {KD:D→Heap→Prop} {ev:Operand→D} {bl:List Nat}
theorem ord_mk{gs:List (Option Nat)}{ops:List Oper}{perm:List Nat}(bl:List Nat)(h:wpG P bl K (perm.map (pickO ops)) E H):raceK P gs ops K E H (some (.ord perm)):=⟨bl,h⟩
def notLoad:Op→Bool
 | .load .. =>false
 |_=>true
theorem cls_load{op:Op}(h:cls P op= .load):notLoad op=false:=by
 cases op
 case load=>rfl
 case convert s t x=>simp only[cls]at h;split at h<;>cases h
 case call cc=>
  obtain⟨c,as_,ts⟩:=cc
  cases c with
  |builtin b=>
   cases b<;>simp only[cls]at h<;>first|cases h|(split at h<;>cases h)
  |_=>simp[cls]at h
 all_goals (simp[cls]at h)
theorem g_op(bl:List Nat)(l:List (Option Oper))(dst:Option Nat)(op:Op)(ty:Nat)(pos:String)(after:Array Edge)(gd:Option (Nat×Bool))(h:notLoad op=true):
  wpG P bl K (some ⟨dst,op,ty,pos,after,gd⟩::l) E H=wpOp P E.ev H (gK P bl K l dst E H) op:=by
 have hc:cls P op≠ .load:=fun g=>by rw[cls_load g]at h;cases h
 show ((cls P op= .load→_)∧_)=_
 simp only[hc,false_implies,true_and];rfl
@[go_sem] theorem g_move(x:Operand)(bl:List Nat)(l:List (Option Oper))(dst:Option Nat)(ty:Nat)(pos:String)(after:Array Edge)(gd:Option (Nat×Bool)):wpG P bl K (some ⟨dst,.move x,ty,pos,after,gd⟩::l) E H=wpOp P E.ev H (gK P bl K l dst E H) (.move x):=g_op _ _ _ _ _ _ _ _ rfl
@[go_sem] theorem g_assign(x:Operand)(bl:List Nat)(l:List (Option Oper))(dst:Option Nat)(ty:Nat)(pos:String)(after:Array Edge)(gd:Option (Nat×Bool)):wpG P bl K (some ⟨dst,.assign x,ty,pos,after,gd⟩::l) E H=wpOp P E.ev H (gK P bl K l dst E H) (.assign x):=g_op _ _ _ _ _ _ _ _ rfl
@[go_sem] theorem g_slice(t:Nat)(x:Operand)(lo hi mx:Option Operand)(bl:List Nat)(l:List (Option Oper))(dst:Option Nat)(ty:Nat)(pos:String)(after:Array Edge)(gd:Option (Nat×Bool)):wpG P bl K (some ⟨dst,.slice t x lo hi mx,ty,pos,after,gd⟩::l) E H=wpOp P E.ev H (gK P bl K l dst E H) (.slice t x lo hi mx):=g_op _ _ _ _ _ _ _ _ rfl
@[go_sem] theorem g_call(c:Call)(bl:List Nat)(l:List (Option Oper))(dst:Option Nat)(ty:Nat)(pos:String)(after:Array Edge)(gd:Option (Nat×Bool)):wpG P bl K (some ⟨dst,.call c,ty,pos,after,gd⟩::l) E H=wpOp P E.ev H (gK P bl K l dst E H) (.call c):=g_op _ _ _ _ _ _ _ _ rfl
@[go_sem] theorem g_bs(t n:Nat)(ps:Array (Nat×Operand))(bl:List Nat)(l:List (Option Oper))(dst:Option Nat)(ty:Nat)(pos:String)(after:Array Edge)(gd:Option (Nat×Bool)):wpG P bl K (some ⟨dst,.buildSlice t n ps,ty,pos,after,gd⟩::l) E H=wpOp P E.ev H (gK P bl K l dst E H) (.buildSlice t n ps):=g_op _ _ _ _ _ _ _ _ rfl
attribute [go_sem low] condA_bool
attribute [go_sem low] guardK_bool
attribute [go_sem low] guardF_bool
variable {sx:Bool} {bl:List Nat}
variable {t:Nat} {c:Bool} {k:IntKind} {a b:Int}
variable {t:Nat}
end
theorem at8_nat(s:ByteArray)(k:Nat):at8 s k=nth (B s) k:=rfl
end Go.Av
end
section
namespace Go.Proofs
open Go.Av
@[go_sem] theorem Tryz.zero9:zeroD Tryz.prog 9=some [.str ⟨#[]⟩]:=by kernel_rfl
end Go.Proofs
end
section
namespace Go.Lin
open Go Go.Av Go.Lexs
theorem coefL_none{l:List LTm}{s:ByteArray}(h: ∀t∈l,t.v≠s):coefL l s=0:=by
 induction l with
 |nil=>rfl
 |cons t l ih=>rw[coefL,if_neg (h t (List.mem_cons_self ..)),ih (fun x hx=>h x (List.mem_cons_of_mem _ hx))]
end Go.Lin
end
section
set_option maxRecDepth 20000
namespace Go.Proofs.YtacekpdodelnbaaGreatDoor
open Go Go.Av Go.Lexs Go.Lin
attribute [local irreducible] ACalls at8
theorem rName_a{Q}(s:ByteArray)(hs:s.size≤4611686018427387904)(H:Heap)(h:Q (.bool (nameB (B s))) H):ACalls Tryz.prog 39 [.str s] H Q:=by
 refine acalls_of_wp [] Tryz.mixed Tryz.func39 rfl (by kernel_rfl) (of_decide_eq_true (by kernel_rfl)) (by kernel_rfl) ?_
 simp only[go_sem,seval,Tryz.results39]
 have hl:=B_len s
 have hd0:at8 s 0=nth (B s) 0:=at8_zero s
 refine loop_c [0] (fun(i:Nat)=>[(3,.int .i64 i)]) (fun(i:Nat)=>H) (fun(i:Nat)=>i≤s.size∧((B s).take i).all (ofB nameC)=true) (fun(i:Nat)=>s.size-i) (0) (⟨Nat.zero_le _,by simp⟩) (by(try simp only[go_sem,seval])<;>(try simp(disch:=omega) [wrap64])<;>(try omega)) (Heap.Le.refl _) ?_
 rintro Ec rfl i ⟨hi,hall⟩
 by_cases hlt:i<s.size
 ·have hkd:decide ((i:Int)<s.size)=true:=decide_eq_true (by omega)
  have hki:(i:Int)<s.size:=by omega
  have hlb:i<(B s).length:=by omega
  obtain⟨x,hx⟩: ∃x,x=nth (B s) i:=⟨_,rfl⟩
  have hat:at8 s (i:Int)=x:=by rw[hx];exact at8_nat s i
  by_cases c4:nameC x=true
  ·have c:=(nameC_iff x).1 c4
   obtain⟨d1,d2,d3,d4,d5,d6,d7,d8⟩:=c
   have d1': ¬x<33:=by omega
   have d2': ¬126<x:=by omega
   repeat' (first|with_reducible apply And.intro|simp only[go_sem,seval,hkd,hki,hat,d1',d2',d3,d4,d5,d6,d7,d8,decide_false]|simp(disch:=omega) only[wrap64]|intro hx_|omega)
   exact nx_mk (i+1) ⟨by omega,by rw[all_take_succ _ _ _ hlb,hall,←hx,c4];rfl⟩ (by omega) (by(try simp only[go_sem,seval])<;>(try simp(disch:=omega) [wrap64])<;>(try omega)) (Heap.Le.refl _)
  ·have c5:nameC x=false:=by simpa using c4
   have hf:nameB (B s)=false:=by
    unfold nameB
    rw[all_false_of nameC (B s) i hlb (by rw[←hx];exact c5),Bool.and_false]
   rw[hf]at h
   have hor:x<33∨126<x∨x=43∨x=45∨x=42∨x=60∨x=62∨x=61:=by
    have:=mt (nameC_iff x).2 c4;omega
   rcases hor with g|g|g
   ·repeat' (first|with_reducible apply And.intro|simp only[go_sem,seval,hkd,hki,hat,g,decide_true]|simp(disch:=omega) only[wrap64]|intro hx_|omega)
    exact Fin.same h
   ·have g0: ¬x<33:=by omega
    repeat' (first|with_reducible apply And.intro|simp only[go_sem,seval,hkd,hki,hat,g0,g,decide_true,decide_false]|simp(disch:=omega) only[wrap64]|intro hx_|omega)
    exact Fin.same h
   ·rcases g with g|g|g|g|g|g<;>rw[g]at hat
    all_goals
     repeat' (first|with_reducible apply And.intro|simp only[go_sem,seval,hkd,hki,hat,decide_true,decide_false]|simp(disch:=omega) only[wrap64]|intro hx_|omega)
     exact Fin.same h
 ·have hkd:decide ((i:Int)<s.size)=false:=decide_eq_false (by omega)
  rw[List.take_of_length_le (by omega)]at hall
  have hnb:nameB (B s)=(decide (B s≠[])&&decide ((B s).length≤200)&& !digitI (nth (B s) 0)):=by unfold nameB;rw[hall,Bool.and_true]
  rw[hnb]at h
  by_cases v1:B s= []
  ·have vs:s.size=0:=by rw[←hl,v1];rfl
   have e:(decide (B s≠[])&&decide ((B s).length≤200)&& !digitI (nth (B s) 0))=false:=by rw[decide_eq_false (by simpa using v1)];rfl
   rw[e]at h
   have vsi: ¬((1:Int)≤s.size):=by omega
   repeat' (first|with_reducible apply And.intro|simp only[go_sem,seval,hkd,vsi,decide_false]|simp(disch:=omega) only[wrap64]|intro hx_|omega)
   all_goals exact Fin.same h
  ·have vs:0<s.size:=by have:=List.length_pos_iff.2 v1;omega
   have vsi:(1:Int)≤s.size:=by omega
   have vs0:(0:Int)<s.size:=by omega
   rw[decide_eq_true (show B s≠[]from v1)]at h
   by_cases v2:(s.size:Int)≤200
   ·rw[decide_eq_true (show (B s).length≤200 by omega)]at h
    by_cases q1:nth (B s) 0<48
    ·have e:digitI (nth (B s) 0)=false:=by rw[←Bool.not_eq_true,digitI_iff];omega
     rw[e]at h
     repeat' (first|with_reducible apply And.intro|simp only[go_sem,seval,hkd,vsi,vs0,v2,hd0,q1,decide_true]|simp(disch:=omega) only[wrap64]|intro hx_|omega)
     all_goals exact Fin.same h
    ·have e:digitI (nth (B s) 0)= !decide (57<nth (B s) 0):=by
      by_cases q2:57<nth (B s) 0
      ·rw[decide_eq_true q2];rw[show (!true)=false from rfl,←Bool.not_eq_true,digitI_iff];omega
      ·rw[decide_eq_false q2];rw[show (!false)=true from rfl,digitI_iff];omega
     rw[e]at h
     repeat' (first|with_reducible apply And.intro|simp only[go_sem,seval,hkd,vsi,vs0,v2,hd0,q1,decide_true,decide_false]|simp(disch:=omega) only[wrap64]|intro hx_|omega)
     all_goals exact Fin.same (by simpa using h)
   ·rw[decide_eq_false (show¬(B s).length≤200 by omega)]at h
    repeat' (first|with_reducible apply And.intro|simp only[go_sem,seval,hkd,vsi,v2,decide_true,decide_false]|simp(disch:=omega) only[wrap64]|intro hx_|omega)
    all_goals exact Fin.same h
theorem rValid_a{Q}(a:LinV)(fa:LinFit a)(H:Heap)(h:Q (.bool (validL a)) H):ACalls Tryz.prog 16 [.agg (linC a)] H Q:=by
 refine acalls_of_wp [] Tryz.mixed Tryz.func16 rfl (by kernel_rfl) (of_decide_eq_true (by kernel_rfl)) (by kernel_rfl) ?_
 simp only[go_sem,seval,Tryz.results16]
 intro b1 hb1
 have e1:(H.set b1 (.box (linC a))) b1=some (.box (linC a)):=heap_same _ _
 have hle:H.Le (H.set b1 (.box (linC a))):=heap_le_set hb1
 generalize H.set b1 (.box (linC a))=Bs at e1 hle⊢
 have hlen:=fa.len
 by_cases c1:(12:Int)<a.t.length
 ·have hv:validL a=false:=by unfold validL;rw[decide_eq_false (show¬a.t.length≤12 by omega)];simp
  rw[hv]at h
  repeat' (first|with_reducible apply And.intro|simp only[go_sem,seval,e1,c1,decide_true]|simp(disch:=omega) only[wrap64,Rw_at]|simp(disch:=first|omega|grind) only[heap_ne_]|intro hx_|omega)
  exact Fin.less hle h
 by_cases c2:a.k< -1099511627776
 ·have hv:validL a=false:=by unfold validL within;rw[decide_eq_false (show¬ -1099511627776≤a.k by omega)];simp
  rw[hv]at h
  repeat' (first|with_reducible apply And.intro|simp only[go_sem,seval,e1,c1,c2,decide_true,decide_false]|simp(disch:=omega) only[wrap64,Rw_at]|simp(disch:=first|omega|grind) only[heap_ne_]|intro hx_|omega)
  exact Fin.less hle h
 by_cases c3:1099511627776<a.k
 ·have hv:validL a=false:=by unfold validL within;rw[decide_eq_false (show¬a.k≤1099511627776 by omega)];simp
  rw[hv]at h
  repeat' (first|with_reducible apply And.intro|simp only[go_sem,seval,e1,c1,c2,c3,decide_true,decide_false]|simp(disch:=omega) only[wrap64,Rw_at]|simp(disch:=first|omega|grind) only[heap_ne_]|intro hx_|omega)
  exact Fin.less hle h
 repeat' (first|with_reducible apply And.intro|simp only[go_sem,seval,e1,c1,c2,c3,decide_true,decide_false]|simp(disch:=omega) only[wrap64,Rw_at]|simp(disch:=first|omega|grind) only[heap_ne_]|intro hx_|omega)
 refine loop_c [1,20,21] (fun(i:Nat)=>[(22,.int .i64 i)]) (fun(i:Nat)=>Bs) (fun(i:Nat)=>i≤a.t.length∧(List.range i).all (okAt a.t)=true) (fun(i:Nat)=>a.t.length-i) (0) (⟨Nat.zero_le _,rfl⟩) (by(try simp only[go_sem,seval])<;>(try simp(disch:=omega) [wrap64])<;>(try omega)) (Heap.Le.refl _) ?_
 rintro Ec rfl i ⟨hi,hall⟩
 by_cases hlt:i<a.t.length
 ·have hkd:decide ((i:Int)<a.t.length)=true:=decide_eq_true (by omega)
  have hti:(i:Int)<a.t.length:=by omega
  have hco:=fa.co _ (List.getElem_mem hlt)
  have hst:a.t[i].v.size≤4611686018427387904:=by have:=fa.str _ (List.getElem_mem hlt);omega
  have e:a.t.getD i default=a.t[i]:=by simp[hlt]
  have e2: ∀hj:i-1<a.t.length,a.t.getD (i-1) default=a.t[i-1]:=fun hj=>by simp[hj]
  have hok:okAt a.t i=(nameB (B a.t[i].v)&&(decide (i=0)||ltS (a.t.getD (i-1) default).v a.t[i].v)&&decide (a.t[i].c≠0)&&within a.t[i].c 1048576):=by unfold okAt;rw[e]
  have bad:okAt a.t i=false→validL a=false:=fun g=>by
   unfold validL termsOk
   have:(List.range a.t.length).all (okAt a.t)=false:=by rw[List.all_eq_false];exact⟨i,List.mem_range.2 hlt,by rw[g];decide⟩
   rw[this];rfl
  by_cases n1:nameB (B a.t[i].v)=true
  ·by_cases c0:a.t[i].c=0
   ·rw[bad (by rw[hok,c0];simp)]at h
    repeat' (first|with_reducible apply And.intro|simp only[go_sem,seval,hkd,e1,n1,Rw_at _ _ hlt,Rw_get _ _ hlt,c0,Bool.not_true,Bool.not_false,decide_true,decide_false]|simp(disch:=omega) only[wrap64,Rw_at]|simp(disch:=first|omega|grind) only[heap_ne_]|intro hx_|with_reducible refine rName_a _ hst _ ?_|omega)
    exact Fin.less (by simp only[Go.Av.Heap.Le,Go.Av.Heap.set,Go.Av.Heap.del]at* <;>grind) h
   ·by_cases w1:a.t[i].c< -1048576
    ·rw[bad (by rw[hok];unfold within;rw[decide_eq_false (show¬ -1048576≤a.t[i].c by omega)];simp)]at h
     repeat' (first|with_reducible apply And.intro|simp only[go_sem,seval,hkd,e1,n1,Rw_at _ _ hlt,Rw_get _ _ hlt,c0,w1,Bool.not_true,Bool.not_false,decide_true,decide_false]|simp(disch:=omega) only[wrap64,Rw_at]|simp(disch:=first|omega|grind) only[heap_ne_]|intro hx_|with_reducible refine rName_a _ hst _ ?_|omega)
     exact Fin.less (by simp only[Go.Av.Heap.Le,Go.Av.Heap.set,Go.Av.Heap.del]at* <;>grind) h
    ·by_cases w2:1048576<a.t[i].c
     ·rw[bad (by rw[hok];unfold within;rw[decide_eq_false (show¬a.t[i].c≤1048576 by omega)];simp)]at h
      repeat' (first|with_reducible apply And.intro|simp only[go_sem,seval,hkd,e1,n1,Rw_at _ _ hlt,Rw_get _ _ hlt,c0,w1,w2,Bool.not_true,Bool.not_false,decide_true,decide_false]|simp(disch:=omega) only[wrap64,Rw_at]|simp(disch:=first|omega|grind) only[heap_ne_]|intro hx_|with_reducible refine rName_a _ hst _ ?_|omega)
      exact Fin.less (by simp only[Go.Av.Heap.Le,Go.Av.Heap.set,Go.Av.Heap.del]at* <;>grind) h
     ·have w:within a.t[i].c 1048576=true:=by unfold within;rw[decide_eq_true (show-1048576≤a.t[i].c by omega),decide_eq_true (show a.t[i].c≤1048576 by omega)];rfl
      by_cases n2:i=0
      ·have z0: ¬((0:Int)<i):=by omega
       have okt:okAt a.t i=true:=by rw[hok,n1,w,decide_eq_true n2,decide_eq_true (show a.t[i].c≠0 from c0)];rfl
       repeat' (first|with_reducible apply And.intro|simp only[go_sem,seval,hkd,e1,n1,Rw_at _ _ hlt,Rw_get _ _ hlt,c0,w1,w2,z0,Bool.not_true,Bool.not_false,decide_true,decide_false]|simp(disch:=omega) only[wrap64,Rw_at]|simp(disch:=first|omega|grind) only[heap_ne_]|intro hx_|with_reducible refine rName_a _ hst _ ?_|omega)
       exact nx_mk (i+1) ⟨by omega,by rw[List.range_succ,List.all_append,hall];simp[okt]⟩ (by omega) (by(try simp only[go_sem,seval])<;>(try simp(disch:=omega) [wrap64])<;>(try omega)) (by simp only[Go.Av.Heap.Le,Go.Av.Heap.set,Go.Av.Heap.del]at* <;>grind)
      ·have hj:i-1<a.t.length:=by omega
       have z0:(0:Int)<i:=by omega
       have ek:(i:Int)-1=((i-1:Nat):Int):=by omega
       have hji:((i-1:Nat):Int)<a.t.length:=by omega
       by_cases l:ltS a.t[i-1].v a.t[i].v=true
       ·have lb:Op.bytesLess a.t[i-1].v.data.toList a.t[i].v.data.toList=true:=l
        have okt:okAt a.t i=true:=by rw[hok,n1,w,e2 hj,l,Bool.or_true,decide_eq_true (show a.t[i].c≠0 from c0)];rfl
        repeat' (first|with_reducible apply And.intro|simp only[go_sem,seval,hkd,e1,n1,Rw_at _ _ hlt,Rw_get _ _ hlt,c0,w1,w2,z0,ek,hji,Rw_at _ _ hj,Rw_get _ _ hj,bs_geq,lb,Bool.not_true,Bool.not_false,decide_true,decide_false]|simp(disch:=omega) only[wrap64,Rw_at]|simp(disch:=first|omega|grind) only[heap_ne_]|intro hx_|with_reducible refine rName_a _ hst _ ?_|omega)
        exact nx_mk (i+1) ⟨by omega,by rw[List.range_succ,List.all_append,hall];simp[okt]⟩ (by omega) (by(try simp only[go_sem,seval])<;>(try simp(disch:=omega) [wrap64])<;>(try omega)) (by simp only[Go.Av.Heap.Le,Go.Av.Heap.set,Go.Av.Heap.del]at* <;>grind)
       ·have l:ltS a.t[i-1].v a.t[i].v=false:=by simpa using l
        have lb:Op.bytesLess a.t[i-1].v.data.toList a.t[i].v.data.toList=false:=l
        rw[bad (by rw[hok,n1,e2 hj,l,decide_eq_false n2];rfl)]at h
        repeat' (first|with_reducible apply And.intro|simp only[go_sem,seval,hkd,e1,n1,Rw_at _ _ hlt,Rw_get _ _ hlt,c0,w1,w2,z0,ek,hji,Rw_at _ _ hj,Rw_get _ _ hj,bs_geq,lb,Bool.not_true,Bool.not_false,decide_true,decide_false]|simp(disch:=omega) only[wrap64,Rw_at]|simp(disch:=first|omega|grind) only[heap_ne_]|intro hx_|with_reducible refine rName_a _ hst _ ?_|omega)
        exact Fin.less (by simp only[Go.Av.Heap.Le,Go.Av.Heap.set,Go.Av.Heap.del]at* <;>grind) h
  ·have n1:nameB (B a.t[i].v)=false:=by simpa using n1
   rw[bad (by rw[hok,n1];rfl)]at h
   repeat' (first|with_reducible apply And.intro|simp only[go_sem,seval,hkd,e1,n1,Rw_at _ _ hlt,Rw_get _ _ hlt,Bool.not_true,Bool.not_false,decide_true,decide_false]|simp(disch:=omega) only[wrap64,Rw_at]|simp(disch:=first|omega|grind) only[heap_ne_]|intro hx_|with_reducible refine rName_a _ hst _ ?_|omega)
   exact Fin.less (by simp only[Go.Av.Heap.Le,Go.Av.Heap.set,Go.Av.Heap.del]at* <;>grind) h
 ·have hkd:decide ((i:Int)<a.t.length)=false:=decide_eq_false (by omega)
  have hie:i=a.t.length:=by omega
  subst hie
  have hv:validL a=true:=by
   unfold validL termsOk within
   rw[hall,decide_eq_true (show a.t.length≤12 by omega),decide_eq_true (show-1099511627776≤a.k by omega),decide_eq_true (show a.k≤1099511627776 by omega)];rfl
  rw[hv]at h
  repeat' (first|with_reducible apply And.intro|simp only[go_sem,seval,hkd,e1]|simp(disch:=omega) only[wrap64,Rw_at]|simp(disch:=first|omega|grind) only[heap_ne_]|intro hx_|omega)
  exact Fin.less hle h
end Go.Proofs.YtacekpdodelnbaaGreatDoor
namespace Go.Lin
open Go Go.Av Go.Lexs
theorem coefL_take{l:List LTm}{s:ByteArray}{i:Nat}(hi:i<l.length)(h: ∀(k:Nat) (hk:k<l.length),k<i→l[k].v≠s)(e:l[i].v=s):coefL l s=l[i].c:=by
 induction l generalizing i with
 |nil=>simp at hi
 |cons t l ih=>
  cases i with
  |zero=>simp only[List.getElem_cons_zero]at e;simp[coefL,e]
  |succ i=>
   have h0:=h 0 (by simp) (by omega)
   simp only[List.getElem_cons_zero]at h0
   simp only[coefL,if_neg h0,List.getElem_cons_succ]at e⊢
   exact ih (by simpa using hi) (fun k hk hki=>by have:=h (k+1) (by simpa using hk) (by omega);simpa using this) e
theorem coefL_all{l:List LTm}{s:ByteArray}(h: ∀(k:Nat) (hk:k<l.length),l[k].v≠s):coefL l s=0:=
 coefL_none fun t ht=>by obtain⟨k,hk,rfl⟩:=List.mem_iff_getElem.1 ht;exact h k hk
end Go.Lin
namespace Go.Proofs.YtacekpdodelnbaaGreatDoor
open Go Go.Av Go.Lexs Go.Lin
attribute [local irreducible] ACalls at8
theorem coef_a{Q}(a:LinV)(fa:LinFit a)(s:ByteArray)(H:Heap)(h:Q (.int .i64 (coefL a.t s)) H):ACalls Tryz.prog 59 [.agg (linC a),.str s] H Q:=by
 refine acalls_of_wp [] Tryz.mixed Tryz.func59 rfl (by kernel_rfl) (of_decide_eq_true (by kernel_rfl)) (by kernel_rfl) ?_
 simp only[go_sem,seval,Tryz.results59]
 intro b1 hb1
 have e1:(H.set b1 (.box (linC a))) b1=some (.box (linC a)):=heap_same _ _
 have hle:H.Le (H.set b1 (.box (linC a))):=heap_le_set hb1
 generalize H.set b1 (.box (linC a))=Bs at e1 hle⊢
 have hlen:=fa.len
 repeat' (first|with_reducible apply And.intro|simp only[go_sem,seval,e1]|simp(disch:=omega) only[wrap64,Rw_at]|intro hx_|omega)
 refine loop_c [1,8,9] (fun(i:Nat)=>[(10,.int .i64 i)]) (fun(i:Nat)=>Bs) (fun(i:Nat)=>i≤a.t.length∧∀(k:Nat) (hk:k<a.t.length),k<i→a.t[k].v≠s) (fun(i:Nat)=>a.t.length-i) (0) (⟨Nat.zero_le _,fun _ _ h=>by omega⟩) (by(try simp only[go_sem,seval])<;>(try simp(disch:=omega) [wrap64])<;>(try omega)) (Heap.Le.refl _) ?_
 rintro Ec rfl i ⟨hi,hall⟩
 by_cases hlt:i<a.t.length
 ·have hkd:decide ((i:Int)<a.t.length)=true:=decide_eq_true (by omega)
  have hti:(i:Int)<a.t.length:=by omega
  by_cases c:a.t[i].v=s
  ·have cb:decide (B a.t[i].v=B s)=true:=decide_eq_true (by rw[c])
   rw[coefL_take hlt hall c]at h
   repeat' (first|with_reducible apply And.intro|simp only[go_sem,seval,hkd,e1,Rw_at _ _ hlt,Rw_get _ _ hlt,cb]|simp(disch:=omega) only[wrap64,Rw_at]|intro hx_|omega)
   exact Fin.less (by simp only[Go.Av.Heap.Le,Go.Av.Heap.set,Go.Av.Heap.del]at* <;>grind) h
  ·have cb:decide (B a.t[i].v=B s)=false:=decide_eq_false fun g=>c (B_inj g)
   repeat' (first|with_reducible apply And.intro|simp only[go_sem,seval,hkd,e1,Rw_at _ _ hlt,Rw_get _ _ hlt,cb]|simp(disch:=omega) only[wrap64,Rw_at]|intro hx_|omega)
   exact nx_mk (i+1) ⟨by omega,fun k hk hki=>(Nat.lt_or_ge k i).elim (fun g=>hall k hk g) (fun g=>by have:k=i:=(by omega);subst this;exact c)⟩ (by omega) (by(try simp only[go_sem,seval])<;>(try simp(disch:=omega) [wrap64])<;>(try omega)) (by simp only[Go.Av.Heap.Le,Go.Av.Heap.set,Go.Av.Heap.del]at* <;>grind)
 ·have hkd:decide ((i:Int)<a.t.length)=false:=decide_eq_false (by omega)
  rw[coefL_all fun k hk=>hall k hk (by omega)]at h
  repeat' (first|with_reducible apply And.intro|simp only[go_sem,seval,hkd,e1]|simp(disch:=omega) only[wrap64,Rw_at]|intro hx_|omega)
  exact Fin.less (by simp only[Go.Av.Heap.Le,Go.Av.Heap.set,Go.Av.Heap.del]at* <;>grind) h
theorem rGcd_a{Q}(x y:Nat)(h0:x≤9223372036854775807)(h1:y≤9223372036854775807)(H:Heap)(h:Q (.int .i64 ((Nat.gcd x y:Nat):Int)) H):ACalls Tryz.prog 66 [.int .i64 (x:Int),.int .i64 (y:Int)] H Q:=by
 refine acalls_of_wp [] Tryz.mixed Tryz.func66 rfl (by kernel_rfl) (of_decide_eq_true (by kernel_rfl)) (by kernel_rfl) ?_
 simp only[go_sem,seval,Tryz.results66]
 refine loop_c [] (fun(p:Nat×Nat)=>[(0,.int .i64 p.1),(1,.int .i64 p.2)]) (fun(p:Nat×Nat)=>H) (fun(p:Nat×Nat)=>Nat.gcd p.1 p.2=Nat.gcd x y) (fun(p:Nat×Nat)=>p.2) ((x,y)) (rfl) (by(try simp only[go_sem,seval])<;>(try simp(disch:=omega) [wrap64])<;>(try omega)) (Heap.Le.refl _) ?_
 rintro Ec rfl ⟨a,b⟩ hg
 by_cases hb:(0:Int)<b
 ·have hb0: ¬(b:Int)=0:=by omega
  have e:((a:Int).tmod b)=((a % b:Nat):Int):=by rw[Int.ofNat_tmod]
  repeat' (first|with_reducible apply And.intro|simp only[go_sem,seval,hb,hb0,e,decide_true,if_false]|intro hx_|omega)
  exact nx_mk (b,a % b) (by rw[←hg];show Nat.gcd b (a % b)=Nat.gcd a b;rw[Nat.gcd_comm b,←Nat.gcd_rec,Nat.gcd_comm]) (Nat.mod_lt _ (by omega)) (by(try simp only[go_sem,seval])<;>(try simp(disch:=omega) [wrap64])<;>(try omega)) (by simp only[Go.Av.Heap.Le,Go.Av.Heap.set,Go.Av.Heap.del]at* <;>grind)
 ·have hz:b=0:=by omega
  subst hz
  rw[←hg]at h
  simp only[Nat.gcd_zero_right]at h
  repeat' (first|with_reducible apply And.intro|simp only[go_sem,seval,hb,decide_false]|intro hx_|omega)
  exact Fin.same h
theorem rDown_a{Q}(p q:Int)(hp: -9223372036854775807<p)(hp2:p≤9223372036854775807)(h0:0<q)(H:Heap)(h:Q (.int .i64 (p.fdiv q)) H):ACalls Tryz.prog 68 [.int .i64 p,.int .i64 q] H Q:=by
 refine acalls_of_wp [] Tryz.mixed Tryz.func68 rfl (by kernel_rfl) (of_decide_eq_true (by kernel_rfl)) (by kernel_rfl) ?_
 simp only[go_sem,seval,Tryz.results68]
 have hq: ¬q=0:=by omega
 obtain⟨t1,t2⟩:=tdiv_in (q:=q) (by omega: -9223372036854775807≤p) hp2
 rw[←quo_floor p q h0]at h
 have w1:IntKind.i64.wrap (p.tdiv q)=p.tdiv q:=wrap64 (by omega) (by omega)
 have w2:IntKind.i64.wrap (p.tdiv q-1)=p.tdiv q-1:=wrap64 (by omega) (by omega)
 by_cases c:p.tmod q<0
 ·rw[if_pos c]at h
  repeat' (first|with_reducible apply And.intro|simp only[go_sem,seval,hq,c,w1,w2,decide_true,if_false]|simp(disch:=omega) only[wrap64]|intro hx_|omega)
  exact Fin.same h
 ·rw[if_neg c]at h
  repeat' (first|with_reducible apply And.intro|simp only[go_sem,seval,hq,c,w1,decide_false,if_false]|simp(disch:=omega) only[wrap64]|intro hx_|omega)
  exact Fin.same h
theorem size_a{Q}(n:Int)(h0: -9223372036854775807≤n)(h1:n≤9223372036854775807)(H:Heap)(h:Q (.int .i64 ((n.natAbs:Nat):Int)) H):ACalls Tryz.prog 67 [.int .i64 n] H Q:=by
 refine acalls_of_wp [] Tryz.mixed Tryz.func67 rfl (by kernel_rfl) (of_decide_eq_true (by kernel_rfl)) (by kernel_rfl) ?_
 simp only[go_sem,seval,Tryz.results67]
 have w:IntKind.i64.wrap (0-n)= -n:=by rw[wrap64 (by omega) (by omega)];omega
 have e:(if n< -n then-n else n)=((n.natAbs:Nat):Int):=by split<;>omega
 repeat' (first|with_reducible apply And.intro|simp only[go_sem,seval,w,e]|simp(disch:=omega) only[wrap64]|intro hx_|omega)
 exact Fin.same h
theorem told_a{Q}(a:LinV)(fa:LinFit a)(H:Heap)(h:Q (.tuple [.agg (linC (limitedL a).1),.int .i64 (limitedL a).2]) H):ACalls Tryz.prog 60 [.agg (linC a)] H Q:=by
 refine acalls_of_wp [] Tryz.mixed Tryz.func60 rfl (by kernel_rfl) (of_decide_eq_true (by kernel_rfl)) (by kernel_rfl) ?_
 simp only[go_sem,seval,Tryz.results60]
 intro b1 hb1
 have e1:(H.set b1 (.box (linC a))) b1=some (.box (linC a)):=heap_same _ _
 have hle:H.Le (H.set b1 (.box (linC a))):=heap_le_set hb1
 generalize H.set b1 (.box (linC a))=Bs at e1 hle⊢
 by_cases c:validL a=true
 ·have el:limitedL a=(a,0):=if_pos c
  rw[el]at h
  repeat' (first|with_reducible apply And.intro|simp only[go_sem,seval,e1,c]|simp(disch:=first|omega|grind) only[heap_ne_]|intro hx_|with_reducible refine rValid_a a fa _ ?_|omega)
  exact Fin.less (by simp only[Go.Av.Heap.Le,Go.Av.Heap.set,Go.Av.Heap.del]at* <;>grind) h
 ·have el:limitedL a=(nilL,3):=if_neg c
  rw[el]at h
  have c:validL a=false:=by simpa using c
  repeat' (first|with_reducible apply And.intro|simp only[go_sem,seval,e1,c]|simp(disch:=first|omega|grind) only[heap_ne_]|intro hx_|with_reducible refine rValid_a a fa _ ?_|omega)
  exact Fin.nilR (nil_lin 0 3 false) (Fin.less (by simp only[Go.Av.Heap.Le,Go.Av.Heap.set,Go.Av.Heap.del]at* <;>grind) h)
end Go.Proofs.YtacekpdodelnbaaGreatDoor
namespace Go.Lin
open Go Go.Av Go.Lexs
theorem nameT_len(l:List LinV)(i j:Nat)(h:i<l.length):(nameT l i j).length≤(namesL l).length:=by
 have e:namesL l=namesL (l.take i)++(l[i].t.map (·.v)++namesL (l.drop (i+1))):=by
  unfold namesL
  conv=>lhs;rw[←List.take_append_drop i l,List.drop_eq_getElem_cons h]
  rw[List.flatMap_append,List.flatMap_cons]
 rw[e]
 unfold nameT
 rw[show l.getD i default=l[i]by simp[h]]
 simp only[List.length_append,List.length_map,List.length_take]
 omega
end Go.Lin
namespace Go.Proofs.YtacekpdodelnbaaGreatDoor
open Go Go.Av Go.Lexs Go.Lin
attribute [local irreducible] ACalls at8
theorem rTimes_o{Q}(a:LinV)(fa:LinFit a)(n:Int)(hk:(a.k*n).natAbs≤4611686018427387904)(ht: ∀t∈a.t,(t.c*n).natAbs≤4611686018427387904)(H:Heap)
  (h: ∀ob:Option Nat,(ob=none→Rw ltC (timesL a n).t= [])→(∀b,ob=some b→H b=none)→Q (.agg [outG 2 (timesL a n).t.length ob,.int .i64 (a.k*n),.bool a.e]) (putB H 2 (Rw ltC (timesL a n).t) ob)):
  ACalls Tryz.prog 62 [.agg (linC a),.int .i64 n] H Q:=by
 refine acalls_of_wp [] Tryz.mixed Tryz.func62 rfl (by kernel_rfl) (of_decide_eq_true (by kernel_rfl)) (by kernel_rfl) ?_
 simp only[go_sem,seval,Tryz.results62]
 intro b2 g2 b4 g4
 simp only[set_none]at g4
 have e2:((H.set b2 (.box (linC a))).set b4 (.box [.nilsl,.int .i64 0,.bool false])) b2=some (.box (linC a)):=by rw[heap_ne _ g4.1.symm,heap_same]
 have e4:((H.set b2 (.box (linC a))).set b4 (.box [.nilsl,.int .i64 0,.bool false])) b4=some (.box [.nilsl,.int .i64 0,.bool false]):=heap_same _ _
 have hle:H.Le ((H.set b2 (.box (linC a))).set b4 (.box [.nilsl,.int .i64 0,.bool false])):=(heap_le_set g2).trans (heap_le_set (by simp only[set_none];exact g4))
 generalize (H.set b2 (.box (linC a))).set b4 (.box [.nilsl,.int .i64 0,.bool false])=Bs at e2 e4 hle⊢
 have hlen:=fa.len
 have w1:IntKind.i64.wrap (a.k*n)=a.k*n:=wrap64 (by omega) (by omega)
 repeat' (first|with_reducible apply And.intro|simp only[go_sem,seval,e2,e4,w1]|simp(disch:=omega) only[wrap64,Rw_at]|simp(disch:=first|omega|grind) only[heap_ne_]|(intro hx_;try simp only[set_none]at hx_)|omega)
 rename_i b5
 have h5:=hx_
 clear hx_
 have f0:=BxI.start h5 2 [.int .i64 (a.k*n),.bool a.e]
 generalize Bs.set b5 (.box [.nilsl,.int .i64 (a.k*n),.bool a.e])=Hq at f0⊢
 have e2q:=f0.le _ _ e2
 repeat' (first|with_reducible apply And.intro|simp only[go_sem,seval,e2q]|simp(disch:=omega) only[wrap64,Rw_at]|simp(disch:=first|omega|grind) only[heap_ne_]|(intro hx_;try simp only[set_none]at hx_)|omega)
 refine loop_c [1,4,5,16,17] (fun(p:Nat×Option Nat×Heap)=>[(18,.int .i64 p.1)]) (fun(p:Nat×Option Nat×Heap)=>p.2.2) (fun(p:Nat×Option Nat×Heap)=>p.1≤a.t.length∧BxI Bs b5 2 (timesL ⟨a.t.take p.1,a.k,a.e⟩ n).t.length (Rw ltC (timesL ⟨a.t.take p.1,a.k,a.e⟩ n).t) [.int .i64 (a.k*n),.bool a.e] p.2.1 p.2.2) (fun(p:Nat×Option Nat×Heap)=>a.t.length-p.1) ((0,none,Hq)) (⟨Nat.zero_le _,by rw[timesT_zero];exact f0⟩) (by(try simp only[go_sem,seval])<;>(try simp(disch:=omega) [wrap64])<;>(try omega)) (Heap.Le.refl _) ?_
 clear f0 e2q h5
 rintro Ec rfl ⟨i,ob,Hp⟩ ⟨hi,fi⟩
 simp only at hi fi
 by_cases hlt:i<a.t.length
 ·have hkd:decide ((i:Int)<a.t.length)=true:=decide_eq_true (by omega)
  have hti:(i:Int)<a.t.length:=by omega
  have hm:=ht _ (List.getElem_mem hlt)
  have w2:IntKind.i64.wrap (a.t[i].c*n)=a.t[i].c*n:=wrap64 (by omega) (by omega)
  by_cases hn:n=0
  ·subst hn
   have hz: ∀j,(timesL ⟨a.t.take j,a.k,a.e⟩ 0).t= []:=fun j=>by unfold timesL;simp
   repeat' (first|with_reducible apply And.intro|simp only[go_sem,seval,hkd,hti,Rw_at _ _ hlt,Rw_get _ _ hlt,decide_true,Bool.not_true]|simp(disch:=omega) only[wrap64,Rw_at]|simp(disch:=first|omega|grind) only[heap_ne_]|(intro hx_;try simp only[set_none]at hx_)|omega)
   refine nx_mk (i+1,ob,_) ⟨by simp only[];omega,?_⟩ (by simp only[];omega) (by(try simp only[go_sem,seval])<;>(try simp(disch:=omega) [wrap64])<;>(try omega)) (Heap.Le.refl _)
   simp only[]
   rw[hz]at fi⊢
   exact fi.up (heap_le_set (by assumption))
  ·have hl:=timesT_len a n i
   have e5:=fi.ex
   have hnd:decide (n=0)=false:=decide_eq_false hn
   repeat' (first|with_reducible apply And.intro|simp only[go_sem,seval,hkd,hti,Rw_at _ _ hlt,Rw_get _ _ hlt,hnd,e5,w2]|simp(disch:=omega) only[wrap64,Rw_at]|simp(disch:=first|omega|grind) only[heap_ne_]|(intro hx_;try simp only[set_none]at hx_)|omega)
   ·rename_i b7 h7 bx
    have hbx:=hx_
    clear hx_
    refine apS_z (P:=Tryz.prog) (H0:=Hp.set b7 (.box [.str a.t[i].v,.int .i64 a.t[i].c])) (es:=Rw ltC (timesL ⟨a.t.take i,a.k,a.e⟩ n).t) (by simp only[set_none];exact hbx) (by simp) (fi.eo.up (heap_le_set h7)) (by rw[Rw_len]) (by simp only[List.length_cons,List.length_nil];omega) (by simp only[List.length_cons,List.length_nil];omega) fun b' H' hA=>?_
    have hY:Rw ltC (timesL ⟨a.t.take i,a.k,a.e⟩ n).t++[[D.str a.t[i].v,.int .i64 (a.t[i].c*n)]]=Rw ltC (timesL ⟨a.t.take (i+1),a.k,a.e⟩ n).t:=by rw[timesT_snoc a n i hlt hn,←Rw_app];rfl
    rw[hY]at hA
    obtain⟨f1,e5'⟩:=fi.ap (m:=(timesL ⟨a.t.take (i+1),a.k,a.e⟩ n).t.length) (heap_le_set h7) hA
    have hlen1:(timesL ⟨a.t.take i,a.k,a.e⟩ n).t.length+1=(timesL ⟨a.t.take (i+1),a.k,a.e⟩ n).t.length:=by rw[timesT_snoc a n i hlt hn];simp
    repeat' (first|with_reducible apply And.intro|simp only[go_sem,seval,e5']|simp(disch:=omega) only[wrap64,Rw_at]|simp(disch:=first|omega|grind) only[heap_ne_]|(intro hx_;try simp only[set_none]at hx_)|omega)
    rw[←hlen1]at f1
    refine nx_mk (i+1,some b',_) ⟨by simp only[];omega,?_⟩ (by simp only[];omega) (by(try simp only[go_sem,seval,out_some])<;>(try simp(disch:=omega) [wrap64])<;>(try omega)) (Heap.Le.refl _)
    simp only[]
    rw[←hlen1];exact f1
 ·have hkd:decide ((i:Int)<a.t.length)=false:=decide_eq_false (by omega)
  have hie:i=a.t.length:=by omega
  subst hie
  have e5:=fi.ex
  have e4p:=fi.le _ _ e4
  have o1:(match outG 2 (timesL ⟨a.t.take a.t.length,a.k,a.e⟩ n).t.length ob with|D.undef=>false|D.agg cs=>false|D.tuple cs=>false|x=>true)=true:=by cases ob<;>rfl
  repeat' (first|with_reducible apply And.intro|simp only[go_sem,seval,hkd,e5,e4p,o1]|simp(disch:=omega) only[wrap64,Rw_at]|simp(disch:=first|omega|grind) only[heap_ne_]|(intro hx_;try simp only[set_none]at hx_)|omega)
  rw[timesT_all]at fi⊢
  refine Fin.less (fun k o hk=>?_) (h ob (fun e=>?_) (fun b e=>hle.none (fi.no b e)))
  ·exact fi.putr hle g4.2 e4p k o hk
  ·rw[e]at fi;exact fi.eo
theorem rTimes_f{Q}(a:LinV)(fa:LinFit a)(n:Int)(hk:(a.k*n).natAbs≤4611686018427387904)(ht: ∀t∈a.t,(t.c*n).natAbs≤4611686018427387904)(H:Heap)(h:Q (.agg (linC (timesL a n))) H):ACalls Tryz.prog 62 [.agg (linC a),.int .i64 n] H Q:=
 ACalls.fin (rTimes_o a fa n hk ht H fun ob h0 hb=>Fin.aggO h0 hb (by rw[Rw_len]) h)
theorem rmulL_a{Q}(a:LinV)(fa:LinFit a)(n:Int)(H:Heap)(h:Q (.tuple [.agg (linC (timesR a n).1),.int .i64 (timesR a n).2]) H):ACalls Tryz.prog 22 [.agg (linC a),.int .i64 n] H Q:=by
 refine acalls_of_wp [] Tryz.mixed Tryz.func22 rfl (by kernel_rfl) (of_decide_eq_true (by kernel_rfl)) (by kernel_rfl) ?_
 simp only[go_sem,seval,Tryz.results22]
 intro b2 g2 b4 g4
 simp only[set_none]at g4
 have e2:((H.set b2 (.box (linC a))).set b4 (.box [.nilsl,.int .i64 0,.bool false])) b2=some (.box (linC a)):=by rw[heap_ne _ g4.1.symm,heap_same]
 have e4:((H.set b2 (.box (linC a))).set b4 (.box [.nilsl,.int .i64 0,.bool false])) b4=some (.box [.nilsl,.int .i64 0,.bool false]):=heap_same _ _
 have hle:H.Le ((H.set b2 (.box (linC a))).set b4 (.box [.nilsl,.int .i64 0,.bool false])):=(heap_le_set g2).trans (heap_le_set (by simp only[set_none];exact g4))
 have hls: ∀x,H.Le (((H.set b2 (.box (linC a))).set b4 (.box [.nilsl,.int .i64 0,.bool false])).set b4 x):=fun x=>le_set4 hle g4.2
 generalize (H.set b2 (.box (linC a))).set b4 (.box [.nilsl,.int .i64 0,.bool false])=Bs at e2 e4 hle hls⊢
 by_cases c:validL a=true
 ·skip
  by_cases w:within n 1048576=true
  ·have wn:n.natAbs≤1048576:=by unfold within at w;simp only[Bool.and_eq_true,decide_eq_true_eq]at w;omega
   obtain⟨t1,t2⟩:=times_in c wn
   have fm:=times_fit fa (n:=n) (by omega) (fun t ht=>by have:=t2 t ht;omega)
   have tc: ∀(H:Heap) (Q:D→Heap→Prop),Q (.agg (linC (timesL a n))) H→ACalls Tryz.prog 62 [.agg (linC a),.int .i64 n] H Q:=fun H Q hq=>rTimes_f a fa n (by omega) (fun t ht=>by have:=t2 t ht;omega) H hq
   have q1: ¬n< -1048576:=by omega
   have q2: ¬1048576<n:=by omega
   by_cases n0:n<0
   ·by_cases ae:a.e=true
    ·have e:timesR a n=limitedL (timesL a n):=by unfold timesR;rw[if_pos ⟨c,w⟩,if_neg (by rw[ae];simp)]
     rw[e]at h
     obtain⟨T,K,E⟩:=a
     change E=true at ae
     subst ae
     repeat' (first|with_reducible apply And.intro|simp only[go_sem,seval,e2,e4,c,w,n0,q1,q2]|(intro hx_;try simp only[set_none]at hx_)|with_reducible refine rValid_a _ fa _ ?_|with_reducible refine tc _ _ ?_|with_reducible refine told_a _ fm _ ?_|omega)
     exact Fin.less (hls _) h
    ·have ae:a.e=false:=by simpa using ae
     have e:timesR a n=(nilL,5):=by unfold timesR;rw[if_pos ⟨c,w⟩,if_pos ⟨n0,ae⟩]
     rw[e]at h
     obtain⟨T,K,E⟩:=a
     change E=false at ae
     subst ae
     repeat' (first|with_reducible apply And.intro|simp only[go_sem,seval,e2,e4,c,w,n0,q1,q2]|(intro hx_;try simp only[set_none]at hx_)|with_reducible refine rValid_a _ fa _ ?_|omega)
     exact Fin.nilR (nil_lin 0 5 false) (Fin.less (hls _) h)
   ·have e:timesR a n=limitedL (timesL a n):=by unfold timesR;rw[if_pos ⟨c,w⟩,if_neg (fun g=>n0 g.1)]
    rw[e]at h
    repeat' (first|with_reducible apply And.intro|simp only[go_sem,seval,e2,e4,c,w,n0,q1,q2]|(intro hx_;try simp only[set_none]at hx_)|with_reducible refine rValid_a a fa _ ?_|with_reducible refine tc _ _ ?_|with_reducible refine told_a _ fm _ ?_|omega)
    exact Fin.less (hls _) h
  ·have w:within n 1048576=false:=by simpa using w
   have e:timesR a n=(nilL,2):=by unfold timesR;rw[if_neg (by rw[w];simp)]
   rw[e]at h
   by_cases q1:n< -1048576
   ·repeat' (first|with_reducible apply And.intro|simp only[go_sem,seval,e2,e4,c,q1]|(intro hx_;try simp only[set_none]at hx_)|with_reducible refine rValid_a a fa _ ?_|omega)
    exact Fin.nilR (nil_lin 0 2 false) (Fin.less (hls _) h)
   ·have q2:1048576<n:=by
     unfold within at w
     rw[decide_eq_true (show-1048576≤n by omega),Bool.true_and]at w
     have:=of_decide_eq_false w
     omega
    repeat' (first|with_reducible apply And.intro|simp only[go_sem,seval,e2,e4,c,q1,q2]|(intro hx_;try simp only[set_none]at hx_)|with_reducible refine rValid_a a fa _ ?_|omega)
    exact Fin.nilR (nil_lin 0 2 false) (Fin.less (hls _) h)
 ·have c:validL a=false:=by simpa using c
  have e:timesR a n=(nilL,2):=by unfold timesR;rw[if_neg (by rw[c];simp)]
  rw[e]at h
  repeat' (first|with_reducible apply And.intro|simp only[go_sem,seval,e2,e4,c]|(intro hx_;try simp only[set_none]at hx_)|with_reducible refine rValid_a a fa _ ?_|omega)
  exact Fin.nilR (nil_lin 0 2 false) (Fin.less (hls _) h)
theorem rnegateL_a{Q}(a:LinV)(fa:LinFit a)(H:Heap)(h:Q (.tuple [.agg (linC (negateR a).1),.int .i64 (negateR a).2]) H):ACalls Tryz.prog 24 [.agg (linC a)] H Q:=by
 refine acalls_of_wp [] Tryz.mixed Tryz.func24 rfl (by kernel_rfl) (of_decide_eq_true (by kernel_rfl)) (by kernel_rfl) ?_
 simp only[go_sem,seval,Tryz.results24]
 intro b2 g2 b4 g4
 simp only[set_none]at g4
 have e2:((H.set b2 (.box (linC a))).set b4 (.box [.nilsl,.int .i64 0,.bool false])) b2=some (.box (linC a)):=by rw[heap_ne _ g4.1.symm,heap_same]
 have e4:((H.set b2 (.box (linC a))).set b4 (.box [.nilsl,.int .i64 0,.bool false])) b4=some (.box [.nilsl,.int .i64 0,.bool false]):=heap_same _ _
 have hle:H.Le ((H.set b2 (.box (linC a))).set b4 (.box [.nilsl,.int .i64 0,.bool false])):=(heap_le_set g2).trans (heap_le_set (by simp only[set_none];exact g4))
 have hls: ∀x,H.Le (((H.set b2 (.box (linC a))).set b4 (.box [.nilsl,.int .i64 0,.bool false])).set b4 x):=fun x=>le_set4 hle g4.2
 generalize (H.set b2 (.box (linC a))).set b4 (.box [.nilsl,.int .i64 0,.bool false])=Bs at e2 e4 hle hls⊢
 by_cases c:validL a=true
 ·by_cases ae:a.e=true
  ·have e:negateR a=(nilL,5):=by unfold negateR;rw[if_pos c,if_pos ae]
   rw[e]at h
   obtain⟨T,K,E⟩:=a
   change E=true at ae
   subst ae
   repeat' (first|with_reducible apply And.intro|simp only[go_sem,seval,e2,e4,c]|simp(disch:=omega) only[wrap64]|simp(disch:=first|omega|grind) only[heap_ne_]|(intro hx_;try simp only[set_none]at hx_)|with_reducible refine rValid_a _ fa _ ?_|omega)
   exact Fin.nilR (nil_lin 0 5 false) (Fin.less (hls _) h)
  ·have e:negateR a=limitedL (negL a):=by unfold negateR;rw[if_pos c,if_neg ae]
   have ae:a.e=false:=by simpa using ae
   rw[e]at h
   obtain⟨t1,t2⟩:=times_in c (n:= -1) (by decide)
   have fm:=times_fit fa (n:= -1) (by omega) (fun t ht=>by have:=t2 t ht;omega)
   have fn:LinFit (negL a):=⟨fm.len,fm.str,fm.co,by unfold negL i64;simp only;omega⟩
   have tc: ∀(H:Heap) (Q:D→Heap→Prop),Q (.agg (linC (timesL a (-1)))) H→ACalls Tryz.prog 62 [.agg (linC a),.int .i64 (-1)] H Q:=fun H Q hq=>rTimes_f a fa (-1) (by omega) (fun t ht=>by have:=t2 t ht;omega) H hq
   obtain⟨T,K,E⟩:=a
   change E=false at ae
   subst ae
   obtain⟨M,hM⟩: ∃M,M=(timesL ⟨T,K,false⟩ (-1)).t:=⟨_,rfl⟩
   obtain⟨k1,hk1⟩: ∃k1,k1=K* -1:=⟨_,rfl⟩
   have t1':k1.natAbs≤1152921504606846976:=by rw[hk1];exact t1
   have tc2: ∀(H:Heap) (Q:D→Heap→Prop),Q (.agg [.sl 2 (Rw ltC M),.int .i64 k1,.bool false]) H→ACalls Tryz.prog 62 [.agg [.sl 2 (Rw ltC T),.int .i64 K,.bool false],.int .i64 (-1)] H Q:=fun H Q hq=>tc H Q (by rw[hM,hk1]at hq;exact hq)
   have lc: ∀(H:Heap) (Q:D→Heap→Prop),Q (.tuple [.agg (linC (limitedL (negL ⟨T,K,false⟩)).1),.int .i64 (limitedL (negL ⟨T,K,false⟩)).2]) H→ACalls Tryz.prog 60 [.agg [.sl 2 (Rw ltC M),.int .i64 (k1-1),.bool false]] H Q:=fun H Q hq=>by
    subst hM hk1
    exact told_a (negL ⟨T,K,false⟩) fn H hq
   have w1:IntKind.i64.wrap (k1-1)=k1-1:=wrap64 (by omega) (by omega)
   clear tc
   repeat' (first|with_reducible apply And.intro|simp only[go_sem,seval,e2,e4,c,w1]|simp(disch:=omega) only[wrap64]|simp(disch:=first|omega|grind) only[heap_ne_]|(intro hx_;try simp only[set_none]at hx_)|with_reducible refine rValid_a _ fa _ ?_|with_reducible refine tc2 _ _ ?_|with_reducible refine lc _ _ ?_|omega)
   exact Fin.less (le_set4 (hle.trans (heap_le_set (by assumption))) g4.2) h
 ·have c:validL a=false:=by simpa using c
  have e:negateR a=(nilL,2):=by unfold negateR;rw[if_neg (by rw[c];simp)]
  rw[e]at h
  repeat' (first|with_reducible apply And.intro|simp only[go_sem,seval,e2,e4,c]|simp(disch:=omega) only[wrap64]|simp(disch:=first|omega|grind) only[heap_ne_]|(intro hx_;try simp only[set_none]at hx_)|with_reducible refine rValid_a a fa _ ?_|omega)
  exact Fin.nilR (nil_lin 0 2 false) (Fin.less (hls _) h)
end Go.Proofs.YtacekpdodelnbaaGreatDoor
namespace Go.Av
theorem ACalls.freezeH1{P:Program}{f v sz n:Nat}{es:List (List D)}{ds rs:List D}{H:Heap}{Q:D→Heap→Prop}(hb:H v=some (.vec sz es))(hn:n=es.length)(h:ACalls P f (.agg (.sl sz es::ds)::rs) (H.del v) Q):ACalls P f (.agg (.vec v sz 0 n::ds)::rs) H Q:=by
 subst hn
 refine ACalls.shift (args':=.agg (.sl sz es::ds)::rs) (fun w vs h1 h2 hs=>?_) h
 have hle:=Heap.del_le H v
 refine⟨by simpa using h1,fun i d hd=>?_,hs.less hle,fun k hn=>hle.held hn⟩
 match i with
 |0=>
  cases hd
  have hr1:=h2 0 _ rfl
  revert hr1
  generalize vs.getD 0 undef=v1
  intro hr1
  cases hr1 with
  |agg _ us hlv ho hr=>
   refine .agg _ us (by simpa using hlv) (fun i d' hd'=>?_) (fun i d' hd'=>?_)
   ·cases i with
    |zero=>cases hd';rfl
    |succ i=>exact ho (i+1) d' hd'
   ·cases i with
    |zero=>
     cases hd'
     have hf:Fz v sz es (.vec v sz 0 es.length) (.sl sz es):=.all
     exact hf.R hs hb (hr 0 _ rfl)
    |succ i=>exact(hr (i+1) d' hd').less hle
 |i+1=>exact(h2 (i+1) d (by simpa using hd)).less hle
end Go.Av
namespace Go.Lin
open Go Go.Av Go.Lexs
theorem divT_get(d:Int)(T:List LTm)(h0:0<T.length)(h:0<(divT d T).length):(divT d T)[0].c=T[0].c.tdiv d:=by
 cases T with
 |nil=>simp at h0
 |cons t T=>rfl
theorem divL_times{a:LinV}(h:sgnL a= -1):divL a=timesL ⟨divT (gcdL a.t) a.t,a.k.fdiv (gcdL a.t),a.e⟩ (-1):=by
 unfold divL divT timesL
 rw[h,if_neg (by decide)]
 simp only[List.map_map]
 rfl
theorem tdiv_sign{c:Int}{g:Nat}(hg:0<g)(hd:(g:Int) ∣ c):c.tdiv g<0↔c<0:=by
 obtain⟨q,rfl⟩:=hd
 rw[Int.mul_tdiv_cancel_left _ (by omega)]
 have hp:(0:Int)<g:=by omega
 constructor
 ·intro h;exact Int.mul_neg_of_pos_of_neg hp h
 ·intro h
  by_cases q0:0≤q
  ·have:=Int.mul_nonneg (show (0:Int)≤g by omega) q0;omega
  ·omega
theorem div_fit{T:List LTm}{K:Int}{g:Nat}(hl:T.length≤5864062014639)(hs: ∀t∈T,t.v.size≤140737488351232)(ht: ∀t∈T,t.c≠0∧t.c.natAbs≤1048576)(hk:(K.fdiv g).natAbs≤1099511627776):LinFit ⟨divT g T,K.fdiv g,true⟩∧∀t∈divT g T,t.c.natAbs≤1048576:=by
 have hc: ∀t∈divT g T,t.c.natAbs≤1048576:=fun t h=>by
  unfold divT at h
  obtain⟨x,hx,rfl⟩:=List.mem_map.1 h
  have h1:=ht x hx
  have h2:=tdiv_abs x.c g
  show (x.c.tdiv g).natAbs≤_
  omega
 refine⟨⟨?_,fun t h=>?_,fun t h=>?_,by unfold i64;simp only;omega⟩,hc⟩
 ·show (divT g T).length≤_
  unfold divT;rw[List.length_map];exact hl
 ·have h:t∈divT g T:=h
  unfold divT at h
  obtain⟨x,hx,rfl⟩:=List.mem_map.1 h
  exact hs x hx
 ·have:=hc t h
  unfold i64;omega
end Go.Lin
namespace Go.Proofs.YtacekpdodelnbaaGreatDoor
open Go Go.Av Go.Lexs Go.Lin
attribute [local irreducible] ACalls at8
set_option maxHeartbeats 1000000 in
theorem rnormalL_a{Q}(a:LinV)(fa:LinFit a)(H:Heap)(h:Q (.tuple [.agg (linC (normalR a).1),.int .i64 (normalR a).2]) H):ACalls Tryz.prog 26 [.agg (linC a)] H Q:=by
 refine acalls_of_wp [(15,.par),(16,.wk),(19,.par)] Tryz.mixed Tryz.func26 rfl (by kernel_rfl) (of_decide_eq_true (by kernel_rfl)) (by kernel_rfl) ?_
 simp only[go_sem,seval,Tryz.results26]
 intro b2 g2 b4 g4
 simp only[set_none]at g4
 have e2:((H.set b2 (.box (linC a))).set b4 (.box [.nilsl,.int .i64 0,.bool false])) b2=some (.box (linC a)):=by rw[heap_ne _ g4.1.symm,heap_same]
 have e4:((H.set b2 (.box (linC a))).set b4 (.box [.nilsl,.int .i64 0,.bool false])) b4=some (.box [.nilsl,.int .i64 0,.bool false]):=heap_same _ _
 have hle:H.Le ((H.set b2 (.box (linC a))).set b4 (.box [.nilsl,.int .i64 0,.bool false])):=(heap_le_set g2).trans (heap_le_set (by simp only[set_none];exact g4))
 have g4':=g4.2
 have n24:b4≠b2:=g4.1
 clear g4
 generalize (H.set b2 (.box (linC a))).set b4 (.box [.nilsl,.int .i64 0,.bool false])=Bs at e2 e4 hle⊢
 have hls: ∀x,H.Le (Bs.set b4 x):=fun x=>le_set4 hle g4'
 have m2:b2∈[b2]:=by simp
 by_cases c:validL a=true
 ·have vt:=valid_terms c
  have vk:=(valid_ok c).k
  have hlen:=fa.len
  by_cases t0:a.t= []
  ·obtain⟨T,K,E⟩:=a
   change T= []at t0
   subst t0
   have e:normalR ⟨[],K,E⟩=(if holdsL ⟨[],K,E⟩ K=true then nilL else noL,0):=by unfold normalR;rw[if_pos c,if_pos rfl]
   rw[e]at h
   by_cases k0:K=0
   ·subst k0
    have hh:holdsL ⟨[],0,E⟩ 0=true:=by unfold holdsL;simp
    rw[hh]at h
    repeat' (first|with_reducible apply And.intro|simp only[go_sem,seval,e2,e4,c]|simp(disch:=omega) only[wrap64,Rw_at]|simp(disch:=first|omega|grind) only[del_ne]|(intro hx_;try simp only[set_none]at hx_)|with_reducible refine rValid_a _ fa _ ?_|omega)
    exact Fin.nilR (nil_lin 0 0 false) (Fin.less (hls _) h)
   ·have hh:holdsL ⟨[],K,E⟩ K=(decide (0<K)&& !E):=by unfold holdsL;simp[k0]
    rw[hh]at h
    by_cases k1:0<K
    ·rw[decide_eq_true k1,Bool.true_and]at h
     cases E<;>simp only[Bool.not_true,Bool.not_false]at h
     ·repeat' (first|with_reducible apply And.intro|simp only[go_sem,seval,e2,e4,c,k0,k1]|simp(disch:=omega) only[wrap64,Rw_at]|simp(disch:=first|omega|grind) only[del_ne]|(intro hx_;try simp only[set_none]at hx_)|with_reducible refine rValid_a _ fa _ ?_|omega)
      exact Fin.nilR (nil_lin 0 0 false) (Fin.less (hls _) h)
     ·repeat' (first|with_reducible apply And.intro|simp only[go_sem,seval,e2,e4,c,k0,k1]|simp(disch:=omega) only[wrap64,Rw_at]|simp(disch:=first|omega|grind) only[del_ne]|(intro hx_;try simp only[set_none]at hx_)|with_reducible refine rValid_a _ fa _ ?_|omega)
      exact Fin.nilR (nil_lin (-1) 0 false) (Fin.less (hls _) h)
    ·rw[decide_eq_false k1,Bool.false_and]at h
     repeat' (first|with_reducible apply And.intro|simp only[go_sem,seval,e2,e4,c,k0,k1]|simp(disch:=omega) only[wrap64,Rw_at]|simp(disch:=first|omega|grind) only[del_ne]|(intro hx_;try simp only[set_none]at hx_)|with_reducible refine rValid_a _ fa _ ?_|omega)
     exact Fin.nilR (nil_lin (-1) 0 false) (Fin.less (hls _) h)
  ·have tl: ¬a.t.length=0:=fun e=>t0 (List.eq_nil_of_length_eq_zero e)
   have e:normalR a=if a.e=true∧a.k.tmod (gcdL a.t)≠0 then(noL,0)else(divL a,0):=by unfold normalR;rw[if_pos c,if_neg t0]
   have gp:=gcdL_pos t0 fun t ht=>(vt t ht).1
   have gl:=gcdL_le vt
   have tl': ¬(a.t.length:Int)=0:=by omega
   repeat' (first|with_reducible apply And.intro|simp only[go_sem,seval,e2,e4,c,tl']|simp(disch:=omega) only[wrap64,Rw_at]|simp(disch:=first|omega|grind) only[del_ne]|(intro hx_;try simp only[set_none]at hx_)|with_reducible refine rValid_a a fa _ ?_|omega)
   refine loop_c [1,2,34,35] (fun(p:Nat×Nat×Heap)=>[(36,.int .i64 p.1),(4,.int .i64 (p.2.1:Nat))]) (fun(p:Nat×Nat×Heap)=>p.2.2) (fun(p:Nat×Nat×Heap)=>p.1≤a.t.length∧p.2.1=gcdL (a.t.take p.1)∧Bs.Le p.2.2) (fun(p:Nat×Nat×Heap)=>a.t.length-p.1) ((0,0,Bs)) (⟨Nat.zero_le _,rfl,Heap.Le.refl _⟩) (by(try simp only[go_sem,seval])<;>(try simp(disch:=omega) [wrap64])<;>(try omega)) (Heap.Le.refl _) ?_
   rintro Ec rfl ⟨i,g,Hp⟩ ⟨hi,hg,hp⟩
   simp only at hi hg hp
   by_cases hlt:i<a.t.length
   ·have hkd:decide ((i:Int)<a.t.length)=true:=decide_eq_true (by omega)
    have hti:(i:Int)<a.t.length:=by omega
    obtain⟨x0,x1⟩:=vt _ (List.getElem_mem hlt)
    have gt:=gcdL_le (l:=a.t.take i) (m:=1048576) fun t ht=>vt t (List.mem_of_mem_take ht)
    rw[←hg]at gt
    have w:IntKind.i64.wrap (0-a.t[i].c)= -a.t[i].c:=by rw[wrap64 (by omega) (by omega)];omega
    have em:(if a.t[i].c< -a.t[i].c then-a.t[i].c else a.t[i].c)=((a.t[i].c.natAbs:Nat):Int):=by split<;>omega
    repeat' (first|with_reducible apply And.intro|simp only[go_sem,seval,hkd,hti,Rw_at _ _ hlt,Rw_get _ _ hlt,w,em]|simp(disch:=omega) only[wrap64,Rw_at]|simp(disch:=first|omega|grind) only[del_ne]|(intro hx_;try simp only[set_none]at hx_)|with_reducible refine size_a _ (by omega) (by omega) _ ?_|with_reducible refine rGcd_a _ _ (by omega) (by omega) _ ?_|omega)
    refine nx_mk (i+1,Nat.gcd a.t[i].c.natAbs g,_) ⟨by simp only[];omega,by simp only[];rw[gcdL_take _ _ hlt,←hg],hp.trans (heap_le_set (by assumption))⟩ (by simp only[];omega) (by(try simp only[go_sem,seval])<;>(try simp(disch:=omega) [wrap64])<;>(try omega)) (Heap.Le.refl _)
   ·have hkd:decide ((i:Int)<a.t.length)=false:=decide_eq_false (by omega)
    have hie:i=a.t.length:=by omega
    subst hie
    rw[List.take_length]at hg
    have e2p:=hp _ _ e2
    have e4p:=hp _ _ e4
    rw[←hg]at gp gl e
    have g0: ¬(g:Int)=0:=by omega
    by_cases ae:a.e=true∧a.k.tmod g≠0
    ·rw[if_pos ae]at e
     rw[e]at h
     obtain⟨T,K,E⟩:=a
     obtain⟨ae,ak⟩:=ae
     change E=true at ae
     subst ae
     have ak: ¬K.tmod g=0:=ak
     repeat' (first|with_reducible apply And.intro|simp only[go_sem,seval,hkd,e2p,e4p,g0,ak]|simp(disch:=omega) only[wrap64,Rw_at]|simp(disch:=first|omega|grind) only[del_ne]|(intro hx_;try simp only[set_none]at hx_)|omega)
     exact Fin.nilR (nil_lin (-1) 0 false) (Fin.less (le_set4 (hle.trans hp) g4') h)
    ·rw[if_neg ae]at e
     rw[e]at h
     have fk:=fdiv_absle a.k g (by omega)
     have ae0:=ae
     clear ae
     obtain⟨T,K,E⟩:=a
     have hlenT:T.length≤5864062014639:=hlen
     have vtT: ∀t∈T,t.c≠0∧t.c.natAbs≤1048576:=vt
     have t0T:T≠[]:=t0
     have vk':K.natAbs≤1099511627776:=vk
     replace fk:(K.fdiv g).natAbs≤K.natAbs:=fk
     have strT: ∀t∈T,t.v.size≤140737488351232:=fa.str
     clear hlen vt t0 fa tl tl' c hi hlt
     apply tail_join2 (C:=fun b7 Hq=>BxI Hp b7 2 0 [] [.int .i64 (K.fdiv g),.bool E] none Hq)
     ·intro hJ
      have pr: ∀(H':Heap) (Q:D→Heap→Prop),Q (.int .i64 (K.fdiv g)) H'→ACalls Tryz.prog 68 [.int .i64 K,.int .i64 (g:Nat)] H' Q:=fun H' Q hq=>rDown_a K g (by omega) (by omega) (by omega) H' hq
      by_cases hE:E=true
      ·have kr:K.tmod g=0:=by
        by_cases kk:K.tmod g=0
        ·exact kk
        ·exact absurd ⟨hE,kk⟩ ae0
       repeat' (first|with_reducible apply And.intro|simp only[go_sem,seval,hkd,e2p,e4p,g0,kr,hE]|simp(disch:=omega) only[wrap64,Rw_at]|simp(disch:=first|omega|grind) only[del_ne]|(intro hx_;try simp only[set_none]at hx_)|omega)
       refine par_mk (fun i'=>if i'=3 then .int .i64 (K.fdiv g)else .undef) [b2] ?_
       repeat' (first|with_reducible apply And.intro|simp only[go_sem,seval,e2p,m2,hE]|simp(disch:=omega) only[wrap64,Rw_at]|simp(disch:=first|omega|grind) only[del_ne]|(intro hx_;try simp only[set_none]at hx_)|with_reducible refine pc0 (fun H' Q hro hq=>pr H' Q hq) ?_|omega)
       rename_i b7
       have f0:=BxI.start hx_ 2 [.int .i64 (K.fdiv g),.bool true]
       exact wk_mk [(1,.box b2 0),(2,.box b4 0),(4,.int .i64 g),(7,.box b7 0)] _ (by(try simp only[go_sem,seval])<;>(try simp(disch:=omega) [wrap64])<;>(try omega)) (Heap.Le.refl _) (hJ _ _ (by rw[hE];exact f0))
      ·have hE:E=false:=by simpa using hE
       repeat' (first|with_reducible apply And.intro|simp only[go_sem,seval,hkd,e2p,e4p,g0,hE]|simp(disch:=omega) only[wrap64,Rw_at]|simp(disch:=first|omega|grind) only[del_ne]|(intro hx_;try simp only[set_none]at hx_)|omega)
       refine par_mk (fun i'=>if i'=3 then .int .i64 (K.fdiv g)else .undef) [b2] ?_
       repeat' (first|with_reducible apply And.intro|simp only[go_sem,seval,e2p,m2,hE]|simp(disch:=omega) only[wrap64,Rw_at]|simp(disch:=first|omega|grind) only[del_ne]|(intro hx_;try simp only[set_none]at hx_)|with_reducible refine pc0 (fun H' Q hro hq=>pr H' Q hq) ?_|omega)
       rename_i b7
       have f0:=BxI.start hx_ 2 [.int .i64 (K.fdiv g),.bool false]
       exact wk_mk [(1,.box b2 0),(2,.box b4 0),(4,.int .i64 g),(7,.box b7 0)] _ (by(try simp only[go_sem,seval])<;>(try simp(disch:=omega) [wrap64])<;>(try omega)) (Heap.Le.refl _) (hJ _ _ (by rw[hE];exact f0))
     intro b7 Hq f0
     have e2q:=f0.le _ _ e2p
     repeat' (first|with_reducible apply And.intro|simp only[go_sem,seval,e2q]|simp(disch:=omega) only[wrap64,Rw_at]|simp(disch:=first|omega|grind) only[del_ne]|(intro hx_;try simp only[set_none]at hx_)|omega)
     refine loop_c [1,2,4,7,64,65] (fun(p:Nat×Option Nat×Heap)=>[(66,.int .i64 p.1)]) (fun(p:Nat×Option Nat×Heap)=>p.2.2) (fun(p:Nat×Option Nat×Heap)=>p.1≤T.length∧BxI Hp b7 2 (divT (g:Int) (T.take p.1)).length (Rw ltC (divT (g:Int) (T.take p.1))) [.int .i64 (K.fdiv g),.bool E] p.2.1 p.2.2) (fun(p:Nat×Option Nat×Heap)=>T.length-p.1) ((0,none,Hq)) (⟨Nat.zero_le _,f0⟩) (by(try simp only[go_sem,seval])<;>(try simp(disch:=omega) [wrap64])<;>(try omega)) (Heap.Le.refl _) ?_
     clear f0
     rintro Ec rfl ⟨i,ob,Hr⟩ ⟨hi,fi⟩
     simp only at hi fi
     by_cases hlt:i<T.length
     ·have hkd:decide ((i:Int)<T.length)=true:=decide_eq_true (by omega)
      have hti:(i:Int)<T.length:=by omega
      obtain⟨x0,x1⟩:=vtT _ (List.getElem_mem hlt)
      have ta:=tdiv_abs T[i].c (g:Int)
      have w2:IntKind.i64.wrap (T[i].c.tdiv (g:Int))=T[i].c.tdiv (g:Int):=wrap64 (by omega) (by omega)
      have dn: ¬(g:Int)=0:=by omega
      have dl:=divT_len (g:Int) T i
      repeat' (first|with_reducible apply And.intro|simp only[go_sem,seval,hkd,hti,Rw_at _ _ hlt,Rw_get _ _ hlt]|simp(disch:=omega) only[wrap64,Rw_at]|simp(disch:=first|omega|grind) only[del_ne]|(intro hx_;try simp only[set_none]at hx_)|omega)
      rename_i b9
      have h9:=hx_
      clear hx_
      have fj:=fi.up (heap_le_set (o:=.box [.str T[i].v,.int .i64 T[i].c]) h9)
      have e9:(Hr.set b9 (.box [.str T[i].v,.int .i64 T[i].c])) b9=some (.box [.str T[i].v,.int .i64 T[i].c]):=heap_same _ _
      generalize Hr.set b9 (.box [.str T[i].v,.int .i64 T[i].c])=Hs at fj e9⊢
      have e7:=fj.ex
      have k7:b7∈[b7,b9]:=by simp
      have k9:b9∈[b7,b9]:=by simp
      refine par_mk (fun i'=>.undef) [b7,b9] ?_
      repeat' (first|with_reducible apply And.intro|simp only[go_sem,seval,e7,e9,k7,k9,dn,w2]|simp(disch:=omega) only[wrap64,Rw_at]|simp(disch:=first|omega|grind) only[del_ne]|(intro hx_;try simp only[set_none]at hx_)|omega)
      rename_i bx
      have hbx:=hx_
      clear hx_
      refine p_apZ 72 24 (n:=(divT (g:Int) (T.take i)).length) (m:=1) (ob:=ob) (es:=Rw ltC (divT (g:Int) (T.take i))) (xs:=[[.str T[i].v,.int .i64 (T[i].c.tdiv (g:Int))]]) (by simp only[go_sem,seval]) (by decide) (by simp only[go_sem,seval]) (by simp only[go_sem,seval]) (by simp only[go_sem,seval]) (by simp only[go_sem,seval]) hbx rfl (by simp) fj.eo (by rw[Rw_len]) (fun c hc=>by
       simp only[List.mem_cons,List.not_mem_nil,or_false]at hc
       rcases hc with rfl|rfl
       ·exact⟨_,e7,by simp⟩
       ·exact⟨_,e9,by simp⟩) (by simp only[List.length_cons,List.length_nil];omega) (by simp only[List.length_cons,List.length_nil];omega) fun b' H' hA=>?_
      have hY:Rw ltC (divT (g:Int) (T.take i))++[[D.str T[i].v,.int .i64 (T[i].c.tdiv (g:Int))]]=Rw ltC (divT (g:Int) (T.take (i+1))):=by rw[divT_snoc _ _ i hlt,←Rw_app];rfl
      have hlen1:(divT (g:Int) (T.take i)).length+1=(divT (g:Int) (T.take (i+1))).length:=by rw[divT_snoc _ _ i hlt];simp
      rw[hY]at hA
      obtain⟨f1,e7'⟩:=fj.ap (m:=(divT (g:Int) (T.take (i+1))).length) (Heap.Le.refl _) hA
      repeat' (first|with_reducible apply And.intro|simp only[go_sem,seval,e7']|simp(disch:=omega) only[wrap64,Rw_at]|simp(disch:=first|omega|grind) only[del_ne]|(intro hx_;try simp only[set_none]at hx_)|omega)
      rw[←hlen1]at f1
      refine nx_mk (i+1,some b',_) ⟨by simp only[];omega,?_⟩ (by simp only[];omega) (by(try simp only[go_sem,seval,out_some])<;>(try simp(disch:=omega) [wrap64])<;>(try omega)) (Heap.Le.refl _)
      simp only[]
      rw[←hlen1];exact f1
     ·cases E with
      |false=>
       have hkd:decide ((i:Int)<T.length)=false:=decide_eq_false (by omega)
       have hie:i=T.length:=by omega
       subst hie
       have e7:=fi.ex
       have e4r:=fi.le _ _ e4p
       rw[List.take_length]at fi e7
       have o1:(match outG 2 (divT (g:Int) T).length ob with|D.undef=>false|D.agg cs=>false|D.tuple cs=>false|x=>true)=true:=by cases ob<;>rfl
       have e2r:=fi.le _ _ e2p
       repeat' (first|with_reducible apply And.intro|simp only[go_sem,seval,hkd,e7,e4r,e2r,o1]|simp(disch:=omega) only[wrap64,Rw_at]|simp(disch:=first|omega|grind) only[del_ne]|(intro hx_;try simp only[set_none]at hx_)|omega)
       rw[divL_one (a:=⟨T,K,false⟩) (by unfold sgnL;rw[if_neg (by simp)]),←hg]at h
       cases ob with
       |none=>
        have hz:Rw ltC (divT (g:Int) T)= []:=fi.eo
        exact absurd (List.map_eq_nil_iff.1 (List.map_eq_nil_iff.1 hz)) t0T
       |some b=>
        obtain⟨q1,q2⟩:=fi.fin (x:=.box [.vec b 2 0 (divT (g:Int) T).length,.int .i64 (K.fdiv g),.bool false]) (hle.trans hp) g4' e4r
        exact Fin.aggT q1 (by rw[Rw_len]) (Fin.less q2 h)
      |true=>
       have hkd:decide ((i:Int)<T.length)=false:=decide_eq_false (by omega)
       have hie:i=T.length:=by omega
       subst hie
       have e7:=fi.ex
       have e4r:=fi.le _ _ e4p
       rw[List.take_length]at fi e7
       have e2r:=fi.le _ _ e2p
       have hT0:0<T.length:=by cases T with|nil=>exact absurd rfl t0T|cons=>simp
       have sg:=sgn_head (K:=K) hT0
       cases ob with
       |none=>
        have hz:Rw ltC (divT (g:Int) T)= []:=fi.eo
        exact absurd (List.map_eq_nil_iff.1 (List.map_eq_nil_iff.1 hz)) t0T
       |some b=>
        simp only[outG]at e7
        have eb:Hr b=some (.vec 2 (Rw ltC (divT (g:Int) T))):=fi.eo
        have hD0:0<(divT (g:Int) T).length:=by unfold divT;rw[List.length_map];exact hT0
        have hcc:(divT (g:Int) T)[0].c=T[0].c.tdiv (g:Int):=divT_get _ _ _ _
        have hsg:=tdiv_sign (c:=T[0].c) (g:=g) (by omega) (by rw[hg];exact gcdL_dvd (l:=T) _ (List.getElem_mem hT0))
        rw[←hcc]at hsg
        by_cases c0:T[0].c<0
        ·rw[if_pos c0]at sg
         have c1:=hsg.2 c0
         obtain⟨ff,fc⟩:=div_fit (K:=K) (g:=g) hlenT strT vtT (by omega)
         have mc: ∀(H':Heap) (Q:D→Heap→Prop),H' b=some (.vec 2 (Rw ltC (divT (g:Int) T)))→Q (.agg (linC (timesL ⟨divT (g:Int) T,K.fdiv g,true⟩ (-1)))) (H'.del b)→ACalls Tryz.prog 62 [.agg [.vec b 2 0 (divT (g:Int) T).length,.int .i64 (K.fdiv g),.bool true],.int .i64 (-1)] H' Q:=fun H' Q hb hq=>
          ACalls.freezeH1 hb (by rw[Rw_len]) (rTimes_f ⟨divT (g:Int) T,K.fdiv g,true⟩ ff (-1) (by show (K.fdiv g* -1).natAbs≤_;omega) (fun t ht=>by have:=fc t ht;omega) _ hq)
         have mc:=fun Q=>mc Hr Q eb
         have nb7:b7≠b:=fun e=>by rw[e,eb]at e7;cases e7
         have nb4:b4≠b:=fun e=>by rw[e,eb]at e4r;cases e4r
         have n47:b4≠b7:=fun e=>by rw[e,e7]at e4r;cases e4r
         have e7d:(Hr.del b) b7=some (.box [.vec b 2 0 (divT (g:Int) T).length,.int .i64 (K.fdiv g),.bool true]):=by rw[del_ne nb7];exact e7
         have e4d: ∀x,((Hr.del b).set b7 x) b4=some (.box [.nilsl,.int .i64 0,.bool false]):=fun x=>by rw[heap_ne _ n47,del_ne nb4];exact e4r
         obtain⟨M,hM⟩: ∃M,M=timesL ⟨divT (g:Int) T,K.fdiv g,true⟩ (-1):=⟨_,rfl⟩
         rw[divL_times sg,←hg,←hM]at h
         rw[←hM]at mc
         repeat' (first|with_reducible apply And.intro|simp only[go_sem,seval,hkd,e7,e4r,e2r,eb,Rw_at _ _ hD0,Rw_get _ _ hD0,c1,e7d,e4d]|simp(disch:=omega) only[wrap64,Rw_at]|simp(disch:=first|omega|grind) only[del_ne]|(intro hx_;try simp only[set_none]at hx_)|with_reducible refine mc _ ?_|omega)
         refine Fin.less (fun k o hk=>?_) h
         have h1:=(hle.trans hp) _ _ hk
         rw[heap_ne _ (fun e=>by rw[e,g4']at hk;cases hk),heap_ne _ (fun e=>by rw[e,fi.hx]at h1;cases h1),del_ne (fun e=>by rw[e,fi.no b rfl]at h1;cases h1)]
         exact fi.le _ _ h1
        ·rw[if_neg c0]at sg
         have c1: ¬(divT (g:Int) T)[0].c<0:=fun e=>c0 (hsg.1 e)
         rw[divL_one sg,←hg]at h
         repeat' (first|with_reducible apply And.intro|simp only[go_sem,seval,hkd,e7,e4r,e2r,eb,Rw_at _ _ hD0,Rw_get _ _ hD0,c1]|simp(disch:=omega) only[wrap64,Rw_at]|simp(disch:=first|omega|grind) only[del_ne]|(intro hx_;try simp only[set_none]at hx_)|omega)
         obtain⟨q1,q2⟩:=fi.fin (x:=.box [.vec b 2 0 (divT (g:Int) T).length,.int .i64 (K.fdiv g),.bool true]) (hle.trans hp) g4' e4r
         exact Fin.aggT q1 (by rw[Rw_len]) (Fin.less q2 h)
 ·have c:validL a=false:=by simpa using c
  have e:normalR a=(nilL,2):=by unfold normalR;rw[if_neg (by rw[c];simp)]
  rw[e]at h
  repeat' (first|with_reducible apply And.intro|simp only[go_sem,seval,e2,e4,c]|simp(disch:=omega) only[wrap64,Rw_at]|simp(disch:=first|omega|grind) only[del_ne]|(intro hx_;try simp only[set_none]at hx_)|with_reducible refine rValid_a a fa _ ?_|omega)
  exact Fin.nilR (nil_lin 0 2 false) (Fin.less (hls _) h)
end Go.Proofs.YtacekpdodelnbaaGreatDoor
namespace Go.Lin
open Go Go.Av Go.Lexs
theorem withS_at: ∀(l:List ByteArray) (s:ByteArray) (i:Nat) (hi:i≤l.length),(∀(k:Nat) (hk:k<l.length),k<i→ltS l[k] s=true)→(∀hk:i<l.length,ltS l[i] s=false)→
  withS l s=if(∃hk:i<l.length,l[i]=s)then l else l.take i++[s]++l.drop i
 | [],s,i,hi,_,_=>by
  have:i=0:=by simpa using hi
  subst this
  simp[withS]
 |x::l,s,0,_,_,h2=>by
  have h:=h2 (by simp)
  simp only[List.getElem_cons_zero]at h
  rw[withS,h]
  by_cases e:x=s
  ·simp[e]
  ·simp[e]
 |x::l,s,i+1,hi,h1,h2=>by
  have h0:=h1 0 (by simp) (by omega)
  simp only[List.getElem_cons_zero]at h0
  rw[withS,if_pos h0,withS_at l s i (by simpa using hi) (fun k hk g=>by have:=h1 (k+1) (by simpa using hk) (by omega);simpa using this) (fun hk=>by have:=h2 (by simpa using hk);simpa using this)]
  by_cases e: ∃hk:i<l.length,l[i]=s
  ·rw[if_pos e,if_pos (by obtain⟨a,b⟩:=e;exact⟨by simpa using a,by simpa using b⟩)]
  ·rw[if_neg e,if_neg (fun g=>e (by obtain⟨a,b⟩:=g;exact⟨by simpa using a,by simpa using b⟩))]
   simp
def nsD:List ByteArray→D
 | []=>.nilsl
 |x::l=>.sl 1 (Rw strC (x::l))
@[simp] theorem nsD_e:nsD []= .nilsl:=rfl
theorem nsD_with(l:List ByteArray)(s:ByteArray):nsD (withS l s)= .sl 1 (Rw strC (withS l s)):=by
 cases l with
 |nil=>rfl
 |cons x l=>
  rw[withS]
  split
  ·rfl
  ·split<;>rfl
theorem nsD_nil(l:List ByteArray):NilR (nsD l) (.sl 1 (Rw strC l)):=by
 cases l with
 |nil=>exact .nil _
 |cons x l=>exact .same _
theorem foldW_snoc(m:List ByteArray)(s:ByteArray):(m++[s]).foldl withS []=withS (m.foldl withS []) s:=by rw[List.foldl_append];rfl
end Go.Lin
namespace Go.Proofs.YtacekpdodelnbaaGreatDoor
open Go Go.Av Go.Lexs Go.Lin
attribute [local irreducible] ACalls at8
theorem with_r{Q}(l:List ByteArray)(hl:l.length≤1000000000)(s:ByteArray)(H:Heap)(h:Q (.sl 1 (Rw strC (withS l s))) H):ACalls Tryz.prog 42 [.sl 1 (Rw strC l),.str s] H Q:=by
 refine acalls_of_wp [(7,.ord [0,1,4,5,6,2,3,7,8])] Tryz.mixed Tryz.func42 rfl (by kernel_rfl) (of_decide_eq_true (by kernel_rfl)) (by kernel_rfl) ?_
 simp only[go_sem,seval,Tryz.results42]
 refine loop_c [0,1] (fun(i:Nat)=>[(5,.int .i64 i)]) (fun(i:Nat)=>H) (fun(i:Nat)=>i≤l.length∧∀(k:Nat) (hk:k<l.length),k<i→ltS l[k] s=true) (fun(i:Nat)=>l.length-i) (0) (⟨Nat.zero_le _,fun _ _ h=>by omega⟩) (by(try simp only[go_sem,seval])<;>(try simp(disch:=omega) [wrap64])<;>(try omega)) (Heap.Le.refl _) ?_
 rintro Ec rfl i ⟨hi,hall⟩
 by_cases hlt:i<l.length
 ·have hkd:decide ((i:Int)<l.length)=true:=decide_eq_true (by omega)
  have hti:(i:Int)<l.length:=by omega
  by_cases c:ltS l[i] s=true
  ·have lb:Op.bytesLess l[i].data.toList s.data.toList=true:=c
   repeat' (first|with_reducible apply And.intro|simp only[go_sem,seval,hkd,hti,Rw_at _ _ hlt,Rw_get _ _ hlt,lb]|simp(disch:=omega) only[wrap64,Rw_at,withS_at]|simp(disch:=first|omega|grind) only[heap_ne_,del_ne]|(intro hx_;try simp only[set_none]at hx_)|omega)
   exact nx_mk (i+1) ⟨by omega,fun k hk hki=>(Nat.lt_or_ge k i).elim (fun g=>hall k hk g) (fun g=>by have:k=i:=(by omega);subst this;exact c)⟩ (by omega) (by(try simp only[go_sem,seval])<;>(try simp(disch:=omega) [wrap64])<;>(try omega)) (by simp only[Go.Av.Heap.Le,Go.Av.Heap.set,Go.Av.Heap.del]at* <;>grind)
  ·have c:ltS l[i] s=false:=by simpa using c
   have lb:Op.bytesLess l[i].data.toList s.data.toList=false:=c
   have e:=withS_at l s i hi hall (fun _=>c)
   by_cases q:l[i]=s
   ·rw[if_pos ⟨hlt,q⟩]at e
    rw[e]at h
    have qb:decide (B l[i]=B s)=true:=decide_eq_true (by rw[q])
    repeat' (first|with_reducible apply And.intro|simp only[go_sem,seval,hkd,hti,Rw_at _ _ hlt,Rw_get _ _ hlt,lb,qb]|simp(disch:=omega) only[wrap64,Rw_at,withS_at]|simp(disch:=first|omega|grind) only[heap_ne_,del_ne]|(intro hx_;try simp only[set_none]at hx_)|omega)
    exact Fin.same h
   ·rw[if_neg (fun g=>q g.2)]at e
    rw[e]at h
    have qb:decide (B l[i]=B s)=false:=decide_eq_false fun g=>q (B_inj g)
    repeat' (first|with_reducible apply And.intro|simp only[go_sem,seval,hkd,hti,Rw_at _ _ hlt,Rw_get _ _ hlt,lb,qb,Rw_take,Rw_drop]|simp(disch:=omega) only[wrap64,Rw_at,withS_at]|simp(disch:=first|omega|grind) only[heap_ne_,del_ne]|(intro hx_;try simp only[set_none]at hx_)|omega)
    rename_i x8 h8 x6
    have h6:=hx_
    clear hx_
    rw[set_del h8]at h6⊢
    refine ord_mk [] ?_
    repeat' (first|with_reducible apply And.intro|simp only[go_sem,seval,Rw_take,Rw_drop]|simp(disch:=omega) only[wrap64,Rw_at,withS_at]|simp(disch:=first|omega|grind) only[heap_ne_,del_ne]|(intro hx_;try simp only[set_none]at hx_)|omega)
    rename_i x4 h4 x2 h2 x0
    have h0:=hx_
    clear hx_
    refine Fin.out (ob:=some x0) (es:=Rw strC (l.take i++[s]++l.drop i)) ?_ ?_ (Fin.less (fun k o hk=>?_) h)
    ·rw[Rw_len];simp;omega
    ·show Heap.set _ _ _ _=_
     rw[heap_same]
     have ht: ∀(X:List (List D)) (y:List D),X.length=i→List.take (i+1) (X++[y])=X++[y]:=fun X y h=>List.take_of_length_le (by simp[h])
     have hm:=Nat.min_eq_left hi
     simp only[hm]
     rw[ht _ _ (by simp[Rw];omega)]
     simp[Rw,strC,List.take_take]
    ·have k6:k≠x6:=fun e=>by rw[e,h6]at hk;cases hk
     have k4:k≠x4:=fun e=>by rw[e,h4.2]at hk;cases hk
     have k2:k≠x2:=fun e=>by subst e;simp[Heap.set,Heap.del,k6,k4,hk]at h2
     have k0:k≠x0:=fun e=>by subst e;simp[Heap.set,Heap.del,k6,k4,k2,hk]at h0
     show Heap.del _ _ _=_
     simp[Heap.set,Heap.del,k6,k4,k2,k0,hk]
 ·have hkd:decide ((i:Int)<l.length)=false:=decide_eq_false (by omega)
  have hie:i=l.length:=by omega
  subst hie
  have e:=withS_at l s l.length hi hall (fun g=>absurd g (by omega))
  rw[if_neg (fun g=>absurd g.1 (by omega))]at e
  rw[e]at h
  repeat' (first|with_reducible apply And.intro|simp only[go_sem,seval,hkd,Rw_take,Rw_drop]|simp(disch:=omega) only[wrap64,Rw_at,withS_at]|simp(disch:=first|omega|grind) only[heap_ne_,del_ne]|(intro hx_;try simp only[set_none]at hx_)|omega)
  rename_i x8 h8 x6
  have h6:=hx_
  clear hx_
  rw[set_del h8]at h6⊢
  refine ord_mk [] ?_
  repeat' (first|with_reducible apply And.intro|simp only[go_sem,seval,Rw_take,Rw_drop]|simp(disch:=omega) only[wrap64,Rw_at,withS_at]|simp(disch:=first|omega|grind) only[heap_ne_,del_ne]|(intro hx_;try simp only[set_none]at hx_)|omega)
  rename_i x4 h4 x2 h2 x0
  have h0:=hx_
  clear hx_
  refine Fin.out (ob:=some x0) (es:=Rw strC (l.take l.length++[s]++l.drop l.length)) ?_ ?_ (Fin.less (fun k o hk=>?_) h)
  ·rw[Rw_len];simp<;>omega
  ·show Heap.set _ _ _ _=_
   rw[heap_same]
   have ht: ∀(X:List (List D)) (y:List D),X.length=l.length→List.take (l.length+1) (X++[y])=X++[y]:=fun X y h=>List.take_of_length_le (by simp[h])
   simp[Rw,strC]
   rw[ht _ _ (by simp)]
  ·have k6:k≠x6:=fun e=>by rw[e,h6]at hk;cases hk
   have k4:k≠x4:=fun e=>by rw[e,h4.2]at hk;cases hk
   have k2:k≠x2:=fun e=>by subst e;simp[Heap.set,Heap.del,k6,k4,hk]at h2
   have k0:k≠x0:=fun e=>by subst e;simp[Heap.set,Heap.del,k6,k4,k2,hk]at h0
   show Heap.del _ _ _=_
   simp[Heap.set,Heap.del,k6,k4,k2,k0,hk]
theorem withN_r{Q}(l:List ByteArray)(hl:l.length≤1000000000)(s:ByteArray)(H:Heap)(h:Q (nsD (withS l s)) H):ACalls Tryz.prog 42 [nsD l,.str s] H Q:=by
 refine ACalls.nilR (args':=[.sl 1 (Rw strC l),.str s]) rfl (fun i d d' h1 h2=>?_) (with_r l hl s H (by rw[nsD_with]at h;exact h))
 match i with
 |0=>cases h1;cases h2;exact nsD_nil l
 |1=>cases h1;cases h2;exact .same _
 |i+2=>cases h1
theorem rVars_a{Q}(l:List LinV)(hlen:l.length≤1000000000)(hnm:(namesL l).length≤1000000000)(hts: ∀c∈l,c.t.length≤1000000000)(H:Heap)(h:Q (.sl 1 (Rw strC (varsL l))) H):ACalls Tryz.prog 43 [.sl 3 (Rw linC l)] H Q:=by
 refine acalls_of_wp [] Tryz.mixed Tryz.func43 rfl (by kernel_rfl) (of_decide_eq_true (by kernel_rfl)) (by kernel_rfl) ?_
 simp only[go_sem,seval,Tryz.results43]
 refine loop_c [8,9] (fun(p:Nat×List ByteArray)=>[(10,.int .i64 p.1),(3,nsD p.2)]) (fun(p:Nat×List ByteArray)=>H) (fun(p:Nat×List ByteArray)=>p.1≤l.length∧p.2=(nameT l p.1 0).foldl withS []) (fun(p:Nat×List ByteArray)=>l.length-p.1) ((0,[])) (⟨Nat.zero_le _,rfl⟩) (by(try simp only[go_sem,seval])<;>(try simp(disch:=omega) [wrap64])<;>(try omega)) (Heap.Le.refl _) ?_
 rintro Ec rfl ⟨i,ns⟩ ⟨hi,hns⟩
 simp only at hi hns
 by_cases hlt:i<l.length
 ·have hkd:decide ((i:Int)<l.length)=true:=decide_eq_true (by omega)
  have hti:(i:Int)<l.length:=by omega
  have htl:=hts _ (List.getElem_mem hlt)
  repeat' (first|with_reducible apply And.intro|simp only[go_sem,seval,hkd,Rw_at _ _ hlt,Rw_get _ _ hlt]|simp(disch:=omega) only[wrap64,Rw_at]|intro hx_|omega)
  rename_i b5
  have h5:=hx_
  clear hx_
  have hle:H.Le (H.set b5 (.box (linC l[i]))):=heap_le_set h5
  refine loop_c [8,9,10,15,16] (fun(p:Nat×List ByteArray)=>[(17,.int .i64 p.1),(3,nsD p.2)]) (fun(p:Nat×List ByteArray)=>H) (fun(p:Nat×List ByteArray)=>p.1≤l[i].t.length∧p.2=(nameT l i p.1).foldl withS []) (fun(p:Nat×List ByteArray)=>l[i].t.length-p.1) ((0,ns)) (⟨Nat.zero_le _,hns⟩) (by(try simp only[go_sem,seval])<;>(try simp(disch:=omega) [wrap64])<;>(try omega)) (heap_le_set (by assumption)) ?_
  clear hns
  rintro Ec rfl ⟨j,ns⟩ ⟨hj,hns⟩
  simp only at hj hns
  by_cases hjt:j<l[i].t.length
  ·have hkd2:decide ((j:Int)<l[i].t.length)=true:=decide_eq_true (by omega)
   have hjr:(j:Int)<l[i].t.length:=by omega
   have nt:=nameT_succ l i j hlt hjt
   have hb:=foldW_len (nameT l i j) []
   have hb2:=nameT_len l i j hlt
   rw[List.length_nil,←hns]at hb
   repeat' (first|with_reducible apply And.intro|simp only[go_sem,seval,hkd2,hjr,Rw_at _ _ hjt,Rw_get _ _ hjt]|simp(disch:=omega) only[wrap64,Rw_at]|intro hx_|with_reducible refine withN_r _ (by omega) _ _ ?_|omega)
   exact nx_mk (j+1,withS ns l[i].t[j].v) ⟨by simp only[];omega,by simp only[];rw[nt,foldW_snoc,hns]⟩ (by simp only[];omega) (by(try simp only[go_sem,seval])<;>(try simp(disch:=omega) [wrap64])<;>(try omega)) (by simp only[Go.Av.Heap.Le,Go.Av.Heap.set,Go.Av.Heap.del]at* <;>grind)
  ·have hkd2:decide ((j:Int)<l[i].t.length)=false:=decide_eq_false (by omega)
   have hje:j=l[i].t.length:=by omega
   subst hje
   rw[nameT_next l i hlt]at hns
   repeat' (first|with_reducible apply And.intro|simp only[go_sem,seval,hkd2]|simp(disch:=omega) only[wrap64,Rw_at]|intro hx_|omega)
   exact nx_mk (i+1,ns) ⟨by simp only[];omega,hns⟩ (by simp only[];omega) (by(try simp only[go_sem,seval])<;>(try simp(disch:=omega) [wrap64])<;>(try omega)) (by simp only[Go.Av.Heap.Le,Go.Av.Heap.set,Go.Av.Heap.del]at* <;>grind)
 ·have hkd:decide ((i:Int)<l.length)=false:=decide_eq_false (by omega)
  have hie:i=l.length:=by omega
  subst hie
  rw[nameT_all]at hns
  repeat' (first|with_reducible apply And.intro|simp only[go_sem,seval,hkd]|simp(disch:=omega) only[wrap64,Rw_at]|intro hx_|omega)
  subst hns
  exact Fin.nilR (nsD_nil _) (Fin.less (by simp only[Go.Av.Heap.Le,Go.Av.Heap.set,Go.Av.Heap.del]at* <;>grind) h)
end Go.Proofs.YtacekpdodelnbaaGreatDoor
namespace Go.Av
theorem BxI.del{H Hp:Heap}{bx sz n:Nat}{X:List (List D)}{rest:List D}{ob:Option Nat}(h:BxI H bx sz n X rest ob Hp):H.Le (delB Hp ob):=fun k o hk=>by
 cases ob with
 |none=>exact h.le _ _ hk
 |some b=>
  show (Hp.del b) k=_
  rw[del_ne (fun e=>by rw[e,h.no b rfl]at hk;cases hk)];exact h.le _ _ hk
end Go.Av
namespace Go.Lin
open Go Go.Av Go.Lexs
theorem ACalls.aggO{P:Program}{f n sz:Nat}{es:List (List D)}{ob:Option Nat}{ds rs:List D}{H:Heap}{Q:D→Heap→Prop}(hn:n=es.length)(ho:OutAt H sz es ob)(h:ACalls P f (.agg (.sl sz es::ds)::rs) (delB H ob) Q):ACalls P f (.agg (outG sz n ob::ds)::rs) H Q:=by
 cases ob with
 |none=>
  have e:es= []:=ho
  subst e
  refine ACalls.nilR (args':=.agg (.sl sz []::ds)::rs) rfl (fun i d d' h1 h2=>?_) h
  match i with
  |0=>cases h1;cases h2;exact agg_nil sz ds
  |i+1=>simp only[List.getElem?_cons_succ]at h1 h2;rw[h1]at h2;cases h2;exact .same _
 |some b=>exact ACalls.freezeH1 ho hn h
end Go.Lin
namespace Go.Proofs.YtacekpdodelnbaaGreatDoor
open Go Go.Av Go.Lexs Go.Lin
attribute [local irreducible] ACalls at8
set_option maxHeartbeats 1000000 in
theorem rAdd_a{Q}(a b:LinV)(fa:LinFit a)(fb:LinFit b)(H:Heap)(h:Q (.tuple [.agg (linC (addL a b).1),.int .i64 (addL a b).2]) H):ACalls Tryz.prog 20 [.agg (linC a),.agg (linC b)] H Q:=by
 refine acalls_of_wp [(3,.wk),(4,.wk),(7,.par)] Tryz.mixed Tryz.func20 rfl (by kernel_rfl) (of_decide_eq_true (by kernel_rfl)) (by kernel_rfl) ?_
 simp only[go_sem,seval,Tryz.results20]
 intro b2 g2 b3 g3 b4 g4
 simp only[set_none]at g3 g4
 have e2:(((H.set b2 (.box (linC a))).set b3 (.box (linC b))).set b4 (.box [.nilsl,.int .i64 0,.bool false])) b2=some (.box (linC a)):=by rw[heap_ne _ g4.2.1.symm,heap_ne _ g3.1.symm,heap_same]
 have e3:(((H.set b2 (.box (linC a))).set b3 (.box (linC b))).set b4 (.box [.nilsl,.int .i64 0,.bool false])) b3=some (.box (linC b)):=by rw[heap_ne _ g4.1.symm,heap_same]
 have e4:(((H.set b2 (.box (linC a))).set b3 (.box (linC b))).set b4 (.box [.nilsl,.int .i64 0,.bool false])) b4=some (.box [.nilsl,.int .i64 0,.bool false]):=heap_same _ _
 have hle:H.Le (((H.set b2 (.box (linC a))).set b3 (.box (linC b))).set b4 (.box [.nilsl,.int .i64 0,.bool false])):=((heap_le_set g2).trans (heap_le_set (by simp only[set_none];exact g3))).trans (heap_le_set (by simp only[set_none];exact g4))
 have g4':=g4.2.2
 clear g4 g3
 generalize ((H.set b2 (.box (linC a))).set b3 (.box (linC b))).set b4 (.box [.nilsl,.int .i64 0,.bool false])=Bs at e2 e3 e4 hle⊢
 have hls: ∀x,H.Le (Bs.set b4 x):=fun x=>le_set4 hle g4'
 have m2:b2∈[b2,b3]:=by simp
 have m3:b3∈[b2,b3]:=by simp
 by_cases va:validL a=true
 ·by_cases vb:validL b=true
  ·have e:addL a b=limitedL (plusL a b):=by unfold addL;rw[if_pos ⟨va,vb⟩]
   rw[e]at h
   have ha:=(valid_ok va).k
   have hb:=(valid_ok vb).k
   have wk:IntKind.i64.wrap (a.k+b.k)=a.k+b.k:=wrap64 (by omega) (by omega)
   have fp:=plus_fit fa fb va vb
   obtain⟨E,hE⟩: ∃E,E=(plusL a b).e:=⟨_,rfl⟩
   have hE2:E=(a.e&&b.e):=hE
   apply tail_join2 (C:=fun b6 Hq=>BxI Bs b6 2 0 [] [.int .i64 (a.k+b.k),.bool E] none Hq)
   ·intro hJ
    repeat' (first|with_reducible apply And.intro|simp only[go_sem,seval,e2,e3,e4,va,vb]|simp(disch:=omega) only[wrap64,Rw_at]|(intro hx_;try simp only[set_none]at hx_)|with_reducible refine rValid_a a fa _ ?_|with_reducible refine rValid_a b fb _ ?_|omega)
    refine wk_mk [(2,.box b2 0),(3,.box b3 0),(4,.box b4 0)] Bs (by(try simp only[go_sem,seval])<;>(try simp(disch:=omega) [wrap64])<;>(try omega)) (Heap.Le.refl _) ?_
    by_cases ae:a.e=true
    ·rw[ae,Bool.true_and]at hE2
     repeat' (first|with_reducible apply And.intro|simp only[go_sem,seval,e2,e3,wk,ae]|simp(disch:=omega) only[wrap64,Rw_at]|(intro hx_;try simp only[set_none]at hx_)|omega)
     rename_i b6
     exact wk_mk [(2,.box b2 0),(3,.box b3 0),(4,.box b4 0),(6,.box b6 0)] _ (by(try simp only[go_sem,seval])<;>(try simp(disch:=omega) [wrap64])<;>(try omega)) (Heap.Le.refl _) (hJ _ _ (by rw[hE2];exact BxI.start hx_ 2 _))
    ·have ae:a.e=false:=by simpa using ae
     rw[ae,Bool.false_and]at hE2
     repeat' (first|with_reducible apply And.intro|simp only[go_sem,seval,e2,e3,wk,ae]|simp(disch:=omega) only[wrap64,Rw_at]|(intro hx_;try simp only[set_none]at hx_)|omega)
     rename_i b6
     exact wk_mk [(2,.box b2 0),(3,.box b3 0),(4,.box b4 0),(6,.box b6 0)] _ (by(try simp only[go_sem,seval])<;>(try simp(disch:=omega) [wrap64])<;>(try omega)) (Heap.Le.refl _) (hJ _ _ (by rw[hE2];exact BxI.start hx_ 2 _))
   intro b6 Hq f0
   have e2q:=f0.le _ _ e2
   have e3q:=f0.le _ _ e3
   repeat' (first|with_reducible apply And.intro|simp only[go_sem,seval,e2q,e3q]|simp(disch:=omega) only[wrap64,Rw_at]|(intro hx_;try simp only[set_none]at hx_)|omega)
   rename_i bs
   have hbs:=hx_
   clear hx_ e2q e3q
   have eE:(plusL a b).e=E:=hE.symm
   refine ACalls.vec1 (heap_same _ _) rfl ?_
   rw[set_del hbs]
   clear hbs
   have v2: ∀c∈[a,b],validL c=true:=fun c hc=>by simp at hc;rcases hc with rfl|rfl<;>assumption
   have hn:=names_len [a,b] v2
   refine rVars_a [a,b] (by simp) (by simp only[List.length_cons,List.length_nil]at hn;omega) (fun c hc=>by have:=(valid_ok (v2 c hc)).len;omega) _ ?_
   have hw:=foldW_len (namesL [a,b]) []
   simp only[List.length_cons,List.length_nil]at hn hw
   have hvl:(varsL [a,b]).length≤24:=by unfold varsL;omega
   have hpt:(plusL a b).t=sumT (fun s=>coefL a.t s+coefL b.t s) (varsL [a,b]):=rfl
   have hF: ∀s,(coefL a.t s).natAbs≤1048576∧(coefL b.t s).natAbs≤1048576:=fun s=>⟨coefL_abs (fun t ht=>(valid_terms va t ht).2) s,coefL_abs (fun t ht=>(valid_terms vb t ht).2) s⟩
   generalize varsL [a,b]=ns at hvl hpt⊢
   clear hn hw v2
   have z0:sumT (fun s=>coefL a.t s+coefL b.t s) (ns.take 0)= []:=by simp[sumT]
   repeat' (first|with_reducible apply And.intro|simp only[go_sem,seval]|simp(disch:=omega) only[wrap64,Rw_at]|(intro hx_;try simp only[set_none]at hx_)|omega)
   refine loop_c [2,3,4,6,34,35] (fun(p:Nat×Option Nat×Heap)=>[(36,.int .i64 p.1)]) (fun(p:Nat×Option Nat×Heap)=>p.2.2) (fun(p:Nat×Option Nat×Heap)=>p.1≤ns.length∧BxI Bs b6 2 (sumT (fun s=>coefL a.t s+coefL b.t s) (ns.take p.1)).length (Rw ltC (sumT (fun s=>coefL a.t s+coefL b.t s) (ns.take p.1))) [.int .i64 (a.k+b.k),.bool E] p.2.1 p.2.2) (fun(p:Nat×Option Nat×Heap)=>ns.length-p.1) ((0,none,Hq)) (⟨Nat.zero_le _,by rw[z0];exact f0⟩) (by(try simp only[go_sem,seval])<;>(try simp(disch:=omega) [wrap64])<;>(try omega)) (Heap.Le.refl _) ?_
   clear f0 z0
   rintro Ec rfl ⟨i,ob,Hp⟩ ⟨hi,fi⟩
   simp only at hi fi
   have e2p:=fi.le _ _ e2
   have e3p:=fi.le _ _ e3
   have e6:=fi.ex
   by_cases hlt:i<ns.length
   ·have hkd:decide ((i:Int)<ns.length)=true:=decide_eq_true (by omega)
    have hti:(i:Int)<ns.length:=by omega
    have hx:=sumT_next (fun s=>coefL a.t s+coefL b.t s) ns i hlt
    have hsl:=sumT_len (fun s=>coefL a.t s+coefL b.t s) (ns.take i)
    rw[List.length_take]at hsl
    obtain⟨f1,f2⟩:=hF ns[i]
    have wn:IntKind.i64.wrap (coefL a.t ns[i]+coefL b.t ns[i])=coefL a.t ns[i]+coefL b.t ns[i]:=wrap64 (by omega) (by omega)
    repeat' (first|with_reducible apply And.intro|simp only[go_sem,seval,hkd,hti,Rw_at _ _ hlt,Rw_get _ _ hlt]|simp(disch:=omega) only[wrap64,Rw_at]|(intro hx_;try simp only[set_none]at hx_)|omega)
    refine par_mk (fun i'=>if i'=2 then .int .i64 (coefL a.t ns[i])else if i'=5 then .int .i64 (coefL b.t ns[i])else .undef) [b2,b3] ?_
    by_cases n0:coefL a.t ns[i]+coefL b.t ns[i]=0
    ·have nd:decide (coefL a.t ns[i]+coefL b.t ns[i]=0)=true:=decide_eq_true n0
     simp only[n0,ne_eq,not_true,if_false,List.append_nil]at hx
     repeat' (first|with_reducible apply And.intro|simp only[go_sem,seval,e2p,e3p,m2,m3,wn,nd]|simp(disch:=omega) only[wrap64,Rw_at]|(intro hx_;try simp only[set_none]at hx_)|with_reducible refine pc0 (fun H' Q hro hq=>coef_a a fa ns[i] H' hq) ?_|with_reducible refine pc0 (fun H' Q hro hq=>coef_a b fb ns[i] H' hq) ?_|omega)
     refine nx_mk (i+1,ob,_) ⟨by simp only[];omega,?_⟩ (by simp only[];omega) (by(try simp only[go_sem,seval])<;>(try simp(disch:=omega) [wrap64])<;>(try omega)) (Heap.Le.refl _)
     simp only[]
     rw[hx];exact fi
    ·have nd:decide (coefL a.t ns[i]+coefL b.t ns[i]=0)=false:=decide_eq_false n0
     simp only[n0,ne_eq,not_false_eq_true,if_true]at hx
     repeat' (first|with_reducible apply And.intro|simp only[go_sem,seval,e2p,e3p,m2,m3,wn,nd,e6]|simp(disch:=omega) only[wrap64,Rw_at]|(intro hx_;try simp only[set_none]at hx_)|with_reducible refine pc0 (fun H' Q hro hq=>coef_a a fa ns[i] H' hq) ?_|with_reducible refine pc0 (fun H' Q hro hq=>coef_a b fb ns[i] H' hq) ?_|omega)
     rename_i bx
     have hbx:=hx_
     clear hx_
     refine apS_z (P:=Tryz.prog) (es:=Rw ltC (sumT (fun s=>coefL a.t s+coefL b.t s) (ns.take i))) hbx (by simp) fi.eo (by rw[Rw_len]) (by simp only[List.length_cons,List.length_nil];omega) (by simp only[List.length_cons,List.length_nil];omega) fun b' H' hA=>?_
     have hY:Rw ltC (sumT (fun s=>coefL a.t s+coefL b.t s) (ns.take i))++[[D.str ns[i],.int .i64 (coefL a.t ns[i]+coefL b.t ns[i])]]=Rw ltC (sumT (fun s=>coefL a.t s+coefL b.t s) (ns.take (i+1))):=by rw[hx,←Rw_app];rfl
     have hlen1:(sumT (fun s=>coefL a.t s+coefL b.t s) (ns.take i)).length+1=(sumT (fun s=>coefL a.t s+coefL b.t s) (ns.take (i+1))).length:=by rw[hx];simp
     rw[hY]at hA
     obtain⟨g1,e6'⟩:=fi.ap (m:=(sumT (fun s=>coefL a.t s+coefL b.t s) (ns.take (i+1))).length) (Heap.Le.refl _) hA
     repeat' (first|with_reducible apply And.intro|simp only[go_sem,seval,e6']|simp(disch:=omega) only[wrap64,Rw_at]|(intro hx_;try simp only[set_none]at hx_)|omega)
     rw[←hlen1]at g1
     refine nx_mk (i+1,some b',_) ⟨by simp only[];omega,?_⟩ (by simp only[];omega) (by(try simp only[go_sem,seval,out_some])<;>(try simp(disch:=omega) [wrap64])<;>(try omega)) (Heap.Le.refl _)
     simp only[]
     rw[←hlen1];exact g1
   ·have hkd:decide ((i:Int)<ns.length)=false:=decide_eq_false (by omega)
    have hie:i=ns.length:=by omega
    subst hie
    rw[List.take_length,←hpt]at fi e6
    have tc: ∀(Q:D→Heap→Prop),Q (.tuple [.agg (linC (limitedL (plusL a b)).1),.int .i64 (limitedL (plusL a b)).2]) (delB Hp ob)→ACalls Tryz.prog 60 [.agg [outG 2 (plusL a b).t.length ob,.int .i64 (a.k+b.k),.bool E]] Hp Q:=fun Q hq=>ACalls.aggO (by rw[Rw_len]) fi.eo (by have:=told_a (plusL a b) fp (delB Hp ob) hq;unfold linC at this;rw[eE]at this;exact this)
    have o1:(match outG 2 (plusL a b).t.length ob with|D.undef=>false|D.agg cs=>false|D.tuple cs=>false|x=>true)=true:=by cases ob<;>rfl
    have e4d:=fi.del _ _ e4
    repeat' (first|with_reducible apply And.intro|simp only[go_sem,seval,hkd,e6,e4d,o1]|simp(disch:=omega) only[wrap64,Rw_at]|(intro hx_;try simp only[set_none]at hx_)|with_reducible refine tc _ ?_|omega)
    exact Fin.less (le_set4 (hle.trans fi.del) g4') h
  ·have vb:validL b=false:=by simpa using vb
   have e:addL a b=(nilL,2):=by unfold addL;rw[if_neg (by rw[vb];simp)]
   rw[e]at h
   repeat' (first|with_reducible apply And.intro|simp only[go_sem,seval,e2,e3,e4,va,vb]|simp(disch:=omega) only[wrap64,Rw_at]|(intro hx_;try simp only[set_none]at hx_)|with_reducible refine rValid_a a fa _ ?_|with_reducible refine rValid_a b fb _ ?_|omega)
   exact Fin.nilR (nil_lin 0 2 false) (Fin.less (hls _) h)
 ·have va:validL a=false:=by simpa using va
  have e:addL a b=(nilL,2):=by unfold addL;rw[if_neg (by rw[va];simp)]
  rw[e]at h
  repeat' (first|with_reducible apply And.intro|simp only[go_sem,seval,e2,e3,e4,va]|simp(disch:=omega) only[wrap64,Rw_at]|(intro hx_;try simp only[set_none]at hx_)|with_reducible refine rValid_a a fa _ ?_|omega)
  exact Fin.nilR (nil_lin 0 2 false) (Fin.less (hls _) h)
theorem fits2{c d:LinV}(fc:LinFit c)(fd:LinFit d): ∀x∈[c,d],LinFit x:=fun x hx=>by
 simp only[List.mem_cons,List.not_mem_nil,or_false]at hx
 rcases hx with rfl|rfl
 ·exact fc
 ·exact fd
end Go.Proofs.YtacekpdodelnbaaGreatDoor
namespace Go.Lin
open Go Go.Av Go.Lexs
theorem lim_len(a:LinV):(limitedL a).1.t.length≤12:=by
 unfold limitedL;split
 ·rename_i h;exact(valid_ok h).len
 ·exact Nat.zero_le _
theorem add_len(a b:LinV):(addL a b).1.t.length≤12:=by
 unfold addL;split
 ·exact lim_len _
 ·exact Nat.zero_le _
theorem times_len(a:LinV)(n:Int):(timesR a n).1.t.length≤12:=by
 unfold timesR;split
 ·split
  ·exact Nat.zero_le _
  ·exact lim_len _
 ·exact Nat.zero_le _
theorem negate_len(a:LinV):(negateR a).1.t.length≤12:=by
 unfold negateR;split
 ·split
  ·exact Nat.zero_le _
  ·exact lim_len _
 ·exact Nat.zero_le _
theorem normal_len(a:LinV):(normalR a).1.t.length≤12:=by
 unfold normalR;split
 ·rename_i h
  split
  ·simp only;split<;>exact Nat.zero_le _
  ·split
   ·exact Nat.zero_le _
   ·unfold divL;simp only[List.length_map];exact(valid_ok h).len
 ·exact Nat.zero_le _
end Go.Lin
namespace Go.Proofs.YtacekpdodelnbaaGreatDoor
open Go Go.Av Go.Lexs Go.Lin
attribute [local irreducible] ACalls at8
theorem rSameL_a{Q}(a:LinV)(hlen:a.t.length≤12)(H:Heap)(h:Q (.bool true) H):ACalls Tryz.prog 27 [.agg (linC a),.agg (linC a)] H Q:=by
 refine acalls_of_wp [(6,.par)] Tryz.mixed Tryz.func27 rfl (by kernel_rfl) (of_decide_eq_true (by kernel_rfl)) (by kernel_rfl) ?_
 simp only[go_sem,seval,Tryz.results27]
 intro b2 g2 b3 g3
 simp only[set_none]at g3
 have e2:((H.set b2 (.box (linC a))).set b3 (.box (linC a))) b2=some (.box (linC a)):=by rw[heap_ne _ g3.1.symm,heap_same]
 have e3:((H.set b2 (.box (linC a))).set b3 (.box (linC a))) b3=some (.box (linC a)):=heap_same _ _
 have hle:H.Le ((H.set b2 (.box (linC a))).set b3 (.box (linC a))):=(heap_le_set g2).trans (heap_le_set (by simp only[set_none];exact g3))
 generalize (H.set b2 (.box (linC a))).set b3 (.box (linC a))=Bs at e2 e3 hle⊢
 have m2:b2∈[b2,b3]:=by simp
 have m3:b3∈[b2,b3]:=by simp
 obtain⟨T,K,E⟩:=a
 have hlen:T.length≤12:=hlen
 have hee:(E==E)=true:=by cases E<;>rfl
 repeat' (first|with_reducible apply And.intro|simp only[go_sem,seval,e2,e3,hee]|simp(disch:=omega) only[wrap64,Rw_at]|(intro hx_;try simp only[set_none]at hx_)|omega)
 refine loop_c [2,3,29] (fun(i:Nat)=>[(30,.int .i64 i)]) (fun(i:Nat)=>Bs) (fun(i:Nat)=>i≤T.length) (fun(i:Nat)=>T.length-i) (0) (Nat.zero_le _) (by(try simp only[go_sem,seval])<;>(try simp(disch:=omega) [wrap64])<;>(try omega)) (Heap.Le.refl _) ?_
 rintro Ec rfl i hi
 by_cases hlt:i<T.length
 ·have hkd:decide ((i:Int)<T.length)=true:=decide_eq_true (by omega)
  have hti:(i:Int)<T.length:=by omega
  repeat' (first|with_reducible apply And.intro|simp only[go_sem,seval,hkd,hti,Rw_at _ _ hlt,Rw_get _ _ hlt]|simp(disch:=omega) only[wrap64,Rw_at]|(intro hx_;try simp only[set_none]at hx_)|omega)
  refine par_mk (fun i'=>.undef) [b2,b3] ?_
  repeat' (first|with_reducible apply And.intro|simp only[go_sem,seval,hkd,hti,Rw_at _ _ hlt,Rw_get _ _ hlt,e2,e3,m2,m3]|simp(disch:=omega) only[wrap64,Rw_at]|(intro hx_;try simp only[set_none]at hx_)|omega)
  exact nx_mk (i+1) (by omega) (by omega) (by(try simp only[go_sem,seval])<;>(try simp(disch:=omega) [wrap64])<;>(try omega)) (by simp only[Go.Av.Heap.Le,Go.Av.Heap.set,Go.Av.Heap.del]at* <;>grind)
 ·have hkd:decide ((i:Int)<T.length)=false:=decide_eq_false (by omega)
  repeat' (first|with_reducible apply And.intro|simp only[go_sem,seval,hkd]|simp(disch:=omega) only[wrap64,Rw_at]|(intro hx_;try simp only[set_none]at hx_)|omega)
  exact Fin.less hle h
set_option maxHeartbeats 4000000 in
theorem lawSums_a{Q}(a b:LinV)(n:Int)(fa:LinFit a)(fb:LinFit b)(H:Heap)(hT:Tabs H)(h:Q (.bool true) H):ACalls Tryz.prog 4 [.agg (linC a),.agg (linC b),.int .i64 n] H Q:=by
 refine acalls_of_wp [] Tryz.mixed Tryz.func4 rfl (by kernel_rfl) (of_decide_eq_true (by kernel_rfl)) (by kernel_rfl) ?_
 simp only[go_sem,seval,Tryz.results4]
 intro b3 g3 b4 g4
 simp only[set_none]at g4
 have eb3:((H.set b3 (.box (linC a))).set b4 (.box (linC b))) b3=some (.box (linC a)):=by rw[heap_ne _ g4.1.symm,heap_same]
 have eb4:((H.set b3 (.box (linC a))).set b4 (.box (linC b))) b4=some (.box (linC b)):=heap_same _ _
 have hle0:H.Le ((H.set b3 (.box (linC a))).set b4 (.box (linC b))):=(heap_le_set g3).trans (heap_le_set (by simp only[set_none];exact g4))
 generalize (H.set b3 (.box (linC a))).set b4 (.box (linC b))=H0 at eb3 eb4 hle0⊢
 have hT0:=hT.le hle0
 repeat' (first|with_reducible apply And.intro|simp only[go_sem,seval,eb3,eb4]|simp(disch:=first|omega|grind) only[heap_ne_]|(intro hx_;try simp only[set_none]at hx_)|omega)
 refine few1_a (by assumption) [a,b] rfl (by simp) (fits2 fa fb) fun x=>?_
 cases x with
 |false=>
  repeat' (first|with_reducible apply And.intro|simp only[go_sem,seval]|simp(disch:=first|omega|grind) only[heap_ne_]|(intro hx_;try simp only[set_none]at hx_)|with_reducible refine awake_a _ hT0 ?_|omega)
  exact Fin.less hle0 h
 |true=>
  repeat' (first|with_reducible apply And.intro|simp only[go_sem,seval,eb3,eb4]|simp(disch:=first|omega|grind) only[heap_ne_]|(intro hx_;try simp only[set_none]at hx_)|omega)
  refine add_a a b fa fb _ ?_
  repeat' (first|with_reducible apply And.intro|simp only[go_sem,seval,eb3,eb4]|simp(disch:=first|omega|grind) only[heap_ne_]|(intro hx_;try simp only[set_none]at hx_)|omega)
  rename_i b7
  have hb7:=hx_
  clear hx_
  have eb7:(H0.set b7 (.box (linC (addL a b).1))) b7=some (.box (linC (addL a b).1)):=heap_same _ _
  have eb3:=(heap_le_set (o:=.box (linC (addL a b).1)) hb7) _ _ eb3
  have eb4:=(heap_le_set (o:=.box (linC (addL a b).1)) hb7) _ _ eb4
  have hle1:=hle0.trans (heap_le_set (o:=.box (linC (addL a b).1)) hb7)
  generalize H0.set b7 (.box (linC (addL a b).1))=H1 at eb3 eb4 eb7 hle1⊢
  clear hb7
  refine rAdd_a a b fa fb _ ?_
  repeat' (first|with_reducible apply And.intro|simp only[go_sem,seval,eb3,eb4]|simp(disch:=first|omega|grind) only[heap_ne_]|(intro hx_;try simp only[set_none]at hx_)|omega)
  rename_i b9
  have hb9:=hx_
  clear hx_
  have eb9:(H1.set b9 (.box (linC (addL a b).1))) b9=some (.box (linC (addL a b).1)):=heap_same _ _
  have eb3:=(heap_le_set (o:=.box (linC (addL a b).1)) hb9) _ _ eb3
  have eb4:=(heap_le_set (o:=.box (linC (addL a b).1)) hb9) _ _ eb4
  have eb7:=(heap_le_set (o:=.box (linC (addL a b).1)) hb9) _ _ eb7
  have hle2:=hle1.trans (heap_le_set (o:=.box (linC (addL a b).1)) hb9)
  generalize H1.set b9 (.box (linC (addL a b).1))=H2 at eb3 eb4 eb7 eb9 hle2⊢
  clear hb9
  refine mulL_a a fa n _ ?_
  repeat' (first|with_reducible apply And.intro|simp only[go_sem,seval,eb3,eb4]|simp(disch:=first|omega|grind) only[heap_ne_]|(intro hx_;try simp only[set_none]at hx_)|omega)
  rename_i b11
  have hb11:=hx_
  clear hx_
  have eb11:(H2.set b11 (.box (linC (timesR a n).1))) b11=some (.box (linC (timesR a n).1)):=heap_same _ _
  have eb3:=(heap_le_set (o:=.box (linC (timesR a n).1)) hb11) _ _ eb3
  have eb4:=(heap_le_set (o:=.box (linC (timesR a n).1)) hb11) _ _ eb4
  have eb7:=(heap_le_set (o:=.box (linC (timesR a n).1)) hb11) _ _ eb7
  have eb9:=(heap_le_set (o:=.box (linC (timesR a n).1)) hb11) _ _ eb9
  have hle3:=hle2.trans (heap_le_set (o:=.box (linC (timesR a n).1)) hb11)
  generalize H2.set b11 (.box (linC (timesR a n).1))=H3 at eb3 eb4 eb7 eb9 eb11 hle3⊢
  clear hb11
  refine rmulL_a a fa n _ ?_
  repeat' (first|with_reducible apply And.intro|simp only[go_sem,seval,eb3,eb4]|simp(disch:=first|omega|grind) only[heap_ne_]|(intro hx_;try simp only[set_none]at hx_)|omega)
  rename_i b13
  have hb13:=hx_
  clear hx_
  have eb13:(H3.set b13 (.box (linC (timesR a n).1))) b13=some (.box (linC (timesR a n).1)):=heap_same _ _
  have eb3:=(heap_le_set (o:=.box (linC (timesR a n).1)) hb13) _ _ eb3
  have eb4:=(heap_le_set (o:=.box (linC (timesR a n).1)) hb13) _ _ eb4
  have eb7:=(heap_le_set (o:=.box (linC (timesR a n).1)) hb13) _ _ eb7
  have eb9:=(heap_le_set (o:=.box (linC (timesR a n).1)) hb13) _ _ eb9
  have eb11:=(heap_le_set (o:=.box (linC (timesR a n).1)) hb13) _ _ eb11
  have hle4:=hle3.trans (heap_le_set (o:=.box (linC (timesR a n).1)) hb13)
  generalize H3.set b13 (.box (linC (timesR a n).1))=H4 at eb3 eb4 eb7 eb9 eb11 eb13 hle4⊢
  clear hb13
  refine negateL_a a fa _ ?_
  repeat' (first|with_reducible apply And.intro|simp only[go_sem,seval,eb3,eb4]|simp(disch:=first|omega|grind) only[heap_ne_]|(intro hx_;try simp only[set_none]at hx_)|omega)
  rename_i b15
  have hb15:=hx_
  clear hx_
  have eb15:(H4.set b15 (.box (linC (negateR a).1))) b15=some (.box (linC (negateR a).1)):=heap_same _ _
  have eb3:=(heap_le_set (o:=.box (linC (negateR a).1)) hb15) _ _ eb3
  have eb4:=(heap_le_set (o:=.box (linC (negateR a).1)) hb15) _ _ eb4
  have eb7:=(heap_le_set (o:=.box (linC (negateR a).1)) hb15) _ _ eb7
  have eb9:=(heap_le_set (o:=.box (linC (negateR a).1)) hb15) _ _ eb9
  have eb11:=(heap_le_set (o:=.box (linC (negateR a).1)) hb15) _ _ eb11
  have eb13:=(heap_le_set (o:=.box (linC (negateR a).1)) hb15) _ _ eb13
  have hle5:=hle4.trans (heap_le_set (o:=.box (linC (negateR a).1)) hb15)
  generalize H4.set b15 (.box (linC (negateR a).1))=H5 at eb3 eb4 eb7 eb9 eb11 eb13 eb15 hle5⊢
  clear hb15
  refine rnegateL_a a fa _ ?_
  repeat' (first|with_reducible apply And.intro|simp only[go_sem,seval,eb3,eb4]|simp(disch:=first|omega|grind) only[heap_ne_]|(intro hx_;try simp only[set_none]at hx_)|omega)
  rename_i b17
  have hb17:=hx_
  clear hx_
  have eb17:(H5.set b17 (.box (linC (negateR a).1))) b17=some (.box (linC (negateR a).1)):=heap_same _ _
  have eb3:=(heap_le_set (o:=.box (linC (negateR a).1)) hb17) _ _ eb3
  have eb4:=(heap_le_set (o:=.box (linC (negateR a).1)) hb17) _ _ eb4
  have eb7:=(heap_le_set (o:=.box (linC (negateR a).1)) hb17) _ _ eb7
  have eb9:=(heap_le_set (o:=.box (linC (negateR a).1)) hb17) _ _ eb9
  have eb11:=(heap_le_set (o:=.box (linC (negateR a).1)) hb17) _ _ eb11
  have eb13:=(heap_le_set (o:=.box (linC (negateR a).1)) hb17) _ _ eb13
  have eb15:=(heap_le_set (o:=.box (linC (negateR a).1)) hb17) _ _ eb15
  have hle6:=hle5.trans (heap_le_set (o:=.box (linC (negateR a).1)) hb17)
  generalize H5.set b17 (.box (linC (negateR a).1))=H6 at eb3 eb4 eb7 eb9 eb11 eb13 eb15 eb17 hle6⊢
  clear hb17
  refine normalL_a a fa _ ?_
  repeat' (first|with_reducible apply And.intro|simp only[go_sem,seval,eb3,eb4]|simp(disch:=first|omega|grind) only[heap_ne_]|(intro hx_;try simp only[set_none]at hx_)|omega)
  rename_i b19
  have hb19:=hx_
  clear hx_
  have eb19:(H6.set b19 (.box (linC (normalR a).1))) b19=some (.box (linC (normalR a).1)):=heap_same _ _
  have eb3:=(heap_le_set (o:=.box (linC (normalR a).1)) hb19) _ _ eb3
  have eb4:=(heap_le_set (o:=.box (linC (normalR a).1)) hb19) _ _ eb4
  have eb7:=(heap_le_set (o:=.box (linC (normalR a).1)) hb19) _ _ eb7
  have eb9:=(heap_le_set (o:=.box (linC (normalR a).1)) hb19) _ _ eb9
  have eb11:=(heap_le_set (o:=.box (linC (normalR a).1)) hb19) _ _ eb11
  have eb13:=(heap_le_set (o:=.box (linC (normalR a).1)) hb19) _ _ eb13
  have eb15:=(heap_le_set (o:=.box (linC (normalR a).1)) hb19) _ _ eb15
  have eb17:=(heap_le_set (o:=.box (linC (normalR a).1)) hb19) _ _ eb17
  have hle7:=hle6.trans (heap_le_set (o:=.box (linC (normalR a).1)) hb19)
  generalize H6.set b19 (.box (linC (normalR a).1))=H7 at eb3 eb4 eb7 eb9 eb11 eb13 eb15 eb17 eb19 hle7⊢
  clear hb19
  refine rnormalL_a a fa _ ?_
  repeat' (first|with_reducible apply And.intro|simp only[go_sem,seval,eb3,eb4,eb7,eb9]|simp(disch:=first|omega|grind) only[heap_ne_]|(intro hx_;try simp only[set_none]at hx_)|omega)
  rename_i b21
  have hb21:=hx_
  clear hx_
  have eb21:(H7.set b21 (.box (linC (normalR a).1))) b21=some (.box (linC (normalR a).1)):=heap_same _ _
  have eb3:=(heap_le_set (o:=.box (linC (normalR a).1)) hb21) _ _ eb3
  have eb4:=(heap_le_set (o:=.box (linC (normalR a).1)) hb21) _ _ eb4
  have eb7:=(heap_le_set (o:=.box (linC (normalR a).1)) hb21) _ _ eb7
  have eb9:=(heap_le_set (o:=.box (linC (normalR a).1)) hb21) _ _ eb9
  have eb11:=(heap_le_set (o:=.box (linC (normalR a).1)) hb21) _ _ eb11
  have eb13:=(heap_le_set (o:=.box (linC (normalR a).1)) hb21) _ _ eb13
  have eb15:=(heap_le_set (o:=.box (linC (normalR a).1)) hb21) _ _ eb15
  have eb17:=(heap_le_set (o:=.box (linC (normalR a).1)) hb21) _ _ eb17
  have eb19:=(heap_le_set (o:=.box (linC (normalR a).1)) hb21) _ _ eb19
  have hle8:=hle7.trans (heap_le_set (o:=.box (linC (normalR a).1)) hb21)
  generalize H7.set b21 (.box (linC (normalR a).1))=H8 at eb3 eb4 eb7 eb9 eb11 eb13 eb15 eb17 eb19 eb21 hle8⊢
  clear hb21
  have hTk:=hT.le hle8
  refine rSameL_a _ (add_len a b) _ ?_
  repeat' (first|with_reducible apply And.intro|simp only[go_sem,seval,eb11,eb13,eq_self,decide_true]|simp(disch:=first|omega|grind) only[heap_ne_]|(intro hx_;try simp only[set_none]at hx_)|omega)
  refine rSameL_a _ (times_len a n) _ ?_
  repeat' (first|with_reducible apply And.intro|simp only[go_sem,seval,eb15,eb17,eq_self,decide_true]|simp(disch:=first|omega|grind) only[heap_ne_]|(intro hx_;try simp only[set_none]at hx_)|omega)
  refine rSameL_a _ (negate_len a) _ ?_
  repeat' (first|with_reducible apply And.intro|simp only[go_sem,seval,eb19,eb21,eq_self,decide_true]|simp(disch:=first|omega|grind) only[heap_ne_]|(intro hx_;try simp only[set_none]at hx_)|omega)
  refine rSameL_a _ (normal_len a) _ ?_
  repeat' (first|with_reducible apply And.intro|simp only[go_sem,seval,eq_self,decide_true]|simp(disch:=first|omega|grind) only[heap_ne_]|(intro hx_;try simp only[set_none]at hx_)|with_reducible refine awake_a _ hTk ?_|omega)
  exact Fin.less hle8 h
end Go.Proofs.YtacekpdodelnbaaGreatDoor
end
section
namespace Go.Av
open Go.RowKit Go.ChangeShapes Go.WideShapes
section
variable {H:Type} {enc:TypeId×Value→H} {P:Program}
theorem fitsV_int{t:TypeId}{k:IntKind}{x:D}(hu:P.underlying t=some (.int k))(h:FitsV P t x): ∃n,x= .int k n∧(Lit.int k n).wf=true:=by
 obtain⟨s,h1,h2⟩:=fits_int hu (fitsV_leaf (by simp[hu]) h)
 simp at h1
 exact⟨s,h1,h2⟩
end
end Go.Av
end
section
set_option maxRecDepth 100000
namespace Go.Proofs.YtacekpdodelnbaaGreatDoor.linearSums
open Go Go.Av Go.Lexs Go.Lin Go.ChangeShapes Go.WideShapes Go.RowKit
theorem lifted(os:Os)(started:os.Started)(H:Type)(enc:TypeId×Value→H):
  ReturnsInHanded {} Tryz.checked os 4 .any (fun w args=>(Rows.linearSumsSpec.pre enc Tryz.prog Tryz.f4 Rows.linearSumsRow.domain false w args∧laidMetH Tryz.prog Rows.linearSumsRow.laid w)∧sizedMet enc Tryz.prog Tryz.f4 (OpenSpec.ofChange Rows.linearSumsSpec) false w args)
   (Rows.linearSumsSpec.post enc Tryz.prog Tryz.f4 false true false false):=by
 refine returnsInHanded_of_change_and (C:=Tryz.checked) (X:=fun w _=>laidMetH Tryz.prog Rows.linearSumsRow.laid w) (fun _ _ _ hh h=>h.of_heap hh) own started (by kernel_rfl) Tryz.func4
  (ChangeSpec.witness_shaped (enc:=enc) (C:=Tryz.checked) (os:=os) (X:=fun w _=>laidMetH Tryz.prog Rows.linearSumsRow.laid w) false (World.laidAll Tryz.prog os Rows.linearSumsRow.laid) #[.agg #[.slice none 0 0,.int .i64 0,.bool false],.agg #[.slice none 0 0,.int .i64 0,.bool false],.int .i64 0] 8 (World.laidAll_os _ _ _)
   (World.shaped_of_ZipB (by kernel_rfl) (by kernel_rfl)) (by kernel_rfl) (by kernel_rfl) (by kernel_rfl)
   (by rw[MakeChecks.laidMetH_plain _ _ _ (by kernel_rfl)];exact laidMet_laidAll _ (by kernel_rfl) (by kernel_rfl))) ?_
 intro W base args ds gs before hval hW _ hsz hL _
 rw[MakeChecks.laidMetH_plain _ _ _ (by kernel_rfl)]at hL
 obtain⟨tu,tv,hS⟩:=tabs_sat hL (by simp[Rows.linearSumsRow]) (by simp[Rows.linearSumsRow]) (by simp[Rows.linearSumsRow])
 have hW':=hW
 obtain⟨p,q,hA0,hV,_,_,_⟩:=hW
 rw[Tryz.params4]at hA0 hval hsz
 obtain⟨v0,v1,v2,d0,d1,d2,p0,p1,p2,rfl,rfl,rfl,h0,h1,h2⟩:=trodAll_three hA0
 obtain⟨rfl,rfl⟩:=trodVars_none hV
 obtain⟨x0,k0,r0⟩:=arg_fits plain19 (tabs_held tu tv) (by simp) (hval 0 _ _ rfl rfl) h0 (weightsEach_at hsz 0 _ _ rfl rfl)
 obtain⟨x1,k1,r1⟩:=arg_fits plain19 (tabs_held tu tv) (by simp) (hval 1 _ _ rfl rfl) h1 (weightsEach_at hsz 1 _ _ rfl rfl)
 obtain⟨x2,k2,r2⟩:=arg_fits plain19 (tabs_held tu tv) (by simp) (hval 2 _ _ rfl rfl) h2 (weightsEach_at hsz 2 _ _ rfl rfl)
 obtain⟨a,rfl,fa⟩:=fitsV_lin k0
 obtain⟨b,rfl,fb⟩:=fitsV_lin k1
 obtain⟨n,rfl,hn⟩:=fitsV_int (k:=.i64) (by kernel_rfl) k2
 have hn:=wf_i64 hn
 have hre:reachBytes=140737488351232:=rfl
 refine law_calls laidOut (by kernel_rfl) rfl (tb:=4) (by kernel_rfl) (by kernel_rfl) rfl hW' (tabs tu tv) (tabs_held tu tv) hS [.agg (linC a),.agg (linC b),.int .i64 n] rfl (fun i d hd=>?_) (fun Q hQ=>lawSums_a a b n fa fb _ (tabs_tabs tu tv) hQ)
 match i,hd with
 |0,hd=>simp at hd;subst hd;exact r0
 |1,hd=>simp at hd;subst hd;exact r1
 |2,hd=>simp at hd;subst hd;exact r2
 |i+3,hd=>simp at hd
theorem said:Rows.LinearSumsSaid:=
 OpenClaim.holds_of_wide 4 Tryz.f4 rfl rfl rfl rfl rfl rfl rfl ⟨rfl,rfl,rfl,rfl,rfl⟩ rfl rfl rfl rfl rfl (by kernel_rfl) Tryz.func4 (by kernel_rfl)
  (of_decide_eq_true (by kernel_rfl)) (by unfold Func.isWrapper;first|(rw[if_pos (by decide+kernel)];kernel_rfl)|(rw[if_neg (by decide+kernel)];exact⟨rfl,rfl⟩))
  (fun os started H enc _=>lifted os started H enc)
theorem plain(f:FuncId)(fn:Func)(hf:Tryz.pinned.checked.prog.funcNamed "voussoir/voussoirlaw19.LinearSums" =some f)(hfn:Tryz.pinned.checked.prog.funcs[f]? =some fn):
  true=Tryz.pinned.checked.prog.looks []∧∀(j:Nat) t,fn.params[j]? =some t→Tryz.pinned.checked.prog.wantsStandIn t=false:=by
 obtain rfl:f=4:=Option.some.inj ((show Tryz.prog.funcNamed "voussoir/voussoirlaw19.LinearSums" =some 4 by kernel_rfl).symm.trans hf) |>.symm
 obtain rfl:fn=Tryz.f4:=(Option.some.inj (Tryz.func4.symm.trans hfn)).symm
 refine⟨by kernel_rfl,fun j t ht=>?_⟩
 have hall:((Tryz.f4.params.toList).all fun u=> !Tryz.prog.wantsStandIn u)=true:=by kernel_rfl
 have:=List.all_eq_true.1 hall t (by rw[Array.mem_toList_iff];exact Array.mem_of_getElem? ht)
 exact(by simpa using this:Tryz.prog.wantsStandIn t=false)
theorem card:Rows.LinearSumsCardSaid:=
 Claim7.holds_tied_plain_at .later [] _ _ _ _ said (fun _ h=>by cases h) (by kernel_rfl) (fun _ h=>by cases h) linearSums_row_tie rfl ⟨rfl,rfl⟩ (by kernel_rfl) rfl plain (by kernel_rfl)
end Go.Proofs.YtacekpdodelnbaaGreatDoor.linearSums
namespace Go.Proofs.YtacekpdodelnbaaGreatDoor
theorem linearSums_holds:Rows.LinearSumsCardSaid:=linearSums.card
end Go.Proofs.YtacekpdodelnbaaGreatDoor
end
