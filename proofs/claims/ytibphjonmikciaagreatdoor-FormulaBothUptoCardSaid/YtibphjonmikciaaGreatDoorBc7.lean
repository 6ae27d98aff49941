/- FormulaBoth, the second form, proved: for every input of bulk at most 1048576 the law returns true, and the arguments read as before; the listed tables hold what the program's text lays (the card). No other condition than the row's own. -/
import Derived.Test.YtibphjonmikciaaGreatDoorProg
import Derived.Test.YtibphjonmikciaaGreatDoorRows
import Derived.Test.YtibphjonmikciaaGreatDoorCards
import Derived.Test.YtibphjonmikciaaGreatDoorTie
import Derived.Test.YtibphjonmikciaaGreatDoorBc6
set_option linter.unusedSimpArgs false
set_option linter.unusedVariables false
set_option maxRecDepth 100000
namespace Go.Proofs.YtibphjonmikciaaGreatDoor.formulaBoth
open Go Go.Av Go.Lexs Go.Lin Go.Fo Go.ChangeShapes Go.WideShapes Go.RowKit
theorem C7E(os:Os){H:Type}(e:TypeId×Value→H): ∃d,DataW.whole e Tryz.prog ((World.laidAll Tryz.prog os Rows.formulaBothUptoRow.laid).forCall (fun _ _=>0) ⟨#[],#[.slice none 0 0],[]⟩).memory Tryz.f5.params.toList Rows.formulaBothSpec.vars false (#[.slice none 0 0]:Array Value).toList 8=some ([.nil],[],d):=
 ⟨[],by kernel_rfl⟩
theorem lifted(os:Os)(e:os.Started)(H:Type)(j:TypeId×Value→H)(F:Stop.Interp):
  ReturnsInHanded {} Tryz.checked os 5 .any ((Rows.OpenSpec.upto Rows.formulaBothSpec).preRow j Tryz.prog Tryz.f5 Rows.formulaBothUptoRow.domain false Rows.formulaBothUptoRow.laid) (((Rows.OpenSpec.upto Rows.formulaBothSpec).at F).post j Tryz.prog Tryz.f5 false true false false):=by
 obtain⟨r,hx⟩:=C7E os j;have z:Input.okWideB Tryz.checked.prog ((World.laidAll Tryz.prog os Rows.formulaBothUptoRow.laid).forCall (fun _ _=>0) ⟨#[],#[.slice none 0 0],[]⟩) 5 ⟨#[],#[.slice none 0 0],[]⟩=true:=by kernel_rfl
 refine returnsInHanded_of_row (C:=Tryz.checked) (s:=Rows.OpenSpec.upto Rows.formulaBothSpec) own e (by kernel_rfl) Tryz.func5
  ⟨World.laidAll Tryz.prog os Rows.formulaBothUptoRow.laid,fun _ _=>0,⟨#[],#[.slice none 0 0],[]⟩,World.laidAll_os _ _ _,World.shaped_of_ZipB (by kernel_rfl) (by kernel_rfl),rfl,(Input.okWide_of_okWideB z).2,
   OpenSpec.preRow_of_cond 8 hx (by kernel_rfl) (fun k hk=>by cases hk;kernel_rfl) (by kernel_rfl) (by rw[MakeChecks.laidMetH_plain _ _ _ (by kernel_rfl)];exact laidMet_laidAll _ (by kernel_rfl) (by kernel_rfl)),by
    simp only[Assume.holds];exact⟨by simp,by simp,by simp,by simp,by simp⟩⟩ ?_
 intro W base args ds gs u g G _ hk hsz I _ _;have hb:=D0Z (hk Rows.uptoSmall rfl);rw[MakeChecks.laidMetH_plain _ _ _ (by kernel_rfl)]at I;obtain⟨x,y,J⟩:=B74 I (by simp[Rows.formulaBothUptoRow]) (by simp[Rows.formulaBothUptoRow]) (by simp[Rows.formulaBothUptoRow]);have A:=G;obtain⟨p,q,o,L,_,_,_⟩:=G;rw[Tryz.params5]at o g hsz;obtain⟨v0,d0,rfl,rfl,M⟩:=trodAll_one o;obtain⟨rfl,rfl⟩:=trodVars_none L;obtain⟨x0,O,T⟩:=B45 C7D C0R (A74 x y) (by simp) (g 0 _ _ rfl rfl) M (A0J hsz 0 _ _ rfl rfl);obtain⟨l,rfl,U,V,wl⟩:=A9G O;simp only[D1N,Rows.uptoBulkAll]at hb;have X:reachBytes=140737488351232:=rfl;refine B42 C0P (by kernel_rfl) rfl (tb:=4) (by kernel_rfl) (by kernel_rfl) rfl A (A9F x y) (A74 x y) J [.sl 7 (Rw C1 l)] rfl (fun i d m=>?_) (fun Q Y=>B40 l V U (fun f h=>.inl (by have:=B3Q h;omega)) (fun _=>by omega) _ (B43 x y) Y)
 match i,m with
 |0,m=>simp at m;subst m;exact T
 |i+1,m=>simp at m
set_option maxHeartbeats 4000000 in
theorem facts:joinedFacts Tryz.pinned.checked.prog 5 Tryz.f5 (Rows.OpenSpec.upto Rows.formulaBothSpec).bare Rows.formulaBothUptoRow=true:=by
 unfold joinedFacts;simp only[D0l];repeat' (refine D0Y ?_ ?_)
 all_goals first
  |with_reducible exact C0S
  |with_reducible exact B77
  |with_reducible exact B78
  |with_reducible exact C4B
  |(as_aux_lemma=>kernel_rfl)
theorem said:Rows.FormulaBothUptoSaid:=
 OpenClaim.holds_of_cond 5 Tryz.f5 rfl rfl rfl rfl rfl rfl rfl ⟨rfl,rfl,rfl,rfl,rfl⟩ rfl rfl rfl rfl rfl (by kernel_rfl) Tryz.func5 facts
  (D0Z (by kernel_rfl)) (by unfold Func.isWrapper;first|(rw[if_pos (by decide+kernel)];kernel_rfl)|(rw[if_neg (by decide+kernel)];exact⟨rfl,rfl⟩))
  (fun os d H e _ F=>by rw[OpenClaim.pre_eq_preRow];exact lifted os d H e F)
theorem plain(f:FuncId)(fn:Func)(g:Tryz.pinned.checked.prog.funcNamed "voussoir/voussoirlaw20.FormulaBoth" =some f)(e:Tryz.pinned.checked.prog.funcs[f]? =some fn):
  true=Tryz.pinned.checked.prog.looks []∧∀(j:Nat) t,fn.params[j]? =some t→Tryz.pinned.checked.prog.wantsStandIn t=false:=by
 obtain rfl:f=5:=Option.some.inj ((show Tryz.prog.funcNamed "voussoir/voussoirlaw20.FormulaBoth" =some 5 by kernel_rfl).symm.trans g) |>.symm;obtain rfl:fn=Tryz.f5:=(Option.some.inj (Tryz.func5.symm.trans e)).symm;refine⟨by kernel_rfl,fun j t h=>?_⟩;have d:((Tryz.f5.params.toList).all fun u=> !Tryz.prog.wantsStandIn u)=true:=by kernel_rfl
 have:=D09.1 d t (by rw[D1D];exact Array.mem_of_getElem? h);exact(by simpa using this:Tryz.prog.wantsStandIn t=false)
theorem card:Rows.FormulaBothUptoCardSaid:=
 Claim7.holds_tied_plain_at .later [] _ _ _ _ said (fun _ h=>by cases h) (by kernel_rfl) (fun _ h=>by cases h) formulaBothUpto_row_tie rfl ⟨rfl,rfl⟩ (by kernel_rfl) rfl plain (by kernel_rfl)
end Go.Proofs.YtibphjonmikciaaGreatDoor.formulaBoth
namespace Go.Proofs.YtibphjonmikciaaGreatDoor
theorem formulaBoth_holds:Rows.FormulaBothUptoCardSaid:=formulaBoth.card
end Go.Proofs.YtibphjonmikciaaGreatDoor
