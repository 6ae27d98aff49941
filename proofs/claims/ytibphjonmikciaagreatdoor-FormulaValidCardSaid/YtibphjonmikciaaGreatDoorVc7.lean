/- FormulaValid, proved: for every input the law returns true, and the arguments read as before; the listed tables hold what the program's text lays (the card). No other condition than the row's own. -/
import Derived.Test.YtibphjonmikciaaGreatDoorProg
import Derived.Test.YtibphjonmikciaaGreatDoorRows
import Derived.Test.YtibphjonmikciaaGreatDoorCards
import Derived.Test.YtibphjonmikciaaGreatDoorTie
import Derived.Test.YtibphjonmikciaaGreatDoorVc6
set_option linter.unusedSimpArgs false
set_option linter.unusedVariables false
set_option maxRecDepth 100000
namespace Go.Proofs.YtibphjonmikciaaGreatDoor.formulaValid
open Go Go.Av Go.Lexs Go.Lin Go.Fo Go.ChangeShapes Go.WideShapes Go.RowKit
theorem lifted(os:Os)(e:os.Started)(H:Type)(enc:TypeId×Value→H):
  ReturnsInHanded {} Tryz.checked os 3 .any (fun w args=>(Rows.formulaValidSpec.pre enc Tryz.prog Tryz.f3 Rows.formulaValidRow.domain false w args∧laidMetH Tryz.prog Rows.formulaValidRow.laid w)∧sizedMet enc Tryz.prog Tryz.f3 (OpenSpec.ofChange Rows.formulaValidSpec) false w args)
   (Rows.formulaValidSpec.post enc Tryz.prog Tryz.f3 false true false false):=by
 refine returnsInHanded_of_change_and (C:=Tryz.checked) (X:=fun w _=>laidMetH Tryz.prog Rows.formulaValidRow.laid w) (fun _ _ _ A h=>h.of_heap A) own e (by kernel_rfl) Tryz.func3
  (ChangeSpec.witness_shaped (enc:=enc) (C:=Tryz.checked) (os:=os) (X:=fun w _=>laidMetH Tryz.prog Rows.formulaValidRow.laid w) false (World.laidAll Tryz.prog os Rows.formulaValidRow.laid) #[.agg #[.int .i64 0,.int .i64 0,.slice none 0 0,.int .i64 0,.bool false,.string ⟨#[]⟩,.slice none 0 0]] 8 (World.laidAll_os _ _ _)
   (World.shaped_of_ZipB (by kernel_rfl) (by kernel_rfl)) (by kernel_rfl) (by kernel_rfl) (by kernel_rfl)
   (by rw[MakeChecks.laidMetH_plain _ _ _ (by kernel_rfl)];exact laidMet_laidAll _ (by kernel_rfl) (by kernel_rfl))) ?_
 intro W base args ds V o g y _ hsz z _;rw[MakeChecks.laidMetH_plain _ _ _ (by kernel_rfl)]at z;obtain⟨r,u,G⟩:=B8W z (by simp[Rows.formulaValidRow]) (by simp[Rows.formulaValidRow]) (by simp[Rows.formulaValidRow]);have x:=y;obtain⟨p,q,m,I,_,_,_⟩:=y;rw[Tryz.params3]at m g hsz;obtain⟨v0,Y,rfl,rfl,J⟩:=trodAll_one m;obtain⟨rfl,rfl⟩:=trodVars_none I;obtain⟨x0,L,M⟩:=B8U C0z (A8B r u) (by simp) (g 0 _ _ rfl rfl) J (A0V hsz 0 _ _ rfl rfl);obtain⟨f,rfl,O⟩:=B2o L;have T:reachBytes=140737488351232:=rfl;refine B5O C0x (by kernel_rfl) rfl (tb:=4) (by kernel_rfl) (by kernel_rfl) rfl x (A9Q r u) (A8B r u) G [.agg (C1 f)] rfl (fun i d j=>?_) (fun Q U=>B8S f O _ (B5P r u) U)
 match i,j with
 |0,j=>simp at j;subst j;exact M
 |i+1,j=>simp at j
set_option maxHeartbeats 4000000 in
theorem facts:joinedFacts Tryz.pinned.checked.prog 3 Tryz.f3 Rows.formulaValidSpec Rows.formulaValidRow=true:=by
 unfold joinedFacts;simp only[D09];repeat' (refine D0w ?_ ?_)
 all_goals first
  |with_reducible exact C00
  |with_reducible exact B8a
  |with_reducible exact B8b
  |with_reducible exact C4h
  |(as_aux_lemma=>kernel_rfl)
theorem said:Rows.FormulaValidSaid:=
 OpenClaim.holds_of_wide 3 Tryz.f3 rfl rfl rfl rfl rfl rfl rfl ⟨rfl,rfl,rfl,rfl,rfl⟩ rfl rfl rfl rfl rfl (by kernel_rfl) Tryz.func3 facts
  (D0x (by kernel_rfl)) (by unfold Func.isWrapper;first|(rw[if_pos (by decide+kernel)];kernel_rfl)|(rw[if_neg (by decide+kernel)];exact⟨rfl,rfl⟩))
  (fun os d H enc _=>lifted os d H enc)
theorem plain(f:FuncId)(fn:Func)(g:Tryz.pinned.checked.prog.funcNamed "voussoir/voussoirlaw20.FormulaValid" =some f)(e:Tryz.pinned.checked.prog.funcs[f]? =some fn):
  true=Tryz.pinned.checked.prog.looks []∧∀(j:Nat) t,fn.params[j]? =some t→Tryz.pinned.checked.prog.wantsStandIn t=false:=by
 obtain rfl:f=3:=Option.some.inj ((show Tryz.prog.funcNamed "voussoir/voussoirlaw20.FormulaValid" =some 3 by kernel_rfl).symm.trans g) |>.symm;obtain rfl:fn=Tryz.f3:=(Option.some.inj (Tryz.func3.symm.trans e)).symm;refine⟨by kernel_rfl,fun j t h=>?_⟩;have d:((Tryz.f3.params.toList).all fun u=> !Tryz.prog.wantsStandIn u)=true:=by kernel_rfl
 have:=D1X.1 d t (by rw[D1b];exact Array.mem_of_getElem? h);exact(by simpa using this:Tryz.prog.wantsStandIn t=false)
theorem card:Rows.FormulaValidCardSaid:=
 Claim7.holds_tied_plain_at .later [] _ _ _ _ said (fun _ h=>by cases h) (by kernel_rfl) (fun _ h=>by cases h) formulaValid_row_tie rfl ⟨rfl,rfl⟩ (by kernel_rfl) rfl plain (by kernel_rfl)
end Go.Proofs.YtibphjonmikciaaGreatDoor.formulaValid
namespace Go.Proofs.YtibphjonmikciaaGreatDoor
theorem formulaValid_holds:Rows.FormulaValidCardSaid:=formulaValid.card
end Go.Proofs.YtibphjonmikciaaGreatDoor
