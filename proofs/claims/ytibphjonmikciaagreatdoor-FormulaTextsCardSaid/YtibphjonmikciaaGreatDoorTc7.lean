/- FormulaTexts, proved: for every input the law returns true, and the arguments read as before; the listed tables hold what the program's text lays (the card). No other condition than the row's own. -/
import Derived.Test.YtibphjonmikciaaGreatDoorProg
import Derived.Test.YtibphjonmikciaaGreatDoorRows
import Derived.Test.YtibphjonmikciaaGreatDoorCards
import Derived.Test.YtibphjonmikciaaGreatDoorTie
import Derived.Test.YtibphjonmikciaaGreatDoorTc6
set_option linter.unusedSimpArgs false
set_option linter.unusedVariables false
set_option maxRecDepth 100000
namespace Go.Proofs.YtibphjonmikciaaGreatDoor.formulaTexts
open Go Go.Av Go.Lexs Go.Lin Go.Fo Go.ChangeShapes Go.WideShapes Go.RowKit
theorem lifted(os:Os)(e:os.Started)(H:Type)(enc:TypeId×Value→H):
  ReturnsInHanded {} Tryz.checked os 6 .any (fun w args=>(Rows.formulaTextsSpec.pre enc Tryz.prog Tryz.f6 Rows.formulaTextsRow.domain false w args∧laidMetH Tryz.prog Rows.formulaTextsRow.laid w)∧sizedMet enc Tryz.prog Tryz.f6 (OpenSpec.ofChange Rows.formulaTextsSpec) false w args)
   (Rows.formulaTextsSpec.post enc Tryz.prog Tryz.f6 false true false false):=by
 refine returnsInHanded_of_change_and (C:=Tryz.checked) (X:=fun w _=>laidMetH Tryz.prog Rows.formulaTextsRow.laid w) (fun _ _ _ A h=>h.of_heap A) own e (by kernel_rfl) Tryz.func6
  (ChangeSpec.witness_shaped (enc:=enc) (C:=Tryz.checked) (os:=os) (X:=fun w _=>laidMetH Tryz.prog Rows.formulaTextsRow.laid w) false (World.laidAll Tryz.prog os Rows.formulaTextsRow.laid) #[.agg #[.int .i64 0,.int .i64 0,.slice none 0 0,.int .i64 0,.bool false,.string ⟨#[]⟩,.slice none 0 0],.string ⟨#[]⟩] 8 (World.laidAll_os _ _ _)
   (World.shaped_of_ZipB (by kernel_rfl) (by kernel_rfl)) (by kernel_rfl) (by kernel_rfl) (by kernel_rfl)
   (by rw[MakeChecks.laidMetH_plain _ _ _ (by kernel_rfl)];exact laidMet_laidAll _ (by kernel_rfl) (by kernel_rfl))) ?_
 intro W base args ds gs u g y _ hsz z _;rw[MakeChecks.laidMetH_plain _ _ _ (by kernel_rfl)]at z;obtain⟨m,o,G⟩:=B9C z (by simp[Rows.formulaTextsRow]) (by simp[Rows.formulaTextsRow]) (by simp[Rows.formulaTextsRow]);have x:=y;obtain⟨p,q,r,I,_,_,_⟩:=y;rw[Tryz.params6]at r g hsz;obtain⟨v0,v1,d0,d1,p0,p1,rfl,rfl,rfl,J,h1⟩:=trodAll_two r;obtain⟨rfl,rfl⟩:=trodVars_none I;obtain⟨x0,L,M⟩:=B16 B4Z (A5I m o) (by simp) (g 0 _ _ rfl rfl) J (Y6 hsz 0 _ _ rfl rfl);obtain⟨x1,O,T⟩:=B16 B4Z (A5I m o) (by simp) (g 1 _ _ rfl rfl) h1 (Y6 hsz 1 _ _ rfl rfl);obtain⟨f,rfl,U⟩:=B3S L;obtain⟨s,rfl,hs⟩:=B5w (by kernel_rfl) O;have V:reachBytes=140737488351232:=rfl;refine B5x C1R (by kernel_rfl) rfl (tb:=4) (by kernel_rfl) (by kernel_rfl) rfl x (A93 m o) (A5I m o) G [.agg (B9 f),.str s] rfl (fun i d j=>?_) (fun Q Y=>B3O f U s _ (B5y m o) Y)
 match i,j with
 |0,j=>simp at j;subst j;exact M
 |1,j=>simp at j;subst j;exact T
 |i+2,j=>simp at j
set_option maxHeartbeats 4000000 in
theorem facts:joinedFacts Tryz.pinned.checked.prog 6 Tryz.f6 Rows.formulaTextsSpec Rows.formulaTextsRow=true:=by
 unfold joinedFacts;simp only[D1m];repeat' (refine D1Z ?_ ?_)
 all_goals first
  |with_reducible exact C1T
  |with_reducible exact B9G
  |with_reducible exact B9H
  |with_reducible exact C5C
  |(as_aux_lemma=>kernel_rfl)
theorem said:Rows.FormulaTextsSaid:=
 OpenClaim.holds_of_wide 6 Tryz.f6 rfl rfl rfl rfl rfl rfl rfl ⟨rfl,rfl,rfl,rfl,rfl⟩ rfl rfl rfl rfl rfl (by kernel_rfl) Tryz.func6 facts
  (D1a (by kernel_rfl)) (by unfold Func.isWrapper;first|(rw[if_pos (by decide+kernel)];kernel_rfl)|(rw[if_neg (by decide+kernel)];exact⟨rfl,rfl⟩))
  (fun os d H enc _=>lifted os d H enc)
theorem plain(f:FuncId)(fn:Func)(g:Tryz.pinned.checked.prog.funcNamed "voussoir/voussoirlaw20.FormulaTexts" =some f)(e:Tryz.pinned.checked.prog.funcs[f]? =some fn):
  true=Tryz.pinned.checked.prog.looks []∧∀(j:Nat) t,fn.params[j]? =some t→Tryz.pinned.checked.prog.wantsStandIn t=false:=by
 obtain rfl:f=6:=Option.some.inj ((show Tryz.prog.funcNamed "voussoir/voussoirlaw20.FormulaTexts" =some 6 by kernel_rfl).symm.trans g) |>.symm;obtain rfl:fn=Tryz.f6:=(Option.some.inj (Tryz.func6.symm.trans e)).symm;refine⟨by kernel_rfl,fun j t h=>?_⟩;have d:((Tryz.f6.params.toList).all fun u=> !Tryz.prog.wantsStandIn u)=true:=by kernel_rfl
 have:=D2A.1 d t (by rw[D2E];exact Array.mem_of_getElem? h);exact(by simpa using this:Tryz.prog.wantsStandIn t=false)
theorem card:Rows.FormulaTextsCardSaid:=
 Claim7.holds_tied_plain_at .later [] _ _ _ _ said (fun _ h=>by cases h) (by kernel_rfl) (fun _ h=>by cases h) formulaTexts_row_tie rfl ⟨rfl,rfl⟩ (by kernel_rfl) rfl plain (by kernel_rfl)
end Go.Proofs.YtibphjonmikciaaGreatDoor.formulaTexts
namespace Go.Proofs.YtibphjonmikciaaGreatDoor
theorem formulaTexts_holds:Rows.FormulaTextsCardSaid:=formulaTexts.card
end Go.Proofs.YtibphjonmikciaaGreatDoor
