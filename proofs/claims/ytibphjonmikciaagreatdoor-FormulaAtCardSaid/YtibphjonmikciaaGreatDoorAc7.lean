/- FormulaAt, proved: for every input the law returns true, and the arguments read as before; the listed tables hold what the program's text lays (the card). No other condition than the row's own. -/
import Derived.Test.YtibphjonmikciaaGreatDoorProg
import Derived.Test.YtibphjonmikciaaGreatDoorRows
import Derived.Test.YtibphjonmikciaaGreatDoorCards
import Derived.Test.YtibphjonmikciaaGreatDoorTie
import Derived.Test.YtibphjonmikciaaGreatDoorAc6
set_option linter.unusedSimpArgs false
set_option linter.unusedVariables false
set_option maxRecDepth 100000
namespace Go.Proofs.YtibphjonmikciaaGreatDoor.formulaAt
open Go Go.Av Go.Lexs Go.Lin Go.Fo Go.ChangeShapes Go.WideShapes Go.RowKit
theorem lifted(os:Os)(e:os.Started)(H:Type)(enc:TypeId×Value→H):
  ReturnsInHanded {} Tryz.checked os 4 .any (fun w args=>(Rows.formulaAtSpec.pre enc Tryz.prog Tryz.f4 Rows.formulaAtRow.domain false w args∧laidMetH Tryz.prog Rows.formulaAtRow.laid w)∧sizedMet enc Tryz.prog Tryz.f4 (OpenSpec.ofChange Rows.formulaAtSpec) false w args)
   (Rows.formulaAtSpec.post enc Tryz.prog Tryz.f4 false true false false):=by
 refine returnsInHanded_of_change_and (C:=Tryz.checked) (X:=fun w _=>laidMetH Tryz.prog Rows.formulaAtRow.laid w) (fun _ _ _ G h=>h.of_heap G) own e (by kernel_rfl) Tryz.func4
  (ChangeSpec.witness_shaped (enc:=enc) (C:=Tryz.checked) (os:=os) (X:=fun w _=>laidMetH Tryz.prog Rows.formulaAtRow.laid w) false (World.laidAll Tryz.prog os Rows.formulaAtRow.laid) #[.agg #[.int .i64 0,.int .i64 0,.slice none 0 0,.int .i64 0,.bool false,.string ⟨#[]⟩,.slice none 0 0],.slice none 0 0] 8 (World.laidAll_os _ _ _)
   (World.shaped_of_ZipB (by kernel_rfl) (by kernel_rfl)) (by kernel_rfl) (by kernel_rfl) (by kernel_rfl)
   (by rw[MakeChecks.laidMetH_plain _ _ _ (by kernel_rfl)];exact laidMet_laidAll _ (by kernel_rfl) (by kernel_rfl))) ?_
 intro W base args ds gs u g z _ hsz A _;rw[MakeChecks.laidMetH_plain _ _ _ (by kernel_rfl)]at A;obtain⟨m,o,I⟩:=B8D A (by simp[Rows.formulaAtRow]) (by simp[Rows.formulaAtRow]) (by simp[Rows.formulaAtRow]);have x:=z;obtain⟨p,q,r,J,_,_,_⟩:=z;rw[Tryz.params4]at r g hsz;obtain⟨v0,v1,d0,d1,p0,p1,rfl,rfl,rfl,L,h1⟩:=trodAll_two r;obtain⟨rfl,rfl⟩:=trodVars_none J;obtain⟨x0,M,O⟩:=B1L B3t (A4n m o) (by simp) (g 0 _ _ rfl rfl) L (Y3 hsz 0 _ _ rfl rfl);obtain⟨x1,T,U⟩:=B1L B3t (A4n m o) (by simp) (g 1 _ _ rfl rfl) h1 (Y3 hsz 1 _ _ rfl rfl);obtain⟨f,rfl,V⟩:=B2d M;obtain⟨vs,rfl,y⟩:=B2b T;have Y:reachBytes=140737488351232:=rfl;refine B49 C0W (by kernel_rfl) rfl (tb:=4) (by kernel_rfl) (by kernel_rfl) rfl x (A9I m o) (A4n m o) I [.agg (C1 f),.sl 2 (Rw vlC vs)] rfl (fun i d j=>?_) (fun Q hQ=>C0U f vs V y _ (B5A m o) hQ)
 match i,j with
 |0,j=>simp at j;subst j;exact O
 |1,j=>simp at j;subst j;exact U
 |i+2,j=>simp at j
set_option maxHeartbeats 4000000 in
theorem facts:joinedFacts Tryz.pinned.checked.prog 4 Tryz.f4 Rows.formulaAtSpec Rows.formulaAtRow=true:=by
 unfold joinedFacts;simp only[D0n];repeat' (refine D0a ?_ ?_)
 all_goals first
  |with_reducible exact C0Z
  |with_reducible exact B8F
  |with_reducible exact B8G
  |with_reducible exact C4F
  |(as_aux_lemma=>kernel_rfl)
theorem said:Rows.FormulaAtSaid:=
 OpenClaim.holds_of_wide 4 Tryz.f4 rfl rfl rfl rfl rfl rfl rfl ⟨rfl,rfl,rfl,rfl,rfl⟩ rfl rfl rfl rfl rfl (by kernel_rfl) Tryz.func4 facts
  (D0b (by kernel_rfl)) (by unfold Func.isWrapper;first|(rw[if_pos (by decide+kernel)];kernel_rfl)|(rw[if_neg (by decide+kernel)];exact⟨rfl,rfl⟩))
  (fun os d H enc _=>lifted os d H enc)
theorem plain(f:FuncId)(fn:Func)(g:Tryz.pinned.checked.prog.funcNamed "voussoir/voussoirlaw20.FormulaAt" =some f)(e:Tryz.pinned.checked.prog.funcs[f]? =some fn):
  true=Tryz.pinned.checked.prog.looks []∧∀(j:Nat) t,fn.params[j]? =some t→Tryz.pinned.checked.prog.wantsStandIn t=false:=by
 obtain rfl:f=4:=Option.some.inj ((show Tryz.prog.funcNamed "voussoir/voussoirlaw20.FormulaAt" =some 4 by kernel_rfl).symm.trans g) |>.symm;obtain rfl:fn=Tryz.f4:=(Option.some.inj (Tryz.func4.symm.trans e)).symm;refine⟨by kernel_rfl,fun j t h=>?_⟩;have d:((Tryz.f4.params.toList).all fun u=> !Tryz.prog.wantsStandIn u)=true:=by kernel_rfl
 have:=D1B.1 d t (by rw[D1F];exact Array.mem_of_getElem? h);exact(by simpa using this:Tryz.prog.wantsStandIn t=false)
theorem card:Rows.FormulaAtCardSaid:=
 Claim7.holds_tied_plain_at .later [] _ _ _ _ said (fun _ h=>by cases h) (by kernel_rfl) (fun _ h=>by cases h) formulaAt_row_tie rfl ⟨rfl,rfl⟩ (by kernel_rfl) rfl plain (by kernel_rfl)
end Go.Proofs.YtibphjonmikciaaGreatDoor.formulaAt
namespace Go.Proofs.YtibphjonmikciaaGreatDoor
theorem formulaAt_holds:Rows.FormulaAtCardSaid:=formulaAt.card
end Go.Proofs.YtibphjonmikciaaGreatDoor
