/- FormulaOwn, the second form, proved: for every input of bulk at most 1048576 the law returns true, and the arguments read as before; the listed tables hold what the program's text lays (the card). No other condition than the row's own. -/
import Derived.Test.YtibphjonmikciaaGreatDoorProg
import Derived.Test.YtibphjonmikciaaGreatDoorRows
import Derived.Test.YtibphjonmikciaaGreatDoorCards
import Derived.Test.YtibphjonmikciaaGreatDoorTie
import Derived.Test.YtibphjonmikciaaGreatDoorWc6
set_option linter.unusedSimpArgs false
set_option linter.unusedVariables false
set_option maxRecDepth 100000
namespace Go.Proofs.YtibphjonmikciaaGreatDoor.formulaOwn
open Go Go.Av Go.Lexs Go.Lin Go.Fo Go.ChangeShapes Go.WideShapes Go.RowKit
theorem C7o(os:Os){H:Type}(i:TypeId×Value→H): ∃h,DataW.whole i Tryz.prog ((World.laidAll Tryz.prog os Rows.formulaOwnUptoRow.laid).forCall (fun _ _=>0) ⟨#[],#[.agg #[.int .i64 0,.int .i64 0,.slice none 0 0,.int .i64 0,.bool false,.string ⟨#[]⟩,.slice none 0 0],.agg #[.int .i64 0,.int .i64 0,.slice none 0 0,.int .i64 0,.bool false,.string ⟨#[]⟩,.slice none 0 0]],[]⟩).memory Tryz.f11.params.toList Rows.formulaOwnSpec.vars false (#[.agg #[.int .i64 0,.int .i64 0,.slice none 0 0,.int .i64 0,.bool false,.string ⟨#[]⟩,.slice none 0 0],.agg #[.int .i64 0,.int .i64 0,.slice none 0 0,.int .i64 0,.bool false,.string ⟨#[]⟩,.slice none 0 0]]:Array Value).toList 8=some ([.agg [.lit (.int .i64 0),.lit (.int .i64 0),.agg [.nil,.lit (.int .i64 0),.lit (.bool false)],.lit (.string []),.nil],.agg [.lit (.int .i64 0),.lit (.int .i64 0),.agg [.nil,.lit (.int .i64 0),.lit (.bool false)],.lit (.string []),.nil]],[],h):=
 ⟨[],by kernel_rfl⟩
theorem lifted(os:Os)(h:os.Started)(H:Type)(m:TypeId×Value→H)(F:Stop.Interp):
  ReturnsInHanded {} Tryz.checked os 11 .any ((Rows.OpenSpec.upto Rows.formulaOwnSpec).preRow m Tryz.prog Tryz.f11 Rows.formulaOwnUptoRow.domain false Rows.formulaOwnUptoRow.laid) (((Rows.OpenSpec.upto Rows.formulaOwnSpec).at F).post m Tryz.prog Tryz.f11 false true false false):=by
 obtain⟨x,hx⟩:=C7o os m;have z:Input.okWideB Tryz.checked.prog ((World.laidAll Tryz.prog os Rows.formulaOwnUptoRow.laid).forCall (fun _ _=>0) ⟨#[],#[.agg #[.int .i64 0,.int .i64 0,.slice none 0 0,.int .i64 0,.bool false,.string ⟨#[]⟩,.slice none 0 0],.agg #[.int .i64 0,.int .i64 0,.slice none 0 0,.int .i64 0,.bool false,.string ⟨#[]⟩,.slice none 0 0]],[]⟩) 11 ⟨#[],#[.agg #[.int .i64 0,.int .i64 0,.slice none 0 0,.int .i64 0,.bool false,.string ⟨#[]⟩,.slice none 0 0],.agg #[.int .i64 0,.int .i64 0,.slice none 0 0,.int .i64 0,.bool false,.string ⟨#[]⟩,.slice none 0 0]],[]⟩=true:=by kernel_rfl
 refine returnsInHanded_of_row (C:=Tryz.checked) (s:=Rows.OpenSpec.upto Rows.formulaOwnSpec) own h (by kernel_rfl) Tryz.func11
  ⟨World.laidAll Tryz.prog os Rows.formulaOwnUptoRow.laid,fun _ _=>0,⟨#[],#[.agg #[.int .i64 0,.int .i64 0,.slice none 0 0,.int .i64 0,.bool false,.string ⟨#[]⟩,.slice none 0 0],.agg #[.int .i64 0,.int .i64 0,.slice none 0 0,.int .i64 0,.bool false,.string ⟨#[]⟩,.slice none 0 0]],[]⟩,World.laidAll_os _ _ _,World.shaped_of_ZipB (by kernel_rfl) (by kernel_rfl),rfl,(Input.okWide_of_okWideB z).2,
   OpenSpec.preRow_of_cond 8 hx (by kernel_rfl) (fun k hk=>by cases hk;kernel_rfl) (by kernel_rfl) (by rw[MakeChecks.laidMetH_plain _ _ _ (by kernel_rfl)];exact laidMet_laidAll _ (by kernel_rfl) (by kernel_rfl)),by
    simp only[Assume.holds];exact⟨by simp,by simp,by simp,by simp,by simp⟩⟩ ?_
 intro W base args ds gs y j G _ hk hsz I _ _;have hb:=D1I (hk Rows.uptoSmall rfl);rw[MakeChecks.laidMetH_plain _ _ _ (by kernel_rfl)]at I;obtain⟨o,r,J⟩:=B8Y I (by simp[Rows.formulaOwnUptoRow]) (by simp[Rows.formulaOwnUptoRow]) (by simp[Rows.formulaOwnUptoRow]);have A:=G;obtain⟨p,q,u,M,_,_,_⟩:=G;rw[Tryz.params11]at u j hsz;obtain⟨v0,v1,d0,d1,p0,p1,rfl,rfl,rfl,O,h1⟩:=trodAll_two u;obtain⟨rfl,rfl⟩:=trodVars_none M;obtain⟨x0,T,U⟩:=A8M C2J B35 (A4r o r) (by simp) (j 0 _ _ rfl rfl) O (X4 hsz 0 _ _ rfl rfl);obtain⟨x1,V,X⟩:=A8M C2J B35 (A4r o r) (by simp) (j 1 _ _ rfl rfl) h1 (X4 hsz 1 _ _ rfl rfl);obtain⟨f,rfl,Y,wf⟩:=A5D T;obtain⟨g,rfl,fg,wg⟩:=A5D V;simp only[D16,Rows.uptoBulkAll]at hb;have a0:reachBytes=140737488351232:=rfl;refine B5L C01 (by kernel_rfl) rfl (tb:=4) (by kernel_rfl) (by kernel_rfl) rfl A (A9W o r) (A4r o r) J [.agg (C1 f),.agg (C1 g)] rfl (fun i d hd=>?_) (fun Q hQ=>B5J f g Y fg (.inl (by omega)) (.inl (by omega)) (fun _=>by simp only[J9.wtL];omega) _ (B5M o r) hQ)
 match i,hd with
 |0,hd=>simp at hd;subst hd;exact U
 |1,hd=>simp at hd;subst hd;exact X
 |i+2,hd=>simp at hd
set_option maxHeartbeats 4000000 in
theorem facts:joinedFacts Tryz.pinned.checked.prog 11 Tryz.f11 (Rows.OpenSpec.upto Rows.formulaOwnSpec).bare Rows.formulaOwnUptoRow=true:=by
 unfold joinedFacts;simp only[D1U];repeat' (refine D1H ?_ ?_)
 all_goals first
  |with_reducible exact C03
  |with_reducible exact B8b
  |with_reducible exact B8c
  |with_reducible exact C4m
  |(as_aux_lemma=>kernel_rfl)
theorem said:Rows.FormulaOwnUptoSaid:=
 OpenClaim.holds_of_cond 11 Tryz.f11 rfl rfl rfl rfl rfl rfl rfl ⟨rfl,rfl,rfl,rfl,rfl⟩ rfl rfl rfl rfl rfl (by kernel_rfl) Tryz.func11 facts
  (D1I (by kernel_rfl)) (by unfold Func.isWrapper;first|(rw[if_pos (by decide+kernel)];kernel_rfl)|(rw[if_neg (by decide+kernel)];exact⟨rfl,rfl⟩))
  (fun os h H i _ F=>by rw[OpenClaim.pre_eq_preRow];exact lifted os h H i F)
theorem plain(f:FuncId)(fn:Func)(m:Tryz.pinned.checked.prog.funcNamed "voussoir/voussoirlaw20.FormulaOwn" =some f)(i:Tryz.pinned.checked.prog.funcs[f]? =some fn):
  true=Tryz.pinned.checked.prog.looks []∧∀(j:Nat) t,fn.params[j]? =some t→Tryz.pinned.checked.prog.wantsStandIn t=false:=by
 obtain rfl:f=11:=Option.some.inj ((show Tryz.prog.funcNamed "voussoir/voussoirlaw20.FormulaOwn" =some 11 by kernel_rfl).symm.trans m) |>.symm;obtain rfl:fn=Tryz.f11:=(Option.some.inj (Tryz.func11.symm.trans i)).symm;refine⟨by kernel_rfl,fun j t ht=>?_⟩;have h:((Tryz.f11.params.toList).all fun u=> !Tryz.prog.wantsStandIn u)=true:=by kernel_rfl
 have:=D1s.1 h t (by rw[D1w];exact Array.mem_of_getElem? ht);exact(by simpa using this:Tryz.prog.wantsStandIn t=false)
theorem card:Rows.FormulaOwnUptoCardSaid:=
 Claim7.holds_tied_plain_at .later [] _ _ _ _ said (fun _ h=>by cases h) (by kernel_rfl) (fun _ h=>by cases h) formulaOwnUpto_row_tie rfl ⟨rfl,rfl⟩ (by kernel_rfl) rfl plain (by kernel_rfl)
end Go.Proofs.YtibphjonmikciaaGreatDoor.formulaOwn
namespace Go.Proofs.YtibphjonmikciaaGreatDoor
theorem formulaOwn_holds:Rows.FormulaOwnUptoCardSaid:=formulaOwn.card
end Go.Proofs.YtibphjonmikciaaGreatDoor
