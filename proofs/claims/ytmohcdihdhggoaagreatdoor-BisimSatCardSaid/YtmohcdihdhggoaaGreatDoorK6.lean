/- Part of the proof: what the last text builds on. No condition stands here. -/
import Derived.Test.YtmohcdihdhggoaaGreatDoorProg
import Derived.Test.YtmohcdihdhggoaaGreatDoorRows
import Derived.Test.YtmohcdihdhggoaaGreatDoorK5
set_option linter.unusedSimpArgs false
set_option linter.unusedVariables false
section
set_option maxRecDepth 100000
namespace Go.Proofs.YtmohcdihdhggoaaGreatDoor
open Go Go.Av Go.Lexs Go.Bis
section
open Go.RowKit Go.ChangeShapes Go.WideShapes
theorem law_callsT {H : Type} {enc : TypeId × Value → H} {P : Program} {f : Nat} {fn : Func} {s : ChangeSpec} {W : World} {args : Array Value} {ds gs : List (DataW H)} {before : List MemPlace} {tb : TypeId} (hlaid : laidOutB P = true) (hread : fn.params.toList.all (fun t => P.readableRec t && decide (t < P.types.size)) = true)
  (hv : s.vars = []) (hres : fn.resultTypes = #[tb]) (hb : P.underlying tb = some .bool) (hs : s.fn H ds = { results := [.lit (.bool true)], args := ds })
  (hW : DataW.Whole enc P fn.params.toList s.vars false W args.toList ds gs before) (Hp : Heap) (hH : ∀ b, Hp.held b = false) (hS : Sat Hp W) (xs : List D) (hx : xs.length = args.size) (hR : ∀ (i : Nat) d, xs[i]? = some d → R W Hp d (args.getD i Go.undef))
  (hA : ∀ Q : D → Heap → Prop, Q (.bool true) Hp → ACalls P f xs Hp Q) : Calls P f args W fun e W' => ∃ v, e = .returned v ∧ s.post enc P fn false true false false W args v { W' with os := W.os } ∧ Go.Clock.Later W.os W'.os := by
 have hlt := hW.lt
 have hW0 := hW
 obtain ⟨p, q, hA0, hV, rfl, hfz, hnd⟩ := hW
 rw [hv] at hV
 obtain ⟨rfl, rfl⟩ := trodVars_none hV
 refine ((hA (fun d _ => d = .bool true) rfl).2 W args hx hR hS).mono fun e W' ⟨v, he, d, H', h1, h2, h3, h4, h5⟩ => ⟨v, he, ?_, h3.os ▸ Go.Clock.Later.refl _⟩
 have e1 : { W' with os := W.os } = W' := by rw [← h3.os]
 rw [e1]
 subst h5
 have hbv := h1.bool_inv
 subst hbv
 have hbel : Below W.heap.size W W' := ⟨h3.os, h3.tape, h3.output, h3.size, fun k hk => h3.block k hk (hH k)⟩
 have hs' : s.fn H (ds ++ []) = { results := [.lit (.bool true)], args := ds } := by rw [List.append_nil]; exact hs
 refine ⟨ds, [], p ++ [], [], p, [], hW0, ?_, ?_, ?_, hbel.frame _, fun h => by cases h⟩
 ·rw [hs', hres]
  exact trodAll_mk1 (shut_bool hb true)
 ·rw [hs']
  exact belowTrodAll hlaid hbel hread hA0 (fun x hx => hlt x (by simpa using hx))
 ·rw [hs', hv]
  exact rfl
end
theorem own : ownKnob Tryz.prog.godebug = none := by kernel_rfl
theorem laidOut : laidOutB Tryz.prog = true := by kernel_rfl
def tabs : Heap := fun g => if g = 1 then some (.ro (tabD .u64 Lib.pow10Tab))
 else if g = 4 then some (.ro [.sl 1 (tabR .u16 Lib.goPrintTabs.p16)])
 else if g = 5 then some (.ro [.sl 1 (tabR .u16 Lib.goPrintTabs.n16)])
 else if g = 6 then some (.ro [.sl 1 (tabR .u32 Lib.goPrintTabs.p32)])
 else if g = 7 then some (.ro [.sl 1 (tabR .u16 Lib.goPrintTabs.n32)])
 else if g = 2 then some (.ro (tabD .u8 Lib.firstTab))
 else if g = 3 then some (.ro accT) else none
theorem tabs_ro (b : Nat) (o : Av.Obj) (h : tabs b = some o) : ∃ cs, o = .ro cs := by
 unfold tabs at h
 repeat' (split at h; · cases h; exact ⟨_, rfl⟩)
 cases h
theorem tabs_held (b : Nat) : tabs.held b = false := by
 cases h : tabs b with
 | none => exact held_none h
 | some o =>
  obtain ⟨cs, rfl⟩ := tabs_ro b o h
  rw [held_of h]; rfl
theorem tabs_tabs : Tabs tabs := by
 refine ⟨?_, ?_, ?_, ?_, ?_, ?_, ?_⟩ <;> (unfold tabs; simp only [Nat.reduceEqDiff, if_true, if_false])
theorem tabSl_obj {P : Program} {W : World} {laid : List (String × DataW Unit)} (h : laidMet P laid W) {name : String} {k : IntKind} {l : List Nat} (hm : (name, Lib.sliceData k l) ∈ laid) {g : Nat} {t e : TypeId}
  (hg : P.globalNamed name = some g) (hty : (P.globals[g]?).map (·.type) = some t) (ht : P.underlying t = some (.slice e)) (he : P.underlying e = some (.int k)) (hce : P.cellsOf e = 1) (hl : 0 < l.length) {Hp : Heap} (hh : ∀ b, Hp.held b = false) : ObjOk W Hp g (.ro [.sl 1 (tabR k l)]) := by
 have hreads := Lib.laidMet.reads h hm
 obtain ⟨b, off, cap, hv, hc⟩ := Lib.tabSlice_of_reads hg hty ht he hce hl hreads
 obtain ⟨g', t', cs, fuel, p, hg', hty', hvar, hd⟩ := hreads
 obtain rfl := Option.some.inj (hg.symm.trans hg')
 obtain rfl := Option.some.inj (hty.symm.trans hty')
 have hone : cs.toList.length = 1 ∧ ∃ len cap', l.length ≤ cap' ∧ cs.toList = [.slice len l.length cap'] := by
  rcases DataW.trod_slice ht hd with ⟨_, hx⟩ | ⟨a, len, cap, el, rs, m, rfl, hcs, hx, _, hlc, _, hel, _⟩
  ·cases hx
  ·have e0 := congrArg Prod.fst hx
   simp only [Lib.sliceData, DataW.slice.injEq] at e0
   have hlen : len = l.length := by
    have := congrArg List.length e0.1
    simp at this
    omega
   rw [hlen] at hcs hlc
   exact ⟨by rw [hcs]; rfl, _, _, hlc, hcs⟩
 obtain ⟨h1, a, cap', hcap, hcs⟩ := hone
 unfold World.var? at hvar
 rw [hg] at hvar
 simp only [Option.bind_some] at hvar
 split at hvar
 ·rename_i c T fz hw
  cases hvar
  have hc0 : cs[0]? = some (.slice a l.length cap') := by rw [← Array.getElem?_toList, hcs]; rfl
  have hv2 : W.cell? ⟨g, 0, none⟩ = some (.slice a l.length cap') := by simp only [World.cell?, hw]; exact hc0
  rw [hv] at hv2
  cases hv2
  refine ⟨cs, T, fz, hw, by rw [← Array.length_toList, h1]; rfl, fun j d hd => ?_⟩
  match j, hd with
  | 0, hd =>
   cases hd
   refine ⟨rfl, ?_⟩
   have e : cs.getD 0 Go.undef = .slice (some ⟨b, off, none⟩) l.length cap := by
    have := hc0
    simp only [Array.getD_eq_getD_getElem?, this, Option.getD_some]
   rw [e]
   have hlen : (tabR k l).length = l.length := by simp [tabR]
   have hb : b < W.heap.size := by
    have := hc 0 hl
    unfold World.cell? at this
    cases hbk : W.heap[b]? with
    | none => simp only [hbk] at this; cases this
    | some x => exact (Array.getElem?_eq_some_iff.1 hbk).1
   have hR := R.sl (w := W) (H := Hp) 1 (tabR k l) b off cap (fun i j => .int k (l.getD i 0)) hb (hh b) (fun i e he => by
     simp only [tabR, List.getElem?_map, Option.map_eq_some_iff] at he
     obtain ⟨n, _, rfl⟩ := he; rfl) (by rw [hlen]; exact hcap) (fun i j hi hj => by
     rw [hlen] at hi
     have hj0 : j = 0 := by omega
     subst hj0
     rw [Nat.mul_one, Nat.add_zero]; exact hc i hi) (fun i e j d he hd => by
     simp only [tabR, List.getElem?_map, Option.map_eq_some_iff] at he
     obtain ⟨n, _, rfl⟩ := he
     match j, hd with
     | 0, hd => cases hd; rfl) (fun i e j d he hd => by
     simp only [tabR, List.getElem?_map, Option.map_eq_some_iff] at he
     obtain ⟨n, hn, rfl⟩ := he
     match j, hd with
     | 0, hd =>
      cases hd
      have : l.getD i 0 = n := by simp [List.getD_eq_getElem?_getD, hn]
      rw [this]; exact .int _ _)
   rw [hlen] at hR
   exact hR
  | j + 1, hd => cases hd
 ·cases hvar
theorem acc_obj {P : Program} {W : World} {laid : List (String × DataW Unit)} (h : laidMet P laid W) {name : String} (hm : (name, Lib.acceptData) ∈ laid) {g : Nat} {t e : TypeId} {fs : Array Field}
  (hg : P.globalNamed name = some g) (hty : (P.globals[g]?).map (·.type) = some t) (ht : P.underlying t = some (.array 16 e)) (he : P.underlying e = some (.struct fs)) (hf : ∀ (i : Nat) (f : Field), fs[i]? = some f → P.underlying f.type = some (.int .u8) ∧ f.offset = i ∧ P.cellsOf f.type = 1) (hfs : fs.size = 2) (hce : P.cellsOf e = 2)
  (hsz : ∀ fuel (cs : List Value) d, DataW.trod (fun _ => ()) P W 0 (fun _ => true) false fuel t cs = some d → cs.length = 32) (Hp : Heap) : ObjOk W Hp g (.ro accT) := by
 obtain ⟨g', t', cs, fuel, p, hg', hty', hvar, hd⟩ := Lib.laidMet.reads h hm
 obtain rfl := Option.some.inj (hg.symm.trans hg')
 obtain rfl := Option.some.inj (hty.symm.trans hty')
 have h32 := hsz _ _ _ hd
 unfold World.var? at hvar
 rw [hg] at hvar
 simp only [Option.bind_some] at hvar
 split at hvar
 ·rename_i c T fz hw
  cases hvar
  have hel : ∀ i, i < 16 → (cs.toList.drop (i * 2)).take 2 = [.int .u8 (Lib.accLo i : Int), .int .u8 (Lib.accHi i : Int)] := fun i hi => by
   obtain ⟨fuel', d, q, h1, h2⟩ := Lib.array_elem ht hd i hi
   have hdi : d = .agg ([(Lib.accLo i : Int), (Lib.accHi i : Int)].map fun z => .lit (.int .u8 z)) := by
    rw [List.getElem?_map, List.getElem?_range hi] at h1
    exact (Option.some.inj h1).symm
   rw [hdi, hce] at h2
   exact Lib.ints_of_struct he hf (by rw [hce, hfs]) h2
  refine ⟨cs, T, fz, hw, by rw [← Array.length_toList, h32]; rfl, fun j d hd => ?_⟩
  have hj : j < 32 := by have := (List.getElem?_eq_some_iff.1 hd).1; simpa [accT] using this
  have hd2 : d = .int .u8 (if j % 2 = 0 then (Lib.accLo (j / 2) : Int) else (Lib.accHi (j / 2) : Int)) := by
   unfold accT at hd
   rw [List.getElem?_map, List.getElem?_range hj] at hd
   exact (Option.some.inj hd).symm
  rw [hd2]
  refine ⟨rfl, ?_⟩
  have h3 := congrArg (·[j % 2]?) (hel (j / 2) (by omega))
  simp only [List.getElem?_take_of_lt (show j % 2 < 2 by omega), List.getElem?_drop, show j / 2 * 2 + j % 2 = j by omega] at h3
  have e : cs.getD j Go.undef = .int .u8 (if j % 2 = 0 then (Lib.accLo (j / 2) : Int) else (Lib.accHi (j / 2) : Int)) := by
   have : cs[j]? = some (.int .u8 (if j % 2 = 0 then (Lib.accLo (j / 2) : Int) else (Lib.accHi (j / 2) : Int))) := by
    rw [← Array.getElem?_toList, h3]
    by_cases h0 : j % 2 = 0
    ·rw [h0]; rfl
    ·rw [show j % 2 = 1 by omega]; rfl
   simp only [Array.getD_eq_getD_getElem?, this, Option.getD_some]
  rw [e]
  exact .int _ _
 ·cases hvar
theorem pow_data : (Rows.laid_internal_strconv_uint64pow10 : DataW Unit) = Lib.tabData .u64 Lib.pow10Tab := by kernel_rfl
theorem fst_data : (Rows.laid_unicode_utf8_first : DataW Unit) = Lib.tabData .u8 Lib.firstTab := by kernel_rfl
theorem acc_data : (Rows.laid_unicode_utf8_acceptRanges : DataW Unit) = Lib.acceptData := by kernel_rfl
theorem p16_data : (Rows.laid_strconv_isPrint16 : DataW Unit) = Lib.sliceData .u16 Lib.goPrintTabs.p16 := by kernel_rfl
theorem n16_data : (Rows.laid_strconv_isNotPrint16 : DataW Unit) = Lib.sliceData .u16 Lib.goPrintTabs.n16 := by kernel_rfl
theorem p32_data : (Rows.laid_strconv_isPrint32 : DataW Unit) = Lib.sliceData .u32 Lib.goPrintTabs.p32 := by kernel_rfl
theorem n32_data : (Rows.laid_strconv_isNotPrint32 : DataW Unit) = Lib.sliceData .u16 Lib.goPrintTabs.n32 := by kernel_rfl
theorem arr_len {P : Program} {W : World} {t e : TypeId} {n m : Nat} (ht : P.underlying t = some (.array n e)) (hm : P.cellsOf t = m) (fuel : Nat) (cs : List Value) (d : DataW Unit × List MemPlace) (h : DataW.trod (fun _ => ()) P W 0 (fun _ => true) false fuel t cs = some d) : cs.length = m := by
 cases fuel with
 | zero => simp [DataW.trod] at h
 | succ fuel =>
  simp only [DataW.trod, ht] at h
  split at h
  ·rename_i hl
   rw [← hm]; first | exact hl.1 | exact hl | omega
  ·cases h
theorem tabs_sat {W : World} {laid : List (String × DataW Unit)} (h : laidMet Tryz.prog laid W) (h1 : ("internal/strconv.uint64pow10", (Rows.laid_internal_strconv_uint64pow10 : DataW Unit)) ∈ laid) (h2 : ("strconv.isPrint16", Rows.laid_strconv_isPrint16) ∈ laid) (h3 : ("strconv.isNotPrint16", Rows.laid_strconv_isNotPrint16) ∈ laid) (h4 : ("strconv.isPrint32", Rows.laid_strconv_isPrint32) ∈ laid) (h5 : ("strconv.isNotPrint32", Rows.laid_strconv_isNotPrint32) ∈ laid) (h6 : ("unicode/utf8.first", Rows.laid_unicode_utf8_first) ∈ laid) (h7 : ("unicode/utf8.acceptRanges", (Rows.laid_unicode_utf8_acceptRanges : DataW Unit)) ∈ laid) : Sat tabs W := by
 rw [pow_data] at h1
 rw [p16_data] at h2
 rw [n16_data] at h3
 rw [p32_data] at h4
 rw [n32_data] at h5
 rw [fst_data] at h6
 rw [acc_data] at h7
 intro b o hb
 unfold tabs at hb
 split at hb
 ·rename_i e; cases hb; subst e
  exact tab_obj h h1 (by kernel_rfl) (t := (Tryz.prog.globals[1]?.map (·.type)).getD 0) (by kernel_rfl) (n := 20) (e := 142) (by kernel_rfl) (by kernel_rfl) (by kernel_rfl) (by kernel_rfl) _
 split at hb
 ·rename_i e; cases hb; subst e
  exact tabSl_obj h h2 (by kernel_rfl) (t := (Tryz.prog.globals[4]?.map (·.type)).getD 0) (by kernel_rfl) (e := 193) (by kernel_rfl) (by kernel_rfl) (by kernel_rfl) (by decide) tabs_held
 split at hb
 ·rename_i e; cases hb; subst e
  exact tabSl_obj h h3 (by kernel_rfl) (t := (Tryz.prog.globals[5]?.map (·.type)).getD 0) (by kernel_rfl) (e := 193) (by kernel_rfl) (by kernel_rfl) (by kernel_rfl) (by decide) tabs_held
 split at hb
 ·rename_i e; cases hb; subst e
  exact tabSl_obj h h4 (by kernel_rfl) (t := (Tryz.prog.globals[6]?.map (·.type)).getD 0) (by kernel_rfl) (e := 140) (by kernel_rfl) (by kernel_rfl) (by kernel_rfl) (by decide) tabs_held
 split at hb
 ·rename_i e; cases hb; subst e
  exact tabSl_obj h h5 (by kernel_rfl) (t := (Tryz.prog.globals[7]?.map (·.type)).getD 0) (by kernel_rfl) (e := 193) (by kernel_rfl) (by kernel_rfl) (by kernel_rfl) (by decide) tabs_held
 split at hb
 ·rename_i e; cases hb; subst e
  exact tab_obj h h6 (by kernel_rfl) (t := (Tryz.prog.globals[2]?.map (·.type)).getD 0) (by kernel_rfl) (n := 256) (e := 5) (by kernel_rfl) (by kernel_rfl) (by kernel_rfl) (by kernel_rfl) _
 split at hb
 ·rename_i e; cases hb; subst e
  have hun : Tryz.prog.underlying ((Tryz.prog.globals[3]?.map (·.type)).getD 0) = some (.array 16 191) := by kernel_rfl
  exact acc_obj h h7 (by kernel_rfl) (t := (Tryz.prog.globals[3]?.map (·.type)).getD 0) (by kernel_rfl) hun Tryz.underlying191 (fun i f hf => by
   match i, hf with
   | 0, hf => cases hf; exact ⟨by kernel_rfl, rfl, by kernel_rfl⟩
   | 1, hf => cases hf; exact ⟨by kernel_rfl, rfl, by kernel_rfl⟩
   | i + 2, hf => simp at hf) rfl (by kernel_rfl) (arr_len hun (by kernel_rfl)) _
 ·cases hb
theorem list_six {α : Type} : ∀ (l : List α), l.length = 6 → ∃ a b c d e f, l = [a, b, c, d, e, f]
 | [a, b, c, d, e, f], _ => ⟨a, b, c, d, e, f, rfl⟩
 | [], h => by cases h
 | [_], h => by cases h
 | [_, _], h => by cases h
 | [_, _, _], h => by cases h
 | [_, _, _, _], h => by cases h
 | [_, _, _, _, _], h => by cases h
 | _ :: _ :: _ :: _ :: _ :: _ :: _ :: _, h => by simp at h
theorem list_three {α : Type} : ∀ (l : List α), l.length = 3 → ∃ a b c, l = [a, b, c]
 | [a, b, c], _ => ⟨a, b, c, rfl⟩
 | [], h => by cases h
 | [_], h => by cases h
 | [_, _], h => by cases h
 | _ :: _ :: _ :: _ :: _, h => by simp at h
theorem rw_ex {α : Type} {f : α → List D} {p : α → Prop} : ∀ (es : List (List D)), (∀ x ∈ es, ∃ t, x = f t ∧ p t) → ∃ l : List α, es = Rw f l ∧ ∀ t ∈ l, p t
 | [], _ => ⟨[], rfl, by simp⟩
 | x :: es, h => by
  obtain ⟨t, rfl, ht⟩ := h x (by simp)
  obtain ⟨l, rfl, hl⟩ := rw_ex es (fun y hy => h y (by simp [hy]))
  refine ⟨t :: l, rfl, fun u hu => ?_⟩
  rcases List.mem_cons.1 hu with rfl | hu
  ·exact ht
  ·exact hl u hu
theorem fits_tm (n : Nat) : ∀ (el : List D), SizeOf.sizeOf el ≤ n → Fits Tryz.prog 41 el → ∃ t : Tm, el = tmC t ∧ TmFit t := by
 induction n with
 | zero => intro el hn; cases el <;> simp at hn
 | succ n ih =>
 intro el hn h
 have hre : reachBytes = 140737488351232 := rfl
 have hc : Tryz.prog.cellsOf 41 = 6 := by kernel_rfl
 have hb : Tryz.prog.bytesOf 41 = 96 := by kernel_rfl
 obtain ⟨ps, rfl, hl, hp⟩ := fits_struct Tryz.underlying41 h
 obtain ⟨p0, p1, p2, p3, p4, p5, rfl⟩ := list_six ps hl
 obtain ⟨k, rfl, hk⟩ := fits_int (k := .i64) (by kernel_rfl) (hp 0 _ _ rfl rfl)
 obtain ⟨m, rfl, hm⟩ := fits_int (k := .i64) (by kernel_rfl) (hp 1 _ _ rfl rfl)
 obtain ⟨x, rfl, hx⟩ := fits_str (by kernel_rfl) (hp 2 _ _ rfl rfl)
 obtain ⟨s, rfl, hs⟩ := fits_str (by kernel_rfl) (hp 3 _ _ rfl rfl)
 obtain ⟨es, rfl, he, hes⟩ := fits_sl (e := 41) (by kernel_rfl) (hp 4 _ _ rfl rfl)
 obtain ⟨rs, rfl, hr, hrs⟩ := fits_sl (e := 41) (by kernel_rfl) (hp 5 _ _ rfl rfl)
 rw [hc] at hn ⊢
 rw [hb] at he hr
 simp only [List.flatten_cons, List.flatten_nil, List.singleton_append, List.append_nil, List.cons.sizeOf_spec, List.nil.sizeOf_spec, D.sl.sizeOf_spec, List.cons_append, List.nil_append] at hn ⊢
 obtain ⟨ks, rfl, hks⟩ := rw_ex (f := tmC) (p := TmFit) es (fun y hy => ih y (by have := List.sizeOf_lt_of_mem hy; omega) (hes y hy))
 obtain ⟨qs, rfl, hqs⟩ := rw_ex (f := tmC) (p := TmFit) rs (fun y hy => ih y (by have := List.sizeOf_lt_of_mem hy; omega) (hrs y hy))
 rw [Rw_len] at he hr
 refine ⟨.mk k m x s ks qs, by rw [tmC_mk], .mk _ _ _ _ _ _ (wf_i64 hk) (wf_i64 hm) (by omega) (by omega) (by omega) (by omega) hks hqs⟩
theorem fits_sy {x : D} (h : FitsV Tryz.prog 26 x) : ∃ s : Sy, x = .agg (syC s) ∧ SyFit s := by
 have hre : reachBytes = 140737488351232 := rfl
 obtain ⟨ds, rfl, hv⟩ := fitsV_struct Tryz.underlying26 h
 obtain ⟨ps, rfl, hl, hp⟩ := fits_struct Tryz.underlying26 hv
 obtain ⟨p0, p1, p2, rfl⟩ := list_three ps hl
 obtain ⟨es, rfl, he, hes⟩ := fits_sl (e := 41) (by kernel_rfl) (hp 0 _ _ rfl rfl)
 obtain ⟨fs, rfl, hf, hfs⟩ := fits_sl (e := 4) (by kernel_rfl) (hp 1 _ _ rfl rfl)
 obtain ⟨ns, rfl, hn, hns⟩ := fits_sl (e := 29) (by kernel_rfl) (hp 2 _ _ rfl rfl)
 have c1 : Tryz.prog.cellsOf 41 = 6 := by kernel_rfl
 have c2 : Tryz.prog.cellsOf 4 = 1 := by kernel_rfl
 have c3 : Tryz.prog.cellsOf 29 = 1 := by kernel_rfl
 have c4 : Tryz.prog.cellsOf 3 = 1 := by kernel_rfl
 have b1 : Tryz.prog.bytesOf 41 = 96 := by kernel_rfl
 have b2 : Tryz.prog.bytesOf 4 = 1 := by kernel_rfl
 have b3 : Tryz.prog.bytesOf 29 = 24 := by kernel_rfl
 have b4 : Tryz.prog.bytesOf 3 = 8 := by kernel_rfl
 rw [b1] at he
 rw [b2] at hf
 rw [b3] at hn
 obtain ⟨ss, rfl, hss⟩ := rw_ex (f := tmC) (p := TmFit) es (fun y hy => fits_tm _ y (Nat.le_refl _) (hes y hy))
 obtain ⟨bs, rfl, _⟩ := rw_ex (f := boolC) (p := fun _ => True) fs (fun y hy => by
  obtain ⟨b, rfl⟩ := fits_bool (by kernel_rfl) (hfs y hy)
  exact ⟨b, rfl, trivial⟩)
 obtain ⟨ls, rfl, hls⟩ := rw_ex (f := intsC) (p := fun l => l.length ≤ 17592186043904) ns (fun y hy => by
  obtain ⟨zs, rfl, hz, hzs⟩ := fits_sl (e := 3) (by kernel_rfl) (hns y hy)
  rw [b4] at hz
  rw [c4]
  obtain ⟨l, rfl, _⟩ := rw_ex (f := intC) (p := fun _ => True) zs (fun z hz2 => by
   obtain ⟨n, rfl, _⟩ := fits_int (k := .i64) (by kernel_rfl) (hzs z hz2)
   exact ⟨n, rfl, trivial⟩)
  rw [Rw_len] at hz
  exact ⟨l, rfl, by omega⟩)
 rw [Rw_len] at he hf hn
 rw [c1, c2, c3]
 exact ⟨⟨ss, bs, ls⟩, rfl, by simp only []; omega, by simp only []; omega, by simp only []; omega, hss, hls⟩
theorem plain28 : plainB Tryz.prog [26, 44, 42, 41, 22, 23, 4, 24, 29, 3, 9, 39, 38, 54, 5] = true := by kernel_rfl
end Go.Proofs.YtmohcdihdhggoaaGreatDoor
end
