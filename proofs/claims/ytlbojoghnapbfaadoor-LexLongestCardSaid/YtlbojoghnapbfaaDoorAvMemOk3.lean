/- Av: every operation: proofs. -/
import Derived.Test.YtlbojoghnapbfaaDoorAvMemOk2
import Derived.IntWalk
import Derived.Laws.BytesString
namespace Go.Av
section
variable {P : Program}

theorem getD_append_left {a b : Array Value} {i : Nat} (h : i < a.size) : (a ++ b).getD i Go.undef = a.getD i Go.undef := by
  have h' : i < a.size + b.size := by omega
  simp [h, h']

theorem getD_append_right {a b : Array Value} {i : Nat} : (a ++ b).getD (a.size + i) Go.undef = b.getD i Go.undef := by
  by_cases h : i < b.size
  · simp [h]
  · simp [h]

theorem From.trans' {w : World} {H H' H'' : Heap} (h : From w H H') (k : From w H' H'') : From w H H'' := fun i hi hn => k i hi (h i hi hn)

theorem From.del (w : World) (H : Heap) (b : Nat) : From w H (H.del b) := fun k _ hn => by
  by_cases hk : k = b
  · exact held_none (by unfold Heap.del; rw [if_pos hk])
  · rw [held_ne (H := H) (by unfold Heap.del; rw [if_neg hk])]; exact hn

theorem Heap.Le.del (H : Heap) (b : Nat) : (H.del b).Le H := fun k o h => by
  unfold Heap.del at h
  split at h
  · cases h
  · exact h

theorem Ext.of_heap {H : Heap} {w w' : World} (h : w'.heap = w.heap) (ho : w'.os = w.os) (ht : w'.tape = w.tape) (hp : w'.output = w.output) : Ext H w w' :=
  ⟨ho, ht, hp, by rw [h]; exact Nat.le_refl _, fun k _ _ => by rw [h], fun k _ => by unfold World.shape?; rw [h]⟩

/-- Behind something that turned nothing that 'H' does not own. -/
theorem Post.before {H : Heap} {w w1 : World} {K : D → Heap → Prop} {v : Value} {w' : World} (he : Ext H w w1) (h : Post H w1 K v w') : Post H w K v w' :=
  let ⟨d, H', h1, h2, h3, h4, h5⟩ := h
  ⟨d, H', h1, h2, he.trans (From.refl _ _) h3, fun i hi hn => h4 i (Nat.lt_of_lt_of_le hi he.size) hn, h5⟩

theorem Post.lessOf {H H1 : Heap} {w : World} {K : D → Heap → Prop} {v : Value} {w' : World} (hl : H1.Le H) (h : Post H1 w K v w') : Post H w K v w' :=
  let ⟨d, H', h1, h2, h3, h4, h5⟩ := h
  ⟨d, H', h1, h2, ⟨h3.os, h3.tape, h3.output, h3.size, fun k hk hn => h3.block k hk (hl.held hn), h3.shape⟩, fun i hi hn => h4 i hi (hl.held hn), h5⟩

theorem Sat.same {H : Heap} {w w' : World} (hs : Sat H w) (h : w'.heap = w.heap) (he : Ext H w w') : Sat H w' := fun b o hb => (hs b o hb).mono he (From.refl _ _) (by rw [h])

theorem append_sound {ev : Operand → D} {ρ : Operand → Value} {H : Heap} {K : D → Heap → Prop} {w : World} {t t' : TypeId} {s x : Operand} (hs : Sat H w) (hev : ∀ x, R w H (ev x) (ρ x)) (h : appendA P ev H K t t' s x) (ty : TypeId) :
    ∃ v w', (Builtin.append_ #[t, t'] ty #[ρ s, ρ x]).run P w = .ok v w' ∧ Post H w K v w' := by
  obtain ⟨e, sz, by_, he, hsz, ht', hz, xs, hxs, hm⟩ := h
  obtain ⟨us, hus, hV, hrun⟩ := elems_R (P := P) hs hsz hxs (hev x)
  obtain ⟨z, hz, hzl⟩ := Option.map_eq_some_iff.1 hz
  obtain ⟨zv, hzr, hzrow⟩ := zero_row (w := w) (H := H) hz
  have hzc : zv.cells.size = sz := by rw [← hzrow.len, hzl]
  have hzs : ∀ n, (Builtin.zeroCells zv.cells n).size = n * sz := fun n => by simp [Builtin.zeroCells, hzc]
  have hx := hev s
  have hE1 : Ext H w { w with drawn := w.drawn + 1 } := Ext.drewN H w 1
  have hS1 : Sat H { w with drawn := w.drawn + 1 } := hs.same rfl hE1
  split at hm
  · rename_i hes
    rw [hes] at hx
    cases hx' : ρ s with
    | slice a n c =>
      rw [hx'] at hx
      cases hx
      obtain ⟨hby, hmx, hnil, hcons⟩ := hm
      by_cases hxs0 : xs = []
      · have hrun' := run_append_in (P := P) (n := 0) (cap := 0) (base := none) (ty := ty) he ht' (hrun w rfl).1 (hrun w rfl).2 (by rw [hxs0]; simp)
        refine ⟨_, _, hrun', ?_⟩
        refine ⟨.nilsl, H, ?_, hs, Ext.refl _ _, From.refl _ _, hnil hxs0⟩
        rw [hxs0]
        exact .nilsl
      · have hpos : 0 < xs.length := List.length_pos_iff.2 hxs0
        obtain ⟨nc, hnc, hrun'⟩ := run_append_new (P := P) (n := 0) (cap := 0) (base := none) (ty := ty) (os := #[]) he ht' (hrun w rfl).1 (fun W hW => (hrun W hW).2) (fun W _ => rfl) hzr (by omega) (by simpa using hby) (by simpa using hmx)
        refine ⟨_, _, hrun', ?_⟩
        simp only [Nat.zero_add] at hnc
        refine Post.before hE1 ?_
        simp only [Nat.zero_add, Array.empty_append]
        refine post_vec hS1 e xs.length nc hsz ?_ hnc ?_ (hcons hxs0)
        · refine ⟨by rw [Array.size_append, hus]; omega, hV.each, hV.one, fun i e' j d hi hd => ?_⟩
          have hi' := (List.getElem?_eq_some_iff.1 hi).1
          have hj := (List.getElem?_eq_some_iff.1 hd).1
          rw [hV.each i e' hi] at hj
          have hm' : (i + 1) * sz ≤ xs.length * sz := Nat.mul_le_mul_right _ hi'
          rw [Nat.add_mul, Nat.one_mul] at hm'
          rw [getD_append_left (by rw [hus]; omega)]
          exact (hV.rel i e' j d hi hd).mono hE1 (From.refl _ _)
        · rw [Array.size_append, hus, hzs, ← Nat.add_mul]; congr 1; omega
    | _ => rw [hx'] at hx; cases hx
  · rename_i b sz' lo n hes
    obtain ⟨rfl, rfl, es, hb, hn, hby, hmx, hK⟩ := hm
    rw [hes] at hx
    obtain ⟨c, T, l0, hi0, hcell, hf, _, hv⟩ := vec_inv (hs b _ hb)
    generalize hx' : ρ s = v at hx
    cases hx with
    | vec b sz lo n cap T' m hsh hm' hsz0 hncap =>
      have hbn : H.held b = true := held_of hb
      have hcs : c.size = cap * sz' := by
        unfold World.shape? at hsh
        rw [hcell] at hsh
        simp only [Option.some.injEq, Prod.mk.injEq] at hsh
        rw [hsh.2, hm', Nat.zero_add]
      have htl : (es.take n).length = n := by simp; omega
      have hlt := hs.lt hb
      by_cases hle : n + xs.length ≤ cap
      · have hrun' := run_append_in (P := P) (n := n) (cap := cap) (base := some ⟨b, 0 * sz', none⟩) (ty := ty) he ht' (hrun w rfl).1 (hrun w rfl).2 hle
        have hmul : (n + xs.length) * sz' ≤ cap * sz' := Nat.mul_le_mul_right _ hle
        rw [Nat.add_mul] at hmul
        have hone := hV.oneCell hus hsz
        have hst : (storeCells ((⟨b, 0 * sz', none⟩ : Addr).add (n * sz')) us.toList).run P w = .ok () (w.setCells b (n * sz') us.toList) := by
          rw [add_off, Nat.zero_mul, Nat.zero_add]
          have hl : us.toList.length = us.size := by simp
          have := run_storeCells_cells (P := P) b (n * sz') us.toList 0 w (fun j hj => by rw [Nat.add_zero, cell_at hcell]; rw [hl] at hj; simp; omega)
            (fun j hj => by rw [Nat.add_zero]; rw [hl] at hj; exact frozen_at hcell (hf _ (by omega))) hone
          rwa [Nat.add_zero] at this
        refine ⟨.slice (some ⟨b, 0 * sz', none⟩) (n + xs.length) cap, w.setCells b (n * sz') us.toList, ?_, ?_⟩
        · rw [hrun']
          simp only
          rw [Sem.run_bind, hst]
          rfl
        · have hext := Ext.setCells (H := H) hcell hbn us.toList (n * sz')
          have hdel : (H.del b).set b (.vec sz' (es.take n ++ xs)) = H.set b (.vec sz' (es.take n ++ xs)) := by
            funext k; by_cases hk : k = b <;> simp [Heap.del, Heap.set, hk]
          have hfr := From.set_owned (w := w) hbn (.vec sz' (es.take n ++ xs))
          obtain ⟨k1, k2, _⟩ := setCells_spec b T (l0, hi0) us.toList (n * sz') w c hcell
          have hl : us.toList.length = us.size := by simp
          have hvec : VecR w H sz' (es.take n ++ xs) (putV c (n * sz') us.toList) := by
            have g : ∀ i, (putV c (n * sz') us.toList).getD i Go.undef = ((putV c (n * sz') us.toList)[i]?).getD Go.undef := fun i => by simp
            refine (hv.take n).join hV (fun i hi => ?_) (fun i hi => ?_) ?_
            · rw [htl] at hi
              rw [g, putV_get, if_neg (by omega)]; simp
            · rw [htl, g, putV_get, if_pos (by rw [hl]; omega), show n * sz' + i - n * sz' = i by omega]; simp
            · rw [htl, putV_size, hcs]; rw [Nat.add_mul]; exact hmul
          refine ⟨.vec b sz' 0 (n + xs.length), (H.del b).set b (.vec sz' (es.take n ++ xs)), ?_, ?_, hext, by rw [hdel]; exact hfr, hK b (by unfold Heap.del; rw [if_pos rfl])⟩
          · refine .vec b sz' 0 (n + xs.length) cap T' m ?_ (by rw [hm']) hsz hle
            rw [hext.shape b hlt]; exact hsh
          · rw [hdel]
            exact hs.update hext hfr (fun k _ hk => k2 k hk) (objOk_vec k1 (by rw [putV_size]; exact hf) hsz (hvec.mono hext hfr))
      · have hold : ∀ W : World, W.heap = w.heap → (Builtin.firstCells sz' n (.slice (some ⟨b, 0 * sz', none⟩) n cap)).run P W = .ok ((List.range (n * sz')).map fun k => c.getD k Go.undef).toArray W := fun W hW => by
          show (loadCells ⟨b, 0 * sz', none⟩ (n * sz')).run P W = _
          refine run_loadCells W _ _ _ (fun k hk => ?_)
          rw [add_off, Nat.zero_mul, Nat.zero_add]
          have : W.cell? ⟨b, k, none⟩ = w.cell? ⟨b, k, none⟩ := by unfold World.cell?; rw [hW]
          rw [this, cell_at hcell]
          have h1 := hv.le
          have h2 : n * sz' ≤ es.length * sz' := Nat.mul_le_mul_right _ hn
          have : k < c.size := by omega
          simp [this]
        obtain ⟨nc, hnc, hrun'⟩ := run_append_new (P := P) (n := n) (cap := cap) (base := some ⟨b, 0 * sz', none⟩) (ty := ty) he ht' (hrun w rfl).1 (fun W hW => (hrun W hW).2) hold hzr hle hby hmx
        refine ⟨_, _, hrun', ?_⟩
        refine Post.before hE1 (Post.lessOf (Heap.Le.del H b) ?_)
        have hS2 : Sat (H.del b) { w with drawn := w.drawn + 1 } := hS1.less (Heap.Le.del H b)
        have hosz : (((List.range (n * sz')).map fun k => c.getD k Go.undef).toArray).size = n * sz' := by simp
        have hV1 : VecR w H sz' (es.take n) ((List.range (n * sz')).map fun k => c.getD k Go.undef).toArray := by
          have h1 := hv.take n
          refine ⟨by rw [htl, hosz]; exact Nat.le_refl _, h1.each, h1.one, fun i e' j d hi hd => ?_⟩
          have hi' := (List.getElem?_eq_some_iff.1 hi).1
          have hj := (List.getElem?_eq_some_iff.1 hd).1
          rw [h1.each i e' hi] at hj
          rw [htl] at hi'
          have hm' : (i + 1) * sz' ≤ n * sz' := Nat.mul_le_mul_right _ hi'
          rw [Nat.add_mul, Nat.one_mul] at hm'
          have := h1.rel i e' j d hi hd
          have hlt' : i * sz' + j < n * sz' := by omega
          simpa [hlt'] using this
        refine post_vec hS2 e (n + xs.length) nc hsz ?_ hnc ?_ hK
        · have hfin : VecR w H sz' (es.take n ++ xs) (((List.range (n * sz')).map fun k => c.getD k Go.undef).toArray ++ us ++ Builtin.zeroCells zv.cells (nc - (n + xs.length))) := by
            refine hV1.join hV (fun i hi => ?_) (fun i hi => ?_) ?_
            · rw [htl] at hi
              rw [getD_append_left (by rw [Array.size_append, hosz]; omega), getD_append_left (by rw [hosz]; exact hi)]
            · rw [htl]
              rw [getD_append_left (by rw [Array.size_append, hosz, hus]; omega)]
              have := getD_append_right (a := ((List.range (n * sz')).map fun k => c.getD k Go.undef).toArray) (b := us) (i := i)
              rwa [hosz] at this
            · rw [htl, Array.size_append, Array.size_append, hosz, hus, Nat.add_mul]; omega
          exact hfin.mono hE1 (From.del _ _ _)
        · rw [Array.size_append, Array.size_append, hosz, hus, hzs, ← Nat.add_mul, ← Nat.add_mul]; congr 1; omega
  · exact hm.elim

theorem setE_R {w : World} {H : Heap} {sz : Nat} : ∀ {ps : List (Nat × D)} {qs : List (Nat × Value)} {es out : List (List D)} {c : Array Value}, setE es ps = some out → VecR w H sz es c → c.size = es.length * sz →
    ps.length = qs.length → (∀ (i : Nat) p q, ps[i]? = some p → qs[i]? = some q → p.1 = q.1 ∧ R w H p.2 q.2) → ∃ c', Instr.fill (fun i => some (i * sz, sz)) c qs = some c' ∧ VecR w H sz out c' ∧ c'.size = c.size ∧ out.length = es.length := by
  intro ps
  induction ps with
  | nil =>
    intro qs es out c h hv _ hl _
    cases qs with
    | nil => simp only [setE, Option.some.injEq] at h; subst h; exact ⟨c, rfl, hv, rfl, rfl⟩
    | cons => simp at hl
  | cons p ps ih =>
    intro qs es out c h hv hc hl hrel
    cases qs with
    | nil => simp at hl
    | cons q qs =>
      obtain ⟨i, d⟩ := p
      obtain ⟨j, v⟩ := q
      obtain ⟨hij, hR⟩ := hrel 0 _ _ rfl rfl
      simp only at hij hR
      subst hij
      simp only [setE] at h
      split at h
      · rename_i hcond
        obtain ⟨hi, hlen, h1⟩ := hcond
        have hge : es[i]? = some (es.getD i []) := by simp [List.getElem?_eq_getElem hi]
        have hel := hv.each i _ hge
        rw [hel] at hlen
        have hrow := RowR.of_cells hR h1
        have hmul : (i + 1) * sz ≤ es.length * sz := Nat.mul_le_mul_right _ hi
        rw [Nat.add_mul, Nat.one_mul] at hmul
        have hvl : v.cells.toList.length = sz := by rw [← hlen, hrow.len]; simp
        have hv' : VecR w H sz (es.set i d.cells) (putV c (i * sz) v.cells.toList) := by
          have both : ∀ (i' : Nat) (e : List D) (j : Nat) x, (es.set i d.cells)[i']? = some e → e[j]? = some x → x.one = true ∧ R w H x ((putV c (i * sz) v.cells.toList).getD (i' * sz + j) Go.undef) := by
            intro i' e j x he hx
            have hg : (putV c (i * sz) v.cells.toList).getD (i' * sz + j) Go.undef = ((putV c (i * sz) v.cells.toList)[i' * sz + j]?).getD Go.undef := by simp
            rw [hg, putV_get, hvl]
            by_cases hii : i = i'
            · subst hii
              rw [List.getElem?_set_self hi] at he
              cases he
              have hj := (List.getElem?_eq_some_iff.1 hx).1
              rw [if_pos (by omega), show i * sz + j - i * sz = j by omega]
              exact ⟨hrow.one _ _ hx, by simpa using hrow.rel _ _ hx⟩
            · rw [List.getElem?_set_ne hii] at he
              have hj : j < sz := by
                have h1 := hv.each i' e he
                have h2 := (List.getElem?_eq_some_iff.1 hx).1
                omega
              have hne : ¬ (i * sz ≤ i' * sz + j ∧ i' * sz + j < i * sz + sz ∧ i' * sz + j < c.size) := by
                rcases Nat.lt_or_gt_of_ne hii with hlt | hgt
                · have := Nat.mul_le_mul_right sz (show i + 1 ≤ i' from hlt)
                  rw [Nat.add_mul, Nat.one_mul] at this
                  omega
                · have := Nat.mul_le_mul_right sz (show i' + 1 ≤ i from hgt)
                  rw [Nat.add_mul, Nat.one_mul] at this
                  omega
              rw [if_neg hne]
              exact ⟨hv.one i' e j x he hx, by simpa using hv.rel i' e j x he hx⟩
          refine ⟨by rw [putV_size, List.length_set]; exact hv.le, fun i' e he => ?_, fun i' e j x a b => (both i' e j x a b).1, fun i' e j x a b => (both i' e j x a b).2⟩
          by_cases hii : i = i'
          · subst hii
            rw [List.getElem?_set_self hi] at he
            cases he; exact hlen
          · rw [List.getElem?_set_ne hii] at he
            exact hv.each i' e he
        obtain ⟨c', hc', hvc, hsz', hol⟩ := ih (qs := qs) (c := putV c (i * sz) v.cells.toList) h hv' (by rw [putV_size, List.length_set]; exact hc) (by simpa using hl) (fun k p q hp hq => hrel (k + 1) p q (by simpa using hp) (by simpa using hq))
        refine ⟨c', ?_, hvc, by rw [hsz', putV_size], by rw [hol, List.length_set]⟩
        unfold Instr.fill
        have e1 : v.cells.size = sz := by rw [← hvl]; simp
        simp only [e1]
        rw [if_neg (by simp; omega)]
        have e3 := fold_putV (i * sz) v.cells.toList 0 c
        simp only [Nat.add_zero] at e3
        rw [← Array.foldl_toList, Array.toList_zipIdx, e3]
        exact hc'
      · cases h

theorem zeros_R {w : World} {H : Heap} {z : List D} {v : Value} (hr : RowR w H z v.cells) (len : Nat) :
    VecR w H z.length (List.replicate len z) ((Array.range (len * z.length)).map (v.cells[· % v.cells.size]!)) := by
  have hm : ∀ (i : Nat) (e : List D) (j : Nat) (d : D), (List.replicate len z)[i]? = some e → e[j]? = some d → z[j]? = some d ∧ ((Array.range (len * z.length)).map (v.cells[· % v.cells.size]!)).getD (i * z.length + j) Go.undef = v.cells.getD j Go.undef := by
    intro i e j d he hd
    rw [List.getElem?_replicate] at he
    split at he
    · rename_i hi
      cases he
      have hj := (List.getElem?_eq_some_iff.1 hd).1
      have hmul : (i + 1) * z.length ≤ len * z.length := Nat.mul_le_mul_right _ hi
      rw [Nat.add_mul, Nat.one_mul] at hmul
      have hlt : i * z.length + j < len * z.length := by omega
      refine ⟨hd, ?_⟩
      have e2 : (i * z.length + j) % v.cells.size = j := by rw [← hr.len, Nat.mul_comm, Nat.mul_add_mod, Nat.mod_eq_of_lt hj]
      have hj' : j < v.cells.size := by rw [← hr.len]; exact hj
      simp [hlt, e2, hj']
    · cases he
  refine ⟨by simp, fun i e he => ?_, fun i e j d he hd => hr.one _ _ (hm i e j d he hd).1, fun i e j d he hd => ?_⟩
  · rw [List.getElem?_replicate] at he
    split at he
    · cases he; rfl
    · cases he
  · obtain ⟨h1, h2⟩ := hm i e j d he hd
    rw [h2]; exact hr.rel _ _ h1

/-- The world behind '[]byte(s)'. -/
structure BytesWorld (w w' : World) (z : ByteArray) (cap : Nat) : Prop where
  os : w'.os = w.os
  tape : w'.tape = w.tape
  output : w'.output = w.output
  size : w'.heap.size = w.heap.size + 1
  old : ∀ k, k < w.heap.size → w'.heap[k]? = w.heap[k]?
  new : ∃ e, w'.heap[w.heap.size]? = some (.cells ((z.data.map fun b => Value.int .u8 b.toNat) ++ Array.replicate (cap - z.size) (.int .u8 0)) e (cap, cap + 1))

theorem run_toBytes {w : World} {s t e : TypeId} (hb : baseT P s = .str) (hu : P.underlying t = some (.slice e)) (z : ByteArray) (he : P.underlying e = some (.int .u8)) :
    ∃ w' cap, z.size ≤ cap ∧ (convert s t (.string z)).run P w = .ok (.slice (some ⟨w.heap.size, 0, none⟩) z.size cap) w' ∧ BytesWorld w w' z cap := by
  generalize hcap : (Question.appendCap z.size 0 e).cut (w.tape w.drawn (.appendCap z.size 0 e)) = cap
  have hle : z.size ≤ cap := by rw [← hcap]; simp only [Question.cut]; omega
  let c : Array Value := (z.data.map fun b => Value.int .u8 b.toNat) ++ Array.replicate (cap - z.size) (.int .u8 0)
  let w1 : World := ({ w with drawn := w.drawn + 1 } : World).alloc (.cells c e)
  have hc : c.size = cap := by simp [c]; omega
  have hnew : w1.heap[w.heap.size]? = some (.cells c e) := heap_alloc_new { w with drawn := w.drawn + 1 } (.cells c e)
  refine ⟨w1.freeze ⟨w.heap.size, cap, none⟩ 1, cap, hle, ?_, ?_⟩
  · unfold convert
    rw [Sem.run_bind, run_underlying (base_str hb)]
    simp only [Result.andThen_ok]
    rw [Sem.run_bind, run_underlying hu]
    simp only [Result.andThen_ok]
    rw [Sem.run_bind, run_underlying he]
    simp only [Result.andThen_ok]
    unfold Conv.stringToBytes
    rw [Sem.run_bind, run_choose]
    simp only [Question.forced, Bool.false_eq_true, if_false, Result.andThen_ok, hcap]
    have hrow : (newRow e c).run P { w with drawn := w.drawn + 1 } = .ok ⟨w.heap.size, 0, none⟩ w1 := rfl
    show (newRow e c >>= _).run P _ = _
    rw [Sem.run_bind, hrow]
    simp only [Result.andThen_ok]
    have hm : (markStringish ⟨w.heap.size, 0, none⟩).run P w1 = .ok () (w1.freeze ⟨w.heap.size, cap, none⟩ 1) := by
      unfold markStringish
      have : (shape w.heap.size).run P w1 = .ok (some (e, cap)) w1 := by
        show (Result.ok (w1.shape? w.heap.size) w1) = _
        unfold World.shape?
        rw [hnew]
        show (Result.ok (some (e, c.size)) w1 : Result (Option (TypeId × Nat))) = _
        rw [hc]
      rw [Sem.run_bind, this]
      rfl
    rw [Sem.run_bind, hm]
    rfl
  · have hf : (w1.freeze ⟨w.heap.size, cap, none⟩ 1).heap = w1.heap.modify w.heap.size fun
        | .cells c elem (lo, hi) => .cells c elem (if lo == hi then (cap, cap + 1) else (min lo cap, max hi (cap + 1)))
        | o => o := by unfold World.freeze; rw [if_neg (by simp)]; rfl
    refine ⟨?_, ?_, ?_, ?_, fun k hk => ?_, e, ?_⟩
    · unfold World.freeze; rw [if_neg (by simp)]; rfl
    · unfold World.freeze; rw [if_neg (by simp)]; rfl
    · unfold World.freeze; rw [if_neg (by simp)]; rfl
    · rw [hf]; simp [w1]
    · rw [hf, Array.getElem?_modify, if_neg (by omega)]
      exact Go.RowKit.Below.heap_alloc { w with drawn := w.drawn + 1 } _ _ hk
    · rw [hf, Array.getElem?_modify, if_pos rfl, hnew]
      rfl

theorem post_bytes {w w' : World} {H : Heap} {K : D → Heap → Prop} {z : ByteArray} {cap : Nat} (hs : Sat H w) (hcap : z.size ≤ cap) (h : BytesWorld w w' z cap) (hK : ∀ b, H b = none → K (.vec b 1 0 z.size) (H.set b (.vec 1 (bytesE z)))) :
    Post H w K (.slice (some ⟨w.heap.size, 0, none⟩) z.size cap) w' := by
  obtain ⟨e, hn⟩ := h.new
  have he : Ext H w w' := ⟨h.os, h.tape, h.output, by rw [h.size]; omega, fun k hk _ => h.old k hk, fun k hk => by unfold World.shape?; rw [h.old k hk]⟩
  have hf := From.set_new (H := H) (Nat.le_refl w.heap.size) (.vec 1 (bytesE z))
  have hc : ((z.data.map fun (b : UInt8) => Value.int .u8 b.toNat) ++ Array.replicate (cap - z.size) (Value.int .u8 0)).size = cap := by simp; omega
  refine ⟨.vec w.heap.size 1 0 z.size, H.set w.heap.size (.vec 1 (bytesE z)), ?_, ?_, he, hf, hK _ (hs.fresh (Nat.le_refl _))⟩
  · have := R.vec (w := w') (H := H.set w.heap.size (.vec 1 (bytesE z))) w.heap.size 1 0 z.size cap e cap (by unfold World.shape?; rw [hn]; exact congrArg (fun n => some (e, n)) hc) (by omega) (by omega) hcap
    rwa [Nat.zero_mul] at this
  · refine hs.update he hf (fun k hk _ => h.old k hk) (objOk_vec hn (by rw [hc]; omega) (by omega) ?_)
    have hl : (bytesE z).length = z.size := by simp [bytesE]
    refine ⟨by rw [hl, hc]; omega, fun i x hx => ?_, fun i x j d hx hd => ?_, fun i x j d hx hd => ?_⟩
    · simp only [bytesE, List.getElem?_map, Option.map_eq_some_iff] at hx
      obtain ⟨u, _, rfl⟩ := hx; rfl
    · simp only [bytesE, List.getElem?_map, Option.map_eq_some_iff] at hx
      obtain ⟨u, _, rfl⟩ := hx
      cases j with
      | zero => simp at hd; subst hd; rfl
      | succ j => simp at hd
    · simp only [bytesE, List.getElem?_map, Option.map_eq_some_iff] at hx
      obtain ⟨u, hu, rfl⟩ := hx
      cases j with
      | zero =>
        simp at hd; subst hd
        have hlt := (List.getElem?_eq_some_iff.1 hu).1
        have hlt' : i < (z.data.map fun b => Value.int .u8 b.toNat).size := by simpa using hlt
        rw [Nat.mul_one, Nat.add_zero, getD_append_left hlt']
        have : (z.data.map fun b => Value.int .u8 b.toNat).getD i Go.undef = .int .u8 u.toNat := by
          have h' : z.data[i]? = some u := by simpa using hu
          simp [h']
        rw [this]; exact .int _ _
      | succ j => simp at hd

theorem push_all : ∀ (l : List UInt8) (r : ByteArray), (l.map fun c => (c.toNat : Int)).foldl (fun (r : ByteArray) n => r.push (UInt8.ofNat n.toNat)) r = ⟨r.data ++ l.toArray⟩
  | [], r => by simp
  | c :: l, r => by
    simp only [List.map_cons, List.foldl_cons, Int.toNat_natCast]
    rw [push_all l]
    have : UInt8.ofNat c.toNat = c := by simp
    rw [this]
    simp [ByteArray.push]

theorem run_toString {w : World} {H : Heap} {s t e : TypeId} {d : D} {v : Value} {z : ByteArray} {us : Array Value} (hb : baseT P t = .str) (hu : P.underlying s = some (.slice e)) (he : P.underlying e = some (.int .u8)) (hz : elemsD H 1 d = some (bytesE z)) (hx : R w H d v)
    (hus : us.size = (bytesE z).length * 1) (hV : VecR w H 1 (bytesE z) us) (hl : (Builtin.lenOf v).run P w = .ok (bytesE z).length w) (hf : (Builtin.firstCells 1 (bytesE z).length v).run P w = .ok us w) (hd : ∀ s, d ≠ .str s) :
    (convert s t v).run P w = .ok (.string z) w := by
  have hzl : (bytesE z).length = z.size := by simp [bytesE]
  have hue : us = ((z.data.toList.map fun c => (c.toNat : Int)).map (Value.int .u8)).toArray := by
    apply Array.ext_getElem?
    intro i
    by_cases hi : i < z.size
    · have hb : (bytesE z)[i]? = some [D.int .u8 (z.data.toList[i]'(by simpa using hi)).toNat] := by simp [bytesE, hi]
      have := (hV.rel i _ 0 _ hb rfl).int_inv
      rw [Nat.mul_one, Nat.add_zero] at this
      have hi' : i < us.size := by rw [hus, hzl]; omega
      have h2 : us[i]? = some (us.getD i Go.undef) := by simp [hi']
      rw [h2, this]
      simp [hi]
    · rw [Array.getElem?_eq_none (by rw [hus, hzl]; omega), Array.getElem?_eq_none (by simp; omega)]
  have hemp : z.size = 0 → z = ByteArray.empty := fun h => by
    apply ByteArray.ext
    exact Array.eq_empty_of_size_eq_zero h
  have step : ∀ (a : Option Addr) (n cap : Nat), v = .slice a n cap → (convert s t v).run P w = (Conv.bytesToString v).run P w := by
    rintro a n cap rfl
    unfold convert
    rw [Sem.run_bind, run_underlying hu]
    simp only [Result.andThen_ok]
    rw [Sem.run_bind, run_underlying (base_str hb)]
    simp only [Result.andThen_ok]
    rw [Sem.run_bind, run_underlying he]
    rfl
  have fin : ∀ (a : Option Addr) (n cap : Nat), v = .slice a n cap → (convert s t v).run P w = .ok (.string z) w := by
    rintro a n cap hv
    rw [step a n cap hv, hv]
    rw [hv] at hl hf
    have hn : n = (bytesE z).length := by
      have : (Result.ok n w : Result Nat) = .ok (bytesE z).length w := hl
      cases this; rfl
    cases a with
    | none =>
      have h0 : us = #[] := by
        have : (Result.ok (#[] : Array Value) w) = .ok us w := hf
        cases this; rfl
      have : z.size = 0 := by rw [h0] at hus; simp at hus; omega
      rw [hemp this]
      rfl
    | some a =>
      have hload : (loadCells a n).run P w = .ok ((z.data.toList.map fun c => (c.toNat : Int)).map (Value.int .u8)).toArray w := by
        have : (loadCells a ((bytesE z).length * 1)).run P w = .ok us w := hf
        rw [Nat.mul_one, ← hn] at this
        rw [this, hue]
      rw [run_bytesToString w a n cap _ hload, push_all]
      simp
  cases hx <;> simp only [elemsD] at hz <;> try (cases hz; done)
  case str => exact absurd rfl (hd _)
  all_goals exact fin _ _ _ rfl

/-- An operation, on abstract values, is so in the world. -/
theorem next_sound {w : World} {H : Heap} {b : Nat} {s : ByteArray} {pos : Nat} {K : D → Heap → Prop} (hs : Sat H w) (hb : H b = some (.iter s pos)) (ty : TypeId)
    (h : (pos < s.size → K (.tuple [.bool true, .int .i64 pos, .int .i32 (Utf8.decode s pos).1]) (H.set b (.iter s (pos + (Utf8.decode s pos).2)))) ∧ (¬ pos < s.size → K (.tuple [.bool false]) H)) :
    ∃ v w', (Instr.next (.pointer (some ⟨b, 0, none⟩)) true ty).run P w = .ok v w' ∧ Post H w K v w' := by
  have hw : w.heap[b]? = some (.stringIter s pos) := hs b _ hb
  have hlt := hs.lt hb
  by_cases hp : pos < s.size
  · refine ⟨.tuple #[.bool true, .int .i64 pos, .int .i32 (Utf8.decode s pos).1], { w with heap := w.heap.setIfInBounds b (.stringIter s (pos + (Utf8.decode s pos).2)) }, ?_, ?_⟩
    · simp only [Instr.next, getObj, setObj, Sem.run_bind, Sem.run, hw, Result.andThen, hp, if_true]
      simp [goInt]
    · have he : Ext H w { w with heap := w.heap.setIfInBounds b (.stringIter s (pos + (Utf8.decode s pos).2)) } := by
        refine ⟨rfl, rfl, rfl, by simp, fun k hk hn => ?_, fun k hk => ?_⟩
        · have hne : b ≠ k := fun e => by rw [e] at hb; rw [held_of hb] at hn; cases hn
          simp [Array.getElem?_setIfInBounds_ne hne]
        · by_cases hne : b = k
          · subst hne
            unfold World.shape?
            rw [hw]
            simp [hlt]
          · unfold World.shape?
            simp [Array.getElem?_setIfInBounds_ne hne]
      have hf : From w H (H.set b (.iter s (pos + (Utf8.decode s pos).2))) := From.set_owned (held_of hb) _
      refine ⟨_, _, .tuple _ _ (by simp) (fun i d hd => ?_), hs.update he hf (fun k hk hne => by simp [Array.getElem?_setIfInBounds_ne (Ne.symm hne)]) (by show _ = _; simp [hlt]), he, hf, h.1 hp⟩
      match i, hd with
      | 0, hd => simp at hd; subst hd; exact .bool _
      | 1, hd => simp at hd; subst hd; exact .int _ _
      | 2, hd => simp at hd; subst hd; exact .int _ _
      | i + 3, hd => simp at hd
  · refine ⟨.tuple #[.bool false], w, ?_, _, _, .tuple _ _ (by simp) (fun i d hd => ?_), hs, Ext.refl _ _, From.refl _ _, h.2 hp⟩
    · simp [Instr.next, getObj, Sem.run, hw, hp]
    · match i, hd with
      | 0, hd => simp at hd; subst hd; exact .bool _
      | i + 1, hd => simp at hd

theorem wpOp_sound {o : Oper} {a : Act} {w : World} {ev : Operand → D} {H : Heap} {K : D → Heap → Prop} (hs : Sat H w) (hev : ∀ x, R w H (ev x) (a.eval x)) (h : wpOp P ev H K o.op) : opSem P none o a w (Post H w K) := by
  have pureCase : cls P o.op = .pure → (∃ d, pureD P ev o.op = some d ∧ K d H) → opSem P none o a w (Post H w K) := fun hc ⟨d, hd, hk⟩ => by
    obtain ⟨v, hv, hR⟩ := pureD_sound (P := P) hev hd
    unfold opSem
    rw [hc]
    exact ⟨v, hv, d, H, hR, hs, Ext.refl _ _, From.refl _ _, hk⟩
  have effCase : cls P o.op = .eff → ∀ {v : Value} {w' : World}, (execOp a.eval o).run P w = .ok (.value v) w' → Post H w K v w' → opSem P none o a w (Post H w K) := fun hc v w' hr hp => by
    unfold opSem
    rw [hc]
    show effPost P _ _
    rw [hr]
    exact ⟨trivial, hp⟩
  obtain ⟨dst, op, type, pos, after, guard⟩ := o
  simp only at h pureCase effCase ⊢
  cases op
  case load t x =>
    obtain ⟨d, hd, hk⟩ := h
    obtain ⟨u, hu, hR⟩ := load_sound (P := P) hs hd (hev x)
    unfold opSem
    refine ⟨u, ?_, d, H, hR, hs, Ext.refl _ _, From.refl _ _, hk⟩
    intro w' hw'
    have hw' : w' = w := hw'
    subst hw'
    simp only [execOp]
    rw [Sem.run_bind, hu]; rfl
  case store t x y =>
    obtain ⟨H', hst, hk⟩ := h
    obtain ⟨w', hr, hs', he, hf⟩ := store_sound (P := P) hs hst (hev x) (hev y)
    unfold opSem
    show effPost P _ _
    have : (execOp a.eval { dst, op := .store t x y, type, pos, after, guard }).run P w = .ok .skip w' := by
      simp only [execOp]
      rw [Sem.run_bind, hr]; rfl
    rw [this]
    exact ⟨trivial, .undef, H', .undef _, hs', he, hf, hk⟩
  case alloc t =>
    obtain ⟨z, hz, hk⟩ := h
    obtain ⟨v, hv, hrow⟩ := zero_row (w := w) (H := H) hz
    refine effCase rfl (v := .pointer (some ⟨w.heap.size, 0, none⟩)) (w' := w.alloc (.cells v.cells t)) ?_ (post_box hs t hrow hk)
    simp only [execOp, Instr.alloc]
    rw [Sem.run_bind, Sem.run_bind, hv w]
    rfl
  case box t x =>
    obtain ⟨h1, hk⟩ := h
    refine effCase rfl (v := .pointer (some ⟨w.heap.size, 0, none⟩)) (w' := w.alloc (.cells (a.eval x).cells t)) rfl (post_box hs t (RowR.of_cells (hev x) h1) hk)
  case buildSlice t len parts =>
    obtain ⟨e, sz, by_, z, es, he, hsz, hle, hz, hzl, hset, hk⟩ := h
    obtain ⟨hu, i, hi, his, _⟩ := elem_inv he
    simp only at hu hi his
    obtain ⟨v, hv, hrow⟩ := zero_row (w := w) (H := H) hz
    subst hzl
    have hzr := zeros_R hrow len
    obtain ⟨c', hc', hvc, hcs, hel⟩ := setE_R (qs := parts.toList.map fun p => (p.1, a.eval p.2)) hset hzr (by simp) (by simp) (fun i p q hp hq => by
      simp only [List.getElem?_map, Option.map_eq_some_iff] at hp hq
      obtain ⟨a, ha, rfl⟩ := hp
      obtain ⟨b, hb', rfl⟩ := hq
      rw [ha] at hb'; cases hb'
      exact ⟨rfl, hev _⟩)
    refine effCase rfl (v := .slice (some ⟨w.heap.size, 0, none⟩) len len) (w' := w.alloc (.cells c' e)) ?_ (post_vec hs e len len hsz hvc (Nat.le_refl _) (by rw [hcs]; simp) hk)
    simp only [execOp, Instr.buildSlice]
    rw [Sem.run_bind, Sem.run_bind, run_underlying hu]
    simp only [Result.andThen_ok]
    rw [Sem.run_bind, runs_sizeOf hi w]
    simp only [Result.andThen_ok, his]
    rw [if_neg (by omega)]
    have e2 : (parts.map fun (i, x) => (i, a.eval x)).toList = parts.toList.map fun p => (p.1, a.eval p.2) := by simp
    by_cases h0 : len * z.length = 0
    · have hl0 : len = 0 := by rcases Nat.mul_eq_zero.1 h0 with h' | h' <;> omega
      rw [if_pos h0]
      rw [Sem.run_bind]
      simp only [Sem.run_pure, Result.andThen_ok]
      have e3 : (Array.range (len * z.length)).map ((#[] : Array Value)[· % (#[] : Array Value).size]!) = (Array.range (len * z.length)).map (v.cells[· % v.cells.size]!) := by rw [h0]; simp
      rw [e3, e2, hc']
      rfl
    · rw [if_neg h0]
      rw [Sem.run_bind, hv w]
      simp only [Result.andThen_ok]
      rw [Sem.run_bind]
      simp only [Sem.run_pure, Result.andThen_ok]
      rw [e2, hc']
      rfl
  case makeSlice t l c =>
    obtain ⟨e, sz, by_, z, k, n, k', m, he, hsz, hz, hzl, hl, hc, hn0, hnm, hby, hmx, hk⟩ := h
    obtain ⟨hu, i, hi, his, hib⟩ := elem_inv he
    simp only at hu hi his hib
    obtain ⟨v, hv, hrow⟩ := zero_row (w := w) (H := H) hz
    subst hzl
    have hel := hev l
    have hec := hev c
    rw [hl] at hel; rw [hc] at hec
    have hel := hel.int_inv
    have hec := hec.int_inv
    have hzr := zeros_R hrow m.toNat
    have hvec : VecR w H z.length (List.replicate n.toNat z) ((Array.range (m.toNat * z.length)).map (v.cells[· % v.cells.size]!)) := by
      have := hzr.take n.toNat
      rwa [List.take_replicate, Nat.min_eq_left (by omega)] at this
    refine effCase rfl (v := .slice (some ⟨w.heap.size, 0, none⟩) n.toNat m.toNat) (w' := w.alloc (.cells ((Array.range (m.toNat * z.length)).map (v.cells[· % v.cells.size]!)) e)) ?_ (post_vec hs e n.toNat m.toNat hsz hvec (by omega) (by simp) hk)
    have w1 : IntKind.i64.wrap n = n := IntWalk.i64_in _ (by omega)
    have w2 : IntKind.i64.wrap m = m := IntWalk.i64_in _ (by omega)
    simp only [execOp, Instr.makeSlice, hel, hec]
    rw [Sem.run_bind, Sem.run_bind, run_underlying hu]
    simp only [Result.andThen_ok]
    rw [Sem.run_bind]
    have ai : ∀ (k : IntKind) (n : Int) (w : World), (asInt (.int k n)).run P w = .ok n w := fun _ _ _ => rfl
    rw [ai]
    simp only [Result.andThen_ok]
    rw [Sem.run_bind, ai]
    simp only [Result.andThen_ok]
    rw [Sem.run_bind, runs_typeInfo hi w]
    simp only [Result.andThen_ok, w1, w2, hib]
    have c1 : ¬ ((decide (m < 0) || decide ((by_ : Int) * m > 2 ^ 48) || decide (n < 0) || decide (n > m)) = true) := by
      simp only [Bool.or_eq_true, decide_eq_true_eq, not_or]
      refine ⟨⟨⟨by omega, by omega⟩, by omega⟩, by omega⟩
    rw [if_neg c1]
    have hask : ∀ (k : Nat) (W : World), (askRoom k).run P W = .ok () W := fun k W => by unfold askRoom; split <;> rfl
    rw [Sem.run_bind, hask]
    simp only [Result.andThen_ok]
    rw [Sem.run_bind, runs_sizeOf hi w]
    simp only [Result.andThen_ok, his]
    by_cases h0 : m.toNat * z.length = 0
    · rw [if_pos h0]
      rw [Sem.run_bind]
      simp only [Sem.run_pure, Result.andThen_ok]
      have e3 : (Array.range (m.toNat * z.length)).map ((#[] : Array Value)[· % (#[] : Array Value).size]!) = (Array.range (m.toNat * z.length)).map (v.cells[· % v.cells.size]!) := by rw [h0]; simp
      rw [e3]
      rfl
    · rw [if_neg h0]
      rw [Sem.run_bind, hv w]
      simp only [Result.andThen_ok]
      rw [Sem.run_bind]
      simp only [Sem.run_pure, Result.andThen_ok]
      rfl
  case convert s t x =>
    simp only [wpOp] at h
    split at h
    · rename_i hc; exact pureCase hc h
    · rename_i hc
      have hc' : cls P (.convert s t x) = .eff := by
        have : cls P (.convert s t x) = .pure ∨ cls P (.convert s t x) = .eff := by
          simp only [cls]; split <;> simp
        exact this.resolve_left hc
      have hx := hev x
      unfold convA at h
      split at h
      · rename_i z hz
        obtain ⟨hb, hm, hk⟩ := h
        rw [hz] at hx
        have hx := hx.str_inv
        split at hm
        · rename_i e hu
          obtain ⟨w', cap, hcap, hrun, hw'⟩ := run_toBytes (P := P) (w := w) (s := s) hb hu z hm
          have hrun2 : (execOp a.eval { dst, op := .convert s t x, type, pos, after, guard }).run P w = .ok (.value (.slice (some ⟨w.heap.size, 0, none⟩) z.size cap)) w' := by
            simp only [execOp]
            rw [hx, Sem.run_bind, hrun]; rfl
          exact effCase hc' hrun2 (post_bytes hs hcap hw' hk)
        · exact hm.elim
      · rename_i hns
        obtain ⟨hb, hm, z, hz, hk⟩ := h
        split at hm
        · rename_i e hu
          obtain ⟨us, hus, hV, hrun⟩ := elems_R (P := P) hs (Nat.zero_lt_one) hz hx
          refine effCase hc' (v := .string z) (w' := w) ?_ ⟨.str z, H, .str _, hs, Ext.refl _ _, From.refl _ _, hk⟩
          simp only [execOp]
          rw [Sem.run_bind, run_toString (P := P) hb hu hm hz hx hus hV (hrun w rfl).1 (hrun w rfl).2 hns]; rfl
        · exact hm.elim
  case call c =>
    obtain ⟨callee, args, ats⟩ := c
    cases callee with
    | value f =>
      simp only [wpOp] at h
      split at h
      · rename_i g first captured hf
        have hfv := hev f
        rw [hf] at hfv
        generalize hv : a.eval f = fv at hfv
        cases hfv with
        | fn _ _ _ vs us hl hm hr hq =>
          obtain ⟨hb, hc⟩ := h
          unfold opSem
          show effPost P _ _
          have hrun : (execOp a.eval { dst, op := .call { callee := .value f, args, argTypes := ats }, type, pos, after, guard }).run P w = .ok (.enter g (vs ++ args.map a.eval ++ us)) w := by
            unfold bodied at hb
            split at hb
            · rename_i fn hfn
              simp only [Bool.and_eq_true, bne_iff_ne, ne_eq] at hb
              have h1 : (fn.name == "runtime.NumGoroutine") = false := by simpa using hb.2
              have h2 : fn.body.isNone = false := by
                cases hbody : fn.body with
                | none => rw [hbody] at hb; simp at hb
                | some _ => rfl
              simp only [execOp, resolve, hv, Deferred.ofValue]
              rw [Sem.run_bind]
              simp only [Sem.run_pure, Result.andThen_ok, invoke, callFunc]
              rw [Sem.run_bind]
              have : (program).run P w = .ok P w := rfl
              rw [this]
              simp only [Result.andThen_ok, hfn, h1, h2, Bool.false_eq_true, if_false]
              rfl
            · cases hb
          rw [hrun]
          refine (hc w (vs ++ args.map a.eval ++ us) (by simp [hl, hm]) (fun i d hd => ?_) hs).mono fun e w' ⟨v, he, hp⟩ => ⟨v, he, trivial, hp⟩
          have hsz : (args.map a.eval).size = args.size := by simp
          by_cases h1 : i < first.length
          · rw [List.append_assoc, List.getElem?_append_left h1] at hd
            have : (vs ++ args.map a.eval ++ us).getD i Go.undef = vs.getD i Go.undef := by
              rw [Array.append_assoc, getD_append_left (by omega)]
            rw [this]; exact hr i d hd
          · rw [List.append_assoc, List.getElem?_append_right (by omega)] at hd
            obtain ⟨k, rfl⟩ : ∃ k, i = vs.size + k := ⟨i - first.length, by omega⟩
            rw [show vs.size + k - first.length = k by omega] at hd
            rw [Array.append_assoc, getD_append_right]
            by_cases h2 : k < args.size
            · rw [List.getElem?_append_left (by simpa using h2)] at hd
              rw [getD_append_left (by simpa using h2)]
              simp only [List.getElem?_map, Option.map_eq_some_iff] at hd
              obtain ⟨x, hx, rfl⟩ := hd
              have : (args.map a.eval).getD k Go.undef = a.eval x := by
                have h' : args[k]? = some x := by simpa using hx
                simp [h']
              rw [this]; exact hev x
            · rw [List.getElem?_append_right (by simpa using h2)] at hd
              obtain ⟨j, rfl⟩ : ∃ j, k = (args.map a.eval).size + j := ⟨k - args.size, by simp; omega⟩
              rw [getD_append_right]
              have : (args.map a.eval).size + j - (args.toList.map ev).length = j := by simp
              rw [this] at hd
              exact hq j d hd
      · exact h.elim
    | invoke r m => simp only [wpOp, cls] at h
    | builtin b =>
      cases b
      case append =>
        simp only [wpOp] at h
        split at h
        · rename_i t t' s x hats hargs
          obtain ⟨v, w', hr, hp⟩ := append_sound (P := P) hs hev h type
          refine effCase rfl (v := v) (w' := w') ?_ hp
          have e1 : ats = #[t, t'] := by rw [← Array.toArray_toList (xs := ats), hats]
          have e2 : args = #[s, x] := by rw [← Array.toArray_toList (xs := args), hargs]
          subst e1; subst e2
          simp only [execOp, resolve]
          rw [Sem.run_bind]
          simp only [Sem.run_pure, Result.andThen_ok, invoke, builtin]
          rw [Sem.run_bind]
          have : (#[s, x].map a.eval) = #[a.eval s, a.eval x] := by simp
          rw [this, hr]
          rfl
        · exact h.elim
      all_goals first
        | exact pureCase rfl h
        | (simp only [wpOp, cls] at h; done)
  case range t x =>
    simp only [wpOp] at h
    split at h
    · rename_i s hx
      obtain ⟨hu, hk⟩ := h
      have hv := hev x
      rw [hx] at hv
      have hv := hv.str_inv
      have hn : H w.heap.size = none := hs.fresh (Nat.le_refl _)
      have he : Ext H w (w.iter s 0) := Ext.alloc H w _
      have hf : From w H (H.set w.heap.size (.iter s 0)) := From.set_new (Nat.le_refl _) _
      refine effCase rfl (v := .pointer (some ⟨w.heap.size, 0, none⟩)) (w' := w.iter s 0) ?_ ⟨_, _, .box _ _, hs.update he hf (fun k hk _ => Go.RowKit.Below.heap_alloc _ _ _ hk) (World.iter_heap w s 0), he, hf, hk _ hn⟩
      simp only [execOp]
      rw [Sem.run_bind, hv, run_range_string w t s hu]
      rfl
    · exact h.elim
  case next x isString =>
    simp only [wpOp] at h
    split at h
    · rename_i b hx
      split at h
      · rename_i s pos hb
        have hv := hev x
        rw [hx] at hv
        have hv := hv.box_inv
        obtain ⟨v, w', hr, hp⟩ := next_sound (P := P) hs hb type h
        refine effCase rfl (v := v) (w' := w') ?_ hp
        simp only [execOp]
        rw [Sem.run_bind, hv, hr]
        rfl
      · exact h.elim
    · exact h.elim
  all_goals first
    | exact pureCase rfl h
    | exact h.elim

/-! ### Regions where reads lie beside writes -/
theorem minus_le (H : Heap) (l : List Nat) : (H.minus l).Le H := fun k o h => by
  unfold Heap.minus at h
  split at h
  · cases h
  · exact h

theorem noEnter_bind {α : Type} (s : Sem α) (g : α → Next) (hg : ∀ x f args, g x ≠ .enter f args) (w : World) (f : FuncId) (args : Array Value) (w' : World) : (do let x ← s; pure (g x) : Sem Next).run P w ≠ .ok (.enter f args) w' := by
  rw [Sem.run_bind]
  cases s.run P w with
  | ok x w1 => intro h; simp only [Result.andThen_ok, Sem.run_pure, Result.ok.injEq] at h; exact hg _ _ _ h.1
  | halt x w1 => intro h; cases h

theorem frame_eff {o : Oper} {a : Act} {w : World} {ev : Operand → D} {H : Heap} {K : D → Heap → Prop} {sx : Bool} {l : List Nat} (hl : ∀ k ∈ l, k < w.heap.size) (hs : Sat H w) (hev : ∀ x, R w H (ev x) (a.eval x)) (hc : cls P o.op = .eff)
    (hne : ∀ f args w', (execOp a.eval o).run P w ≠ .ok (.enter f args) w') (hx : (sx = false ∧ isStore o.op = true) ∨ wpOp P ev (H.minus l) (fun _ _ => True) o.op) (h : wpOp P ev H K o.op) : opSem P (some (sx, l)) o a w (Post H w K) := by
  have h1 := wpOp_sound (o := o) hs hev h
  unfold opSem at h1 ⊢
  rw [hc] at h1 ⊢
  simp only at h1 ⊢
  have hfr : ∀ v w', ((execOp a.eval o).run P w = .ok (.value v) w' ∨ (execOp a.eval o).run P w = .ok .skip w') → Frame (some (sx, l)) o.op w w' := by
    intro v w' hr
    rcases hx with hx | hx
    · exact .inl hx
    · have h2 := wpOp_sound (o := o) (hs.less (minus_le H l)) (fun x => (hev x).less (minus_le H l)) hx
      unfold opSem at h2
      rw [hc] at h2
      simp only at h2
      have he : Ext (H.minus l) w w' := by
        unfold effPost at h2
        rcases hr with hr | hr
        · rw [hr] at h2; obtain ⟨_, _, _, _, _, he, _⟩ := h2; exact he
        · rw [hr] at h2; obtain ⟨_, _, _, _, _, he, _⟩ := h2; exact he
      exact .inr fun k hk => he.block k (hl k hk) (held_none (by simp [Heap.minus, hk]))
  unfold effPost at h1 ⊢
  split at h1 <;> try exact h1.elim
  · rename_i hr; exact ⟨hfr _ _ (.inl hr), h1.2⟩
  · rename_i hr; exact ⟨hfr undef _ (.inr hr), h1.2⟩
  · rename_i hr; exact absurd hr (hne _ _ _)

theorem wpOpR_sound {o : Oper} {a : Act} {w : World} {ev : Operand → D} {H : Heap} {K : D → Heap → Prop} {sx : Bool} {l : List Nat} (hl : ∀ k ∈ l, k < w.heap.size) (hs : Sat H w) (hev : ∀ x, R w H (ev x) (a.eval x)) (h : wpOpR P sx l ev H K o.op) :
    opSem P (some (sx, l)) o a w (Post H w K) := by
  have pureCase : cls P o.op = .pure → wpOp P ev H K o.op → opSem P (some (sx, l)) o a w (Post H w K) := fun hc h => by
    have h1 := wpOp_sound (o := o) hs hev h
    unfold opSem at h1 ⊢
    rw [hc] at h1 ⊢
    exact h1
  obtain ⟨dst, op, type, pos, after, guard⟩ := o
  simp only at h pureCase ⊢
  unfold wpOpR at h
  split at h
  · rename_i t x
    obtain ⟨hb, d, hd, hk⟩ := h
    obtain ⟨u, hu, hR⟩ := load_stable (P := P) hs hd (hev x)
    unfold opSem
    refine ⟨u, fun w' hw' => ?_, d, H, hR, hs, Ext.refl _ _, From.refl _ _, hk⟩
    simp only [execOp]
    rw [Sem.run_bind, hu w' fun b o hv => ?_]; rfl
    split at hb
    · rename_i b' off he
      have hr := hev x
      rw [he] at hr
      have hr := hr.box_inv
      rw [hr] at hv
      cases hv
      exact hw' _ hb
    · rename_i b' sz i off he
      have hr := hev x
      rw [he] at hr
      have hr := hr.el_inv
      rw [hr] at hv
      cases hv
      exact hw' _ hb
    · exact hb.elim
  · exact frame_eff hl hs hev rfl (fun f args w' => noEnter_bind _ (fun _ => Next.skip) (by simp) w f args w') (by
      cases sx
      · exact .inl ⟨rfl, rfl⟩
      · exact .inr (h.1 rfl)) h.2
  · exact frame_eff hl hs hev rfl (fun f args w' => noEnter_bind _ Next.value (by simp) w f args w') (.inr h.1) h.2
  · exact frame_eff hl hs hev rfl (fun f args w' => noEnter_bind _ Next.value (by simp) w f args w') (.inr h.1) h.2
  · exact frame_eff hl hs hev rfl (fun f args w' => noEnter_bind _ Next.value (by simp) w f args w') (.inr h.1) h.2
  · refine frame_eff hl hs hev rfl (fun f args w' => ?_) (.inr h.1) h.2
    simp only [execOp, resolve]
    rw [Sem.run_bind]
    simp only [Sem.run_pure, Result.andThen_ok, invoke]
    exact noEnter_bind _ Next.value (by simp) w f args w'
  · exact pureCase h.1 h.2

end
end Go.Av
