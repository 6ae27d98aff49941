/- Av: operations on memory: proofs. -/
import Derived.Test.YtlbojoghnapbfaaDoorAvMem
namespace Go.Av
section
variable {P : Program}

theorem RowR.mono {w w' : World} {H H' : Heap} {cs : List D} {vs : Array Value} (h : RowR w H cs vs) (he : Ext H w w') (hf : From w H H') : RowR w' H' cs vs :=
  ⟨h.len, h.one, fun i c hc => (h.rel i c hc).mono he hf⟩

theorem RowR.oneCell {w : World} {H : Heap} {cs : List D} {vs : Array Value} (h : RowR w H cs vs) : ∀ v ∈ vs.toList, v.oneCell' = true := by
  intro v hv
  obtain ⟨i, hi⟩ := List.getElem?_of_mem hv
  have hlt : i < vs.size := by
    have := (List.getElem?_eq_some_iff.1 hi).1
    simpa using this
  have hlt' : i < cs.length := by rw [h.len]; exact hlt
  have hc : cs[i]? = some cs[i] := List.getElem?_eq_getElem hlt'
  have := (h.rel i _ hc).oneCell (h.one i _ hc)
  have e : vs.getD i Go.undef = v := by
    have h' : vs[i]? = some v := by simpa using hi
    simp [h']
  rwa [e] at this

theorem objOk_box {w : World} {H : Heap} {b : Nat} {cs : List D} {c : Array Value} {T lo hi : Nat} (hb : w.heap[b]? = some (.cells c T (lo, hi))) (hf : ∀ j, j < c.size → ¬ (lo ≤ j ∧ j < hi)) (h : RowR w H cs c) : ObjOk w H b (.box cs) :=
  ⟨c, T, lo, hi, hb, hf, h.len.symm, fun j d hd => ⟨h.one j d hd, h.rel j d hd⟩⟩

theorem box_inv {w : World} {H : Heap} {b : Nat} {cs : List D} (h : ObjOk w H b (.box cs)) : ∃ c T lo hi, w.heap[b]? = some (.cells c T (lo, hi)) ∧ (∀ j, j < c.size → ¬ (lo ≤ j ∧ j < hi)) ∧ RowR w H cs c := by
  obtain ⟨c, T, lo, hi, h1, h2, h3, h4⟩ := h
  exact ⟨c, T, lo, hi, h1, h2, ⟨h3.symm, fun i d hd => (h4 i d hd).1, fun i d hd => (h4 i d hd).2⟩⟩

/-- Elements in a row of values. -/
structure VecR (w : World) (H : Heap) (sz : Nat) (es : List (List D)) (c : Array Value) : Prop where
  le : es.length * sz ≤ c.size
  each : ∀ (i : Nat) e, es[i]? = some e → e.length = sz
  one : ∀ (i : Nat) (e : List D) (j : Nat) d, es[i]? = some e → e[j]? = some d → d.one = true
  rel : ∀ (i : Nat) (e : List D) (j : Nat) d, es[i]? = some e → e[j]? = some d → R w H d (c.getD (i * sz + j) Go.undef)

theorem VecR.mono {w w' : World} {H H' : Heap} {sz : Nat} {es : List (List D)} {c : Array Value} (h : VecR w H sz es c) (he : Ext H w w') (hf : From w H H') : VecR w' H' sz es c :=
  ⟨h.le, h.each, h.one, fun i e j d h1 h2 => (h.rel i e j d h1 h2).mono he hf⟩

theorem objOk_vec {w : World} {H : Heap} {b sz : Nat} {es : List (List D)} {c : Array Value} {T lo hi : Nat} (hb : w.heap[b]? = some (.cells c T (lo, hi))) (hf : ∀ j, j < c.size → ¬ (lo ≤ j ∧ j < hi)) (hsz : 0 < sz) (h : VecR w H sz es c) : ObjOk w H b (.vec sz es) :=
  ⟨c, T, lo, hi, hb, hf, hsz, h.le, h.each, fun i e j d h1 h2 => ⟨h.one i e j d h1 h2, h.rel i e j d h1 h2⟩⟩

theorem vec_inv {w : World} {H : Heap} {b sz : Nat} {es : List (List D)} (h : ObjOk w H b (.vec sz es)) : ∃ c T lo hi, w.heap[b]? = some (.cells c T (lo, hi)) ∧ (∀ j, j < c.size → ¬ (lo ≤ j ∧ j < hi)) ∧ 0 < sz ∧ VecR w H sz es c := by
  obtain ⟨c, T, lo, hi, h1, h2, h3, h4, h5, h6⟩ := h
  exact ⟨c, T, lo, hi, h1, h2, h3, ⟨h4, h5, fun i e j d a b => (h6 i e j d a b).1, fun i e j d a b => (h6 i e j d a b).2⟩⟩

theorem Sat.update {w w' : World} {H : Heap} {b : Nat} {o : Obj} (hs : Sat H w) (he : Ext H w w') (hf : From w H (H.set b o)) (hk : ∀ k, k < w.heap.size → k ≠ b → w'.heap[k]? = w.heap[k]?) (ho : ObjOk w' (H.set b o) b o) : Sat (H.set b o) w' := by
  intro k x hx
  unfold Heap.set at hx
  by_cases hkb : k = b
  · rw [if_pos hkb] at hx; cases hx; rw [hkb]; exact ho
  · rw [if_neg hkb] at hx
    exact (hs k x hx).mono he hf (hk k (hs.lt hx) hkb)

theorem From.set_owned {w : World} {H : Heap} {b : Nat} (hb : H.held b = true) (o : Obj) : From w H (H.set b o) := fun k _ hn => by
  have hk : k ≠ b := fun e => by rw [e, hb] at hn; cases hn
  rw [held_ne (H := H) (by unfold Heap.set; rw [if_neg hk])]
  exact hn

theorem From.set_new {w : World} {H : Heap} {b : Nat} (hb : w.heap.size ≤ b) (o : Obj) : From w H (H.set b o) := fun k hk hn => by
  rw [held_ne (H := H) (by unfold Heap.set; rw [if_neg (by omega)])]
  exact hn

/-! ### A new block -/
theorem heap_alloc_new (w : World) (o : Go.Obj) : (w.alloc o).heap[w.heap.size]? = some o := by
  show (w.heap.push o)[w.heap.size]? = _
  simp

theorem post_box {w : World} {H : Heap} {K : D → Heap → Prop} (hs : Sat H w) {cs : List D} {vs : Array Value} (T : Nat) (hr : RowR w H cs vs) (hK : ∀ b, H b = none → K (.box b 0) (H.set b (.box cs))) :
    Post H w K (.pointer (some ⟨w.heap.size, 0, none⟩)) (w.alloc (.cells vs T)) := by
  have he := Ext.alloc H w (.cells vs T)
  have hf := From.set_new (H := H) (Nat.le_refl w.heap.size) (.box cs)
  refine ⟨.box w.heap.size 0, H.set w.heap.size (.box cs), .box _ _, ?_, he, hf, hK _ (hs.fresh (Nat.le_refl _))⟩
  exact hs.update he hf (fun k hk _ => Go.RowKit.Below.heap_alloc _ _ _ hk) (objOk_box (heap_alloc_new w _) (by simp) (hr.mono he hf))

theorem post_vec {w : World} {H : Heap} {K : D → Heap → Prop} (hs : Sat H w) {sz : Nat} {es : List (List D)} {vs : Array Value} (T n cap : Nat) (hsz : 0 < sz) (hr : VecR w H sz es vs) (hn : n ≤ cap) (hc : vs.size = cap * sz) (hK : ∀ b, H b = none → K (.vec b sz 0 n) (H.set b (.vec sz es))) :
    Post H w K (.slice (some ⟨w.heap.size, 0, none⟩) n cap) (w.alloc (.cells vs T)) := by
  have he := Ext.alloc H w (.cells vs T)
  have hf := From.set_new (H := H) (Nat.le_refl w.heap.size) (.vec sz es)
  refine ⟨.vec w.heap.size sz 0 n, H.set w.heap.size (.vec sz es), ?_, ?_, he, hf, hK _ (hs.fresh (Nat.le_refl _))⟩
  · have := R.vec (w := w.alloc (.cells vs T)) (H := H.set w.heap.size (.vec sz es)) w.heap.size sz 0 n cap T vs.size (by unfold World.shape?; rw [heap_alloc_new]) (by rw [hc, Nat.zero_add]) hsz hn
    rwa [Nat.zero_mul] at this
  · exact hs.update he hf (fun k hk _ => Go.RowKit.Below.heap_alloc _ _ _ hk) (objOk_vec (heap_alloc_new w _) (by simp) hsz (hr.mono he hf))

/-! ### Cells written -/
theorem setCells_spec (b T : Nat) (fz : Nat × Nat) : ∀ (vs : List Value) (o : Nat) (w : World) (c : Array Value), w.heap[b]? = some (.cells c T fz) →
    (w.setCells b o vs).heap[b]? = some (.cells (putV c o vs) T fz) ∧ (∀ k, k ≠ b → (w.setCells b o vs).heap[k]? = w.heap[k]?) ∧ (w.setCells b o vs).heap.size = w.heap.size ∧ (w.setCells b o vs).os = w.os ∧ (w.setCells b o vs).tape = w.tape ∧ (w.setCells b o vs).output = w.output
  | [], _, _, _, h => ⟨h, fun _ _ => rfl, rfl, rfl, rfl, rfl⟩
  | v :: vs, o, w, c, h => by
    have h1 : (w.setCell ⟨b, o, none⟩ v).heap[b]? = some (.cells (c.setIfInBounds o v) T fz) := by
      simp only [World.setCell, Array.getElem?_modify, if_true, h, Option.map_some]
      rfl
    obtain ⟨k1, k2, k3, k4, k5, k6⟩ := setCells_spec b T fz vs (o + 1) (w.setCell ⟨b, o, none⟩ v) _ h1
    exact ⟨k1, fun k hk => (k2 k hk).trans (Go.RowKit.Below.heap_setCell _ _ _ _ hk), k3.trans (by simp [World.setCell]), k4, k5, k6⟩

theorem Ext.setCells {H : Heap} {w : World} {b T : Nat} {fz : Nat × Nat} {c : Array Value} (hb : w.heap[b]? = some (.cells c T fz)) (hn : H.held b = true) (vs : List Value) (o : Nat) : Ext H w (w.setCells b o vs) := by
  obtain ⟨k1, k2, k3, k4, k5, k6⟩ := setCells_spec b T fz vs o w c hb
  refine ⟨k4, k5, k6, Nat.le_of_eq k3.symm, fun k _ hk => k2 k (fun e => by rw [e, hn] at hk; cases hk), fun k _ => ?_⟩
  unfold World.shape?
  by_cases hk : k = b
  · subst hk; rw [k1, hb]; simp [putV_size]
  · rw [k2 k hk]

theorem cell_at {w : World} {b T : Nat} {fz : Nat × Nat} {c : Array Value} (hb : w.heap[b]? = some (.cells c T fz)) (i : Nat) : w.cell? ⟨b, i, none⟩ = c[i]? := by
  unfold World.cell?
  rw [hb]; rfl

theorem frozen_at {w : World} {b T lo hi : Nat} {c : Array Value} (hb : w.heap[b]? = some (.cells c T (lo, hi))) {i : Nat} (h : ¬ (lo ≤ i ∧ i < hi)) : w.frozen? ⟨b, i, none⟩ = false := by
  unfold World.frozen?
  rw [hb]
  simp only
  rw [Bool.and_eq_false_iff]
  by_cases h1 : lo ≤ i
  · right; simp; omega
  · left; simp; omega

theorem run_storeVar {w : World} {t : TypeId} {b o T lo hi : Nat} {c vs : Array Value} {v : Value} {bb : Bool} (hv : v.cells = vs) (hsh : shapeT P t = some (bb, vs.size)) (hb : w.heap[b]? = some (.cells c T (lo, hi))) (hf : ∀ j, j < c.size → ¬ (lo ≤ j ∧ j < hi)) (hle : o + vs.size ≤ c.size) (h1 : ∀ v ∈ vs.toList, v.oneCell' = true) :
    (storeVar t ⟨b, o, none⟩ v).run P w = .ok () (w.setCells b o vs.toList) := by
  obtain ⟨_, hz⟩ := runs_isAgg (P := P) hsh
  unfold storeVar
  rw [Sem.run_bind, hz w]
  simp only [Result.andThen_ok, hv, ne_eq, not_true_eq_false, if_false]
  have hl : vs.toList.length = vs.size := by simp
  have := run_storeCells_cells (P := P) b o vs.toList 0 w (fun j hj => by rw [Nat.add_zero, cell_at hb]; rw [hl] at hj; simp; omega)
    (fun j hj => by rw [Nat.add_zero]; rw [hl] at hj; exact frozen_at hb (hf _ (by omega))) h1
  rwa [Nat.add_zero] at this

/-- What lies from a place on. -/
theorem locD_R {w : World} {H : Heap} (hs : Sat H w) {d : D} {cs : List D} (h : locD H d = some cs) {v : Value} (hr : R w H d v) :
    ∃ b o, v = .pointer (some ⟨b, o, none⟩) ∧ ∃ g : Nat → Value, (∀ i, i < cs.length → w.cell? ⟨b, o + i, none⟩ = some (g i)) ∧ (∀ (i : Nat) c, cs[i]? = some c → c.one = true) ∧ ∀ (i : Nat) c, cs[i]? = some c → R w H c (g i) := by
  unfold locD at h
  split at h
  · rename_i b off
    split at h
    · rename_i zs hb
      cases h
      obtain ⟨c, T, lo, hi, hc, hf, hrow⟩ := box_inv (hs b _ hb)
      refine ⟨b, off, hr.box_inv, fun i => c.getD (off + i) Go.undef, fun i hi => ?_, fun i d hd => hrow.one (off + i) d (by rwa [List.getElem?_drop] at hd), fun i d hd => hrow.rel (off + i) d (by rwa [List.getElem?_drop] at hd)⟩
      rw [cell_at hc]
      have : off + i < c.size := by have := hrow.len; simp at hi; omega
      simp [this]
    · cases h
  · rename_i b sz i off
    split at h
    · rename_i sz' es hb
      split at h
      · rename_i hsz
        subst hsz
        obtain ⟨e, he, rfl⟩ := Option.map_eq_some_iff.1 h
        obtain ⟨c, T, lo, hi, hc, hf, _, hv⟩ := vec_inv (hs b _ hb)
        have hel := hv.each i e he
        have hilt : i < es.length := (List.getElem?_eq_some_iff.1 he).1
        have hle : (i + 1) * sz ≤ es.length * sz := Nat.mul_le_mul_right _ hilt
        rw [Nat.add_mul, Nat.one_mul] at hle
        have hle' := hv.le
        refine ⟨b, i * sz + off, hr.el_inv, fun k => c.getD (i * sz + (off + k)) Go.undef, fun k hk => ?_, fun k d hd => hv.one i e (off + k) d he (by rwa [List.getElem?_drop] at hd), fun k d hd => hv.rel i e (off + k) d he (by rwa [List.getElem?_drop] at hd)⟩
        rw [cell_at hc]
        simp at hk
        have : i * sz + off + k < c.size := by omega
        rw [Nat.add_assoc] at this
        simp [this, Nat.add_assoc]
      · cases h
    · cases h
  · cases h
    cases hr with
    | ro cs b off u hb hn hc h1 hr => exact ⟨b, off, rfl, u, hc, h1, hr⟩
  · rename_i g
    split at h
    · rename_i zs hb
      cases h
      obtain ⟨c, T, fz, hc, hl, hrel⟩ := hs g _ hb
      have hv : v = .pointer (some ⟨g, 0, none⟩) := by cases hr; rfl
      refine ⟨g, 0, hv, fun i => c.getD i Go.undef, fun i hi => ?_, fun i d hd => (hrel i d hd).1, fun i d hd => (hrel i d hd).2⟩
      rw [cell_at hc, Nat.zero_add]
      have : i < c.size := by omega
      simp [this]
    · cases h
  · cases h

/-- What is loaded, is so in every world in which that block is the same. -/
theorem load_stable {w : World} {H : Heap} (hs : Sat H w) {t : TypeId} {a d : D} (h : loadD P t a H = some d) {v : Value} (hr : R w H a v) : ∃ u, (∀ w' : World, (∀ b o, v = .pointer (some ⟨b, o, none⟩) → w'.heap[b]? = w.heap[b]?) → (Instr.loadAt t v).run P w' = .ok u w') ∧ R w H d u := by
  unfold loadD at h
  obtain ⟨⟨bb, n⟩, hsh, h⟩ := Option.bind_eq_some_iff.1 h
  obtain ⟨cs, hcs, h⟩ := Option.bind_eq_some_iff.1 h
  obtain ⟨b, o, rfl, g, hg, h1, hrel⟩ := locD_R hs hcs hr
  obtain ⟨k1, k2⟩ := takeD_R h g h1 hrel
  obtain ⟨ha, hz⟩ := runs_isAgg (P := P) hsh
  have hg' : ∀ w' : World, (∀ b' o', Value.pointer (some ⟨b, o, none⟩) = .pointer (some ⟨b', o', none⟩) → w'.heap[b']? = w.heap[b']?) → ∀ i, i < cs.length → w'.cell? ⟨b, o + i, none⟩ = some (g i) := fun w' hw i hi => by
    rw [World.cell?_of_block (w := w) (hw b o rfl)]; exact hg i hi
  cases bb
  · obtain ⟨h0, hR⟩ := k2 rfl
    refine ⟨g 0, fun w' hw => ?_, hR⟩
    unfold Instr.loadAt
    have hsure : (Instr.sureAddr (.pointer (some ⟨b, o, none⟩))).run P w' = .ok ⟨b, o, none⟩ w' := rfl
    rw [Sem.run_bind, hsure]
    simp only [Result.andThen_ok]
    unfold loadVar
    rw [Sem.run_bind, ha w']
    simp only [Result.andThen_ok]
    have := hg' w' hw 0 (List.getElem?_eq_some_iff.1 h0).1
    rw [Nat.add_zero] at this
    simp only [Bool.false_eq_true, if_false, run_load, this]
  · obtain ⟨hn, _, hR⟩ := k1 rfl
    refine ⟨_, fun w' hw => ?_, hR⟩
    unfold Instr.loadAt
    have hsure : (Instr.sureAddr (.pointer (some ⟨b, o, none⟩))).run P w' = .ok ⟨b, o, none⟩ w' := rfl
    rw [Sem.run_bind, hsure]
    simp only [Result.andThen_ok]
    unfold loadVar
    rw [Sem.run_bind, ha w']
    simp only [Result.andThen_ok]
    simp only [if_true]
    rw [Sem.run_bind, hz w']
    simp only [Result.andThen_ok]
    rw [Sem.run_bind, run_loadCells w' ⟨b, o, none⟩ n g (fun j hj => by rw [add_off]; exact hg' w' hw j (by simp only at hn; omega))]
    rfl

theorem load_sound {w : World} {H : Heap} (hs : Sat H w) {t : TypeId} {a d : D} (h : loadD P t a H = some d) {v : Value} (hr : R w H a v) : ∃ u, (Instr.loadAt t v).run P w = .ok u w ∧ R w H d u :=
  let ⟨u, h1, h2⟩ := load_stable (P := P) hs h hr; ⟨u, h1 w fun _ _ _ => rfl, h2⟩

theorem store_sound {w : World} {H H' : Heap} (hs : Sat H w) {t : TypeId} {a x : D} (h : storeD P t a x H = some H') {va vx : Value} (hra : R w H a va) (hrx : R w H x vx) :
    ∃ w', (Instr.storeAt t va vx).run P w = .ok () w' ∧ Sat H' w' ∧ Ext H w w' ∧ From w H H' := by
  unfold storeD at h
  split at h
  · rename_i hc
    obtain ⟨hsh, h1⟩ := hc
    obtain ⟨⟨bb, n⟩, hsh, hn⟩ := Option.map_eq_some_iff.1 hsh
    simp only at hn
    subst hn
    have hrow := RowR.of_cells hrx h1
    rw [hrow.len] at hsh
    split at h
    · rename_i b off
      split at h
      · rename_i zs hb
        split at h
        · rename_i hle
          cases h
          obtain rfl := hra.box_inv
          obtain ⟨c, T, lo, hi, hcell, hf, hr⟩ := box_inv (hs b _ hb)
          have hbn : H.held b = true := held_of hb
          have he := Ext.setCells (H := H) hcell hbn vx.cells.toList off
          have hfr := From.set_owned (w := w) hbn (.box (putAt zs off x.cells))
          refine ⟨_, ?_, ?_, he, hfr⟩
          · unfold Instr.storeAt
            have hsure : (Instr.sureAddr (.pointer (some ⟨b, off, none⟩))).run P w = .ok ⟨b, off, none⟩ w := rfl
            rw [Sem.run_bind, hsure]
            exact run_storeVar rfl hsh hcell hf (by rw [← hrow.len, ← hr.len]; exact hle) hrow.oneCell
          · obtain ⟨k1, k2, _⟩ := setCells_spec b T (lo, hi) vx.cells.toList off w c hcell
            exact hs.update he hfr (fun k _ hk => k2 k hk) (objOk_box k1 (by rw [putV_size]; exact hf) ((hr.put hrow off).mono he hfr))
        · cases h
      · cases h
    · rename_i b sz i off
      split at h
      · rename_i sz' es hb
        split at h
        · rename_i hle
          obtain ⟨hsz, hi, hle⟩ := hle
          subst hsz
          cases h
          obtain rfl := hra.el_inv
          obtain ⟨c, T, lo, hi', hcell, hf, hsz, hv⟩ := vec_inv (hs b _ hb)
          have hbn : H.held b = true := held_of hb
          have he := Ext.setCells (H := H) hcell hbn vx.cells.toList (i * sz + off)
          have hfr := From.set_owned (w := w) hbn (.vec sz (es.set i (putAt (es.getD i []) off x.cells)))
          have hge : es[i]? = some (es.getD i []) := by simp [List.getElem?_eq_getElem hi]
          have hel := hv.each i _ hge
          have hmul : (i + 1) * sz ≤ es.length * sz := Nat.mul_le_mul_right _ hi
          rw [Nat.add_mul, Nat.one_mul] at hmul
          have hcs := hv.le
          refine ⟨_, ?_, ?_, he, hfr⟩
          · unfold Instr.storeAt
            have hsure : (Instr.sureAddr (.pointer (some ⟨b, i * sz + off, none⟩))).run P w = .ok ⟨b, i * sz + off, none⟩ w := rfl
            rw [Sem.run_bind, hsure]
            exact run_storeVar rfl hsh hcell hf (by rw [← hrow.len]; omega) hrow.oneCell
          · obtain ⟨k1, k2, _⟩ := setCells_spec b T (lo, hi') vx.cells.toList (i * sz + off) w c hcell
            refine hs.update he hfr (fun k _ hk => k2 k hk) (objOk_vec k1 (by rw [putV_size]; exact hf) hsz (VecR.mono ?_ he hfr))
            have hlen : vx.cells.toList.length = x.cells.length := by rw [hrow.len]; simp
            have both : ∀ (i' : Nat) (e : List D) (j : Nat) d, (es.set i (putAt (es.getD i []) off x.cells))[i']? = some e → e[j]? = some d → d.one = true ∧ R w H d ((putV c (i * sz + off) vx.cells.toList).getD (i' * sz + j) Go.undef) := by
              intro i' e j d he' hd
              have hg : (putV c (i * sz + off) vx.cells.toList).getD (i' * sz + j) Go.undef = ((putV c (i * sz + off) vx.cells.toList)[i' * sz + j]?).getD Go.undef := by simp
              rw [hg, putV_get, hlen]
              by_cases hii : i = i'
              · subst hii
                rw [List.getElem?_set_self hi] at he'
                cases he'
                rw [putAt_get] at hd
                have hjl : j < sz := by
                  have : j < (es.getD i []).length := by
                    split at hd
                    · omega
                    · exact (List.getElem?_eq_some_iff.1 hd).1
                  omega
                by_cases hin : off ≤ j ∧ j < off + x.cells.length ∧ j < (es.getD i []).length
                · rw [if_pos hin] at hd
                  rw [if_pos (by omega), show i * sz + j - (i * sz + off) = j - off by omega]
                  refine ⟨hrow.one _ _ hd, ?_⟩
                  have := hrow.rel _ _ hd
                  simpa using this
                · rw [if_neg hin] at hd
                  rw [if_neg (by omega)]
                  refine ⟨hv.one i _ j d hge hd, ?_⟩
                  have := hv.rel i _ j d hge hd
                  simpa using this
              · rw [List.getElem?_set_ne hii] at he'
                have hjl : j < sz := by
                  have h1 := hv.each i' e he'
                  have h2 := (List.getElem?_eq_some_iff.1 hd).1
                  omega
                have hne : ¬ (i * sz + off ≤ i' * sz + j ∧ i' * sz + j < i * sz + off + x.cells.length ∧ i' * sz + j < c.size) := by
                  rcases Nat.lt_or_gt_of_ne hii with hlt | hgt
                  · have := Nat.mul_le_mul_right sz (show i + 1 ≤ i' from hlt)
                    rw [Nat.add_mul, Nat.one_mul] at this
                    omega
                  · have := Nat.mul_le_mul_right sz (show i' + 1 ≤ i from hgt)
                    rw [Nat.add_mul, Nat.one_mul] at this
                    omega
                rw [if_neg hne]
                refine ⟨hv.one i' e j d he' hd, ?_⟩
                have := hv.rel i' e j d he' hd
                simpa using this
            refine ⟨by rw [putV_size, List.length_set]; exact hv.le, fun i' e he' => ?_, fun i' e j d a b => (both i' e j d a b).1, fun i' e j d a b => (both i' e j d a b).2⟩
            by_cases hii : i = i'
            · subst hii
              rw [List.getElem?_set_self hi] at he'
              cases he'
              rw [putAt_length]; exact hel
            · rw [List.getElem?_set_ne hii] at he'
              exact hv.each i' e he'
        · cases h
      · cases h
    · cases h
  · cases h

theorem zero_row {w : World} {H : Heap} {t : TypeId} {z : List D} (h : zeroD P t = some z) : ∃ v, Runs P (zeroValue t) v ∧ RowR w H z v.cells := by
  obtain ⟨v, hv, he, h1⟩ := runs_zero h
  refine ⟨v, hv, ?_⟩
  subst he
  refine ⟨by simp, fun i c hc => List.all_eq_true.1 h1 c (List.mem_of_getElem? hc), fun i c hc => ?_⟩
  simp only [List.getElem?_map, Option.map_eq_some_iff] at hc
  obtain ⟨u, hu', rfl⟩ := hc
  have : v.cells.getD i Go.undef = u := by
    have h' : v.cells[i]? = some u := by simpa using hu'
    simp [h']
  rw [this]; exact ofCell_R w H u

end
end Go.Av
