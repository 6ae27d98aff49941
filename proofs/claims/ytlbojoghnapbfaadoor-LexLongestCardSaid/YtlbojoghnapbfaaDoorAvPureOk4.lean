/- Av: the pure operations, in every world: literals; and all together. -/
import Derived.Test.YtlbojoghnapbfaaDoorAvPureOk3
import Derived.Laws.StructEq
namespace Go.Av
section
variable {P : Program}

theorem runs_cellEq {d : Nat} {t : TypeId} {x y : D} {c : Bool} (h : cellEq (baseT P t) x y = some c) {w : World} {H : Heap} {a b : Value} (hx : R w H x a) (hy : R w H y b) :
    Runs P (Op.equalIn (d + 1) t a b) c := by
  unfold cellEq at h
  split at h
  · rename_i k m k' n hbt
    have e1 := hx.int_inv; have e2 := hy.int_inv; subst e1; subst e2
    split at h
    · rename_i hk
      subst hk; cases h
      obtain ⟨k', hu⟩ : ∃ k', P.underlying t = some (.int k') := by
        unfold baseT at hbt
        split at hbt <;> simp_all
      exact fun w => run_equalIn_int w d t k k' m n hu
    · cases h
  · rename_i m n hbt
    have e1 := hx.str_inv; have e2 := hy.str_inv; subst e1; subst e2
    cases h
    have hu : P.underlying t = some .string := by
      unfold baseT at hbt
      split at hbt <;> simp_all
    intro w
    rw [run_equalIn_string w d t m n hu, ByteArray.toList_eq, ByteArray.toList_eq]
  · rename_i m n hbt
    have e1 := hx.bool_inv; have e2 := hy.bool_inv; subst e1; subst e2
    cases h
    have hu : P.underlying t = some .bool := by
      unfold baseT at hbt
      split at hbt <;> simp_all
    exact fun w => run_equalIn_bool' w d t m n hu
  · cases h

theorem mapM_cons_inv {α β : Type} {f : α → Option β} {x : α} {xs : List α} {ys : List β} (h : (x :: xs).mapM f = some ys) : ∃ y r, f x = some y ∧ xs.mapM f = some r ∧ ys = y :: r := by
  simp only [List.mapM_cons, Option.bind_eq_bind, Option.bind_eq_some_iff, Option.pure_def, Option.some.injEq] at h
  obtain ⟨y, hy, r, hr, rfl⟩ := h
  exact ⟨y, r, hy, hr, rfl⟩

theorem runs_aggEq {d : Nat} {w0 : World} {H : Heap} {xs ys : List D} {vs us : Array Value} (hl : xs.length = vs.size) (h1 : ∀ (i : Nat) c, xs[i]? = some c → c.one = true) (hr : ∀ (i : Nat) c, xs[i]? = some c → R w0 H c (vs.getD i Go.undef))
    (hl' : ys.length = us.size) (h1' : ∀ (i : Nat) c, ys[i]? = some c → c.one = true) (hr' : ∀ (i : Nat) c, ys[i]? = some c → R w0 H c (us.getD i Go.undef)) :
    ∀ (fs : List Field) (l : List (Nat × Base)) (c : Bool), (fs.mapM fun f => if f.name ≠ "_" ∧ shapeT P f.type = some (false, 1) ∧ (baseT P f.type = .bool ∨ baseT P f.type = .int ∨ baseT P f.type = .str) then some (f.offset, baseT P f.type) else none) = some l →
      aggEq l xs ys = some c → Runs P (Op.eqFields (d + 1) vs us fs) c := by
  intro fs
  induction fs with
  | nil => intro l c hm h; simp at hm; subst hm; simp [aggEq] at h; subst h; exact .pure _
  | cons f fs ih =>
    intro l c hm h
    obtain ⟨p, r, hp, hrr, rfl⟩ := mapM_cons_inv hm
    split at hp
    · rename_i hc
      cases hp
      obtain ⟨hn, hs, _⟩ := hc
      unfold aggEq at h
      split at h
      · rename_i x y hx hy
        obtain ⟨c1, hc1, h2⟩ := Option.bind_eq_some_iff.1 h
        obtain ⟨c2, hc2, rfl⟩ := Option.map_eq_some_iff.1 h2
        have tk : ∀ (cs : List D) (z : D), cs[f.offset]? = some z → takeD (false, 1) (cs.drop f.offset) = some z := fun cs z hz => by
          simp only [takeD, List.head?_drop]; exact hz
        obtain ⟨a, ha, hRa⟩ := runs_part (P := P) hs (tk _ _ hx) hl h1 hr
        obtain ⟨b, hb', hRb⟩ := runs_part (P := P) hs (tk _ _ hy) hl' h1' hr'
        unfold Op.eqFields
        rw [if_pos hn]
        refine ha.bind (hb'.bind ((runs_cellEq hc1 hRa hRb).bind ?_))
        cases c1
        · simp only [Bool.not_false, if_true, Bool.false_and]; exact .pure _
        · simp only [Bool.not_true, Bool.false_eq_true, if_false, Bool.true_and]
          exact ih _ _ hrr hc2
      · cases h
    · cases hp

theorem runs_bin2D {op : BinOp} {t : TypeId} {x y : Operand} {dx dy d : D} (h : bin2D P op t (isConst x || isConst y) dx dy = some d) {w : World} {H : Heap} {a b : Value} (hx : R w H dx a) (hy : R w H dy b) :
    ∃ v, Runs P (do eqGuard op t x y a b; binOp op t a b) v ∧ R w H d v := by
  have key : ∀ {xs ys : List D} {fs : List (Nat × Base)} {c : Bool}, R w H (.agg xs) a → R w H (.agg ys) b → flatEq P t = some fs → aggEq fs xs ys = some c →
      ∃ vs us, a = .agg vs ∧ b = .agg us ∧ (∀ op, Runs P (eqGuard op t x y (.agg vs) (.agg us)) ()) ∧ Runs P (Op.equalIn 10000 t (.agg vs) (.agg us)) c := by
    intro xs ys fs c hx hy hfl hag
    obtain ⟨vs, rfl, hl, h1, hr⟩ := hx.agg_inv
    obtain ⟨us, rfl, hl', h1', hr'⟩ := hy.agg_inv
    unfold flatEq at hfl
    split at hfl
    · rename_i hc
      split at hfl
      · rename_i fds hu
        refine ⟨vs, us, rfl, rfl, fun op w => run_eqGuard_agg w op t x y vs us hc.1, fun w => ?_⟩
        have hfo : P.fieldsOf t = fds := by unfold Program.fieldsOf; rw [hu]
        rw [run_equalIn_agg w 9999 t vs us (by rw [hfo]; exact hu) hc.2, hfo]
        exact runs_aggEq (P := P) (d := 9998) hl h1 hr hl' h1' hr' fds.toList fs c hfl hag w
      · cases hfl
    · cases hfl
  unfold bin2D at h
  split at h
  · obtain ⟨fs, hf, h2⟩ := Option.bind_eq_some_iff.1 h
    obtain ⟨c, hc, rfl⟩ := Option.map_eq_some_iff.1 h2
    obtain ⟨vs, us, rfl, rfl, hg, he⟩ := key hx hy hf hc
    exact ⟨.bool c, (hg _).bind (fun w => by rw [run_eql_struct, he w]; rfl), .bool _⟩
  · obtain ⟨fs, hf, h2⟩ := Option.bind_eq_some_iff.1 h
    obtain ⟨c, hc, rfl⟩ := Option.map_eq_some_iff.1 h2
    obtain ⟨vs, us, rfl, rfl, hg, he⟩ := key hx hy hf hc
    exact ⟨.bool (!c), (hg _).bind (fun w => by rw [run_neq_struct, he w]; rfl), .bool _⟩
  · exact runs_binD h hx hy

theorem putAt_length : ∀ (xs : List D) (cs : List D) (i : Nat), (putAt cs i xs).length = cs.length
  | [], _, _ => rfl
  | x :: xs, cs, i => by rw [putAt, putAt_length xs]; simp

theorem putAt_get : ∀ (xs : List D) (cs : List D) (i j : Nat), (putAt cs i xs)[j]? = if i ≤ j ∧ j < i + xs.length ∧ j < cs.length then xs[j - i]? else cs[j]?
  | [], cs, i, j => by rw [putAt, if_neg (by simp; omega)]
  | x :: xs, cs, i, j => by
    rw [putAt, putAt_get xs]
    simp only [List.length_set, List.length_cons]
    by_cases hij : i = j
    · subst hij
      rw [if_neg (by omega)]
      by_cases hl : i < cs.length
      · rw [if_pos (by omega)]; simp [hl]
      · rw [if_neg (by omega)]; simp [hl]
    · by_cases h1 : i + 1 ≤ j ∧ j < i + 1 + xs.length ∧ j < cs.length
      · rw [if_pos h1, if_pos (by omega)]
        rw [show j - i = (j - (i + 1)) + 1 by omega, List.getElem?_cons_succ]
      · rw [if_neg h1, if_neg (by omega), List.getElem?_set_ne hij]

/-- Overwriting, on an array of values. -/
def putV : Array Value → Nat → List Value → Array Value
  | c, _, [] => c
  | c, i, v :: vs => putV (c.setIfInBounds i v) (i + 1) vs

theorem putV_size : ∀ (vs : List Value) (c : Array Value) (i : Nat), (putV c i vs).size = c.size
  | [], _, _ => rfl
  | v :: vs, c, i => by rw [putV, putV_size vs]; simp

theorem putV_get : ∀ (vs : List Value) (c : Array Value) (i j : Nat), (putV c i vs)[j]? = if i ≤ j ∧ j < i + vs.length ∧ j < c.size then vs[j - i]? else c[j]?
  | [], c, i, j => by rw [putV, if_neg (by simp; omega)]
  | v :: vs, c, i, j => by
    rw [putV, putV_get vs]
    simp only [Array.size_setIfInBounds, List.length_cons]
    by_cases hij : i = j
    · subst hij
      rw [if_neg (by omega)]
      by_cases hl : i < c.size
      · rw [if_pos (by omega)]; simp [hl]
      · rw [if_neg (by omega)]; simp [hl]
    · by_cases h1 : i + 1 ≤ j ∧ j < i + 1 + vs.length ∧ j < c.size
      · rw [if_pos h1, if_pos (by omega)]
        rw [show j - i = (j - (i + 1)) + 1 by omega, List.getElem?_cons_succ]
      · rw [if_neg h1, if_neg (by omega), Array.getElem?_setIfInBounds_ne hij]

/-- A row of abstract cells and a row of values. -/
structure RowR (w : World) (H : Heap) (cs : List D) (vs : Array Value) : Prop where
  len : cs.length = vs.size
  one : ∀ (i : Nat) c, cs[i]? = some c → c.one = true
  rel : ∀ (i : Nat) c, cs[i]? = some c → R w H c (vs.getD i Go.undef)

theorem RowR.agg {w : World} {H : Heap} {cs : List D} {vs : Array Value} (h : RowR w H cs vs) : R w H (.agg cs) (.agg vs) := .agg cs vs h.len h.one h.rel

theorem RowR.of_cells {w : World} {H : Heap} {d : D} {v : Value} (h : R w H d v) (h1 : d.cells.all D.one = true) : RowR w H d.cells v.cells :=
  ⟨(h.cells h1).1, fun _ c hc => List.all_eq_true.1 h1 c (List.mem_of_getElem? hc), (h.cells h1).2⟩

theorem RowR.put {w : World} {H : Heap} {cs ds : List D} {vs us : Array Value} (h : RowR w H cs vs) (k : RowR w H ds us) (o : Nat) : RowR w H (putAt cs o ds) (putV vs o us.toList) := by
  have hl : us.toList.length = us.size := by simp
  have both : ∀ (i : Nat) c, (putAt cs o ds)[i]? = some c → c.one = true ∧ R w H c ((putV vs o us.toList).getD i Go.undef) := fun i c hc => by
    rw [putAt_get] at hc
    have hg : (putV vs o us.toList).getD i Go.undef = ((putV vs o us.toList)[i]?).getD Go.undef := by simp
    rw [hg, putV_get, hl, ← k.len, ← h.len]
    split at hc
    · rename_i hcond
      rw [if_pos hcond]
      have := k.rel _ _ hc
      exact ⟨k.one _ _ hc, by simpa using this⟩
    · rename_i hcond
      rw [if_neg hcond]
      have := h.rel _ _ hc
      exact ⟨h.one _ _ hc, by simpa using this⟩
  exact ⟨by rw [putAt_length, putV_size, h.len], fun i c hc => (both i c hc).1, fun i c hc => (both i c hc).2⟩

theorem fold_putV (off : Nat) : ∀ (l : List Value) (k : Nat) (c : Array Value), (l.zipIdx k).foldl (fun cs (x : Value × Nat) => cs.setIfInBounds (off + x.2) x.1) c = putV c (off + k) l
  | [], _, _ => rfl
  | v :: l, k, c => by
    simp only [List.zipIdx_cons, List.foldl_cons, putV]
    exact fold_putV off l (k + 1) _

theorem fill_R {w : World} {H : Heap} {place : Nat → Option (Nat × Nat)} : ∀ {ps : List (Nat × D)} {qs : List (Nat × Value)} {cs out : List D} {vs : Array Value}, fillD place cs ps = some out → RowR w H cs vs →
    (ps.length = qs.length) → (∀ (i : Nat) p q, ps[i]? = some p → qs[i]? = some q → p.1 = q.1 ∧ R w H p.2 q.2) → ∃ us, Instr.fill place vs qs = some us ∧ RowR w H out us := by
  intro ps
  induction ps with
  | nil =>
    intro qs cs out vs h hr hl _
    cases qs with
    | nil => simp only [fillD, Option.some.injEq] at h; subst h; exact ⟨vs, rfl, hr⟩
    | cons => simp at hl
  | cons p ps ih =>
    intro qs cs out vs h hr hl hrel
    cases qs with
    | nil => simp at hl
    | cons q qs =>
      obtain ⟨i, d⟩ := p
      obtain ⟨j, v⟩ := q
      obtain ⟨hij, hR⟩ := hrel 0 _ _ rfl rfl
      simp only at hij hR
      subst hij
      simp only [fillD] at h
      unfold Instr.fill
      split at h
      · cases h
      · rename_i off size hp
        split at h
        · rename_i hc
          obtain ⟨h1, h2, h3⟩ := hc
          have hcells := RowR.of_cells hR h3
          obtain ⟨us, hus, hru⟩ := ih (qs := qs) (vs := putV vs off v.cells.toList) h (hr.put hcells off) (by simpa using hl) (fun k p q hp hq => hrel (k + 1) p q (by simpa using hp) (by simpa using hq))
          refine ⟨us, ?_, hru⟩
          rw [hp]
          have e1 : v.cells.size = size := by rw [← hcells.len, h1]
          have e2 : vs.size = cs.length := hr.len.symm
          simp only [e1, e2]
          rw [if_neg (by simp; omega)]
          have e3 := fold_putV off v.cells.toList 0 vs
          simp only [Nat.add_zero] at e3
          rw [← Array.foldl_toList, Array.toList_zipIdx, e3]
          exact hus
        · cases h

theorem runs_places {t : TypeId} {fs : Array Field} (hu : P.underlying t = some (.struct fs)) {l : List (Nat × Bool × Nat)} (h : fieldsT P t = some l) :
    Runs P (fs.mapM fun f => do pure (f.offset, ← sizeOf f.type)) ((l.map fun x => (x.1, x.2.2)).toArray) := by
  unfold fieldsT at h
  rw [hu] at h
  simp only at h
  intro w
  rw [Array.mapM_eq_mapM_toList]
  generalize fs.toList = m at h
  have key : ∀ (m : List Field) (l : List (Nat × Bool × Nat)), m.mapM (fun f => (shapeT P f.type).map fun s => (f.offset, s.1, s.2)) = some l →
      Runs P (m.mapM fun f => do pure (f.offset, ← sizeOf f.type)) (l.map fun x => (x.1, x.2.2)) := by
    intro m
    induction m with
    | nil => intro l h; simp at h; subst h; exact .pure _
    | cons f m ih =>
      intro l h
      simp only [List.mapM_cons, Option.bind_eq_bind, Option.bind_eq_some_iff, Option.pure_def] at h
      obtain ⟨b0, h0, r0, h1, h2⟩ := h
      cases h2
      obtain ⟨s, hs, he⟩ := Option.map_eq_some_iff.1 h0
      cases he
      rw [List.mapM_cons]
      refine Runs.bind (v := (f.offset, s.2)) (((runs_isAgg (P := P) (b := s.1) (n := s.2) hs).2).bind (.pure _)) ?_
      exact (ih r0 h1).bind (.pure _)
  have := key m l h w
  simp only [Functor.map]
  rw [Sem.run_bind', this]
  rfl

theorem runs_fold {f : D → D → Option D} {g : Value → Value → Sem Value} (hf : ∀ a b c, f a b = some c → ∀ w H u v, R w H a u → R w H b v → ∃ r, Runs P (g u v) r ∧ R w H c r) {w : World} {H : Heap} :
    ∀ (l : List D) (us : List Value) (x d : D) (u : Value), l.foldlM f x = some d → R w H x u → l.length = us.length → (∀ (i : Nat) c, l[i]? = some c → R w H c (us.getD i Go.undef)) → ∃ r, Runs P (us.foldlM g u) r ∧ R w H d r
  | [], us, x, d, u, h, hx, hl, _ => by
    cases us with
    | nil => simp at h; subst h; exact ⟨u, .pure _, hx⟩
    | cons => simp at hl
  | y :: l, us, x, d, u, h, hx, hl, hr => by
    cases us with
    | nil => simp at hl
    | cons v us =>
      simp only [List.foldlM_cons, Option.bind_eq_bind, Option.bind_eq_some_iff] at h
      obtain ⟨c, hc, h⟩ := h
      obtain ⟨r, hr1, hr2⟩ := hf _ _ _ hc w H u v hx (by simpa using hr 0 y rfl)
      obtain ⟨r', h1, h2⟩ := runs_fold hf l us c d r h hr2 (by simpa using hl) (fun i c hc => by simpa using hr (i + 1) c (by simpa using hc))
      exact ⟨r', by rw [List.foldlM_cons]; exact hr1.bind h1, h2⟩

theorem min2_ok : ∀ a b c, min2D a b = some c → ∀ w H u v, R w H a u → R w H b v → ∃ r, Runs P (Builtin.min2 u v) r ∧ R w H c r := by
  intro a b c h w H u v ha hb
  unfold min2D at h
  split at h
  · cases h; obtain rfl := ha.int_inv; obtain rfl := hb.int_inv
    exact ⟨_, .pure _, .int _ _⟩
  · cases h

theorem max2_ok : ∀ a b c, max2D a b = some c → ∀ w H u v, R w H a u → R w H b v → ∃ r, Runs P (Builtin.max2 u v) r ∧ R w H c r := by
  intro a b c h w H u v ha hb
  unfold max2D at h
  split at h
  · cases h; obtain rfl := ha.int_inv; obtain rfl := hb.int_inv
    exact ⟨_, .pure _, .int _ _⟩
  · cases h

/-- A pure operation, in every world. -/
theorem pureD_sound {o : Oper} {ρ : Operand → Value} {ev : Operand → D} {w : World} {H : Heap} {d : D} (hev : ∀ x, R w H (ev x) (ρ x)) (h : pureD P ev o.op = some d) :
    ∃ v, (∀ w', (execOp ρ o).run P w' = .ok (.value v) w') ∧ R w H d v := by
  obtain ⟨dst, op, type, pos, after, guard⟩ := o
  simp only at h
  have lift : ∀ {s : Sem Value}, (∃ v, Runs P s v ∧ R w H d v) → ∃ v, Runs P (do pure (Next.value (← s))) (Next.value v) ∧ R w H d v := fun ⟨v, h1, h2⟩ => ⟨v, runs_v h1, h2⟩
  have opt : ∀ (x : Option Operand), OptR (x.map ev) (x.map ρ) := fun x => by
    cases x with
    | none => trivial
    | some x => intro k n e; have := hev x; rw [e] at this; exact this.int_inv
  show ∃ v, Runs P (execOp ρ _) (Next.value v) ∧ R w H d v
  cases op <;> simp only [pureD] at h <;> try (cases h; done)
  case move x => cases h; exact ⟨ρ x, .pure _, hev x⟩
  case assign x => cases h; exact ⟨ρ x, .pure _, hev x⟩
  case pick c a b =>
    split at h
    · rename_i t hc
      cases h
      have hb := hev c
      rw [hc] at hb
      refine ⟨if t then ρ a else ρ b, ?_, ?_⟩
      · simp only [execOp]
        rw [hb.bool_inv]
        exact (Runs.pure (P := P) t).bind (.pure _)
      · cases t
        · exact hev b
        · exact hev a
    · cases h
  case build t parts =>
    split at h
    · rename_i hb
      obtain ⟨z, hz, h⟩ := Option.bind_eq_some_iff.1 h
      obtain ⟨fs, hfs, h⟩ := Option.bind_eq_some_iff.1 h
      obtain ⟨out, ho, rfl⟩ := Option.map_eq_some_iff.1 h
      obtain ⟨zv, hzv, hze, hz1⟩ := runs_zero hz
      obtain ⟨fds, hu⟩ := base_struct hb
      have hrow : RowR w H z zv.cells := by
        subst hze
        refine ⟨by simp, fun i c hc => List.all_eq_true.1 hz1 c (List.mem_of_getElem? hc), fun i c hc => ?_⟩
        simp only [List.getElem?_map, Option.map_eq_some_iff] at hc
        obtain ⟨u, hu', rfl⟩ := hc
        have : zv.cells.getD i Go.undef = u := by
          have h' : zv.cells[i]? = some u := by simpa using hu'
          simp [h']
        rw [this]; exact ofCell_R w H u
      obtain ⟨us, hus, hru⟩ := fill_R (qs := parts.toList.map fun p => (p.1, ρ p.2)) ho hrow (by simp) (fun i p q hp hq => by
        simp only [List.getElem?_map, Option.map_eq_some_iff] at hp hq
        obtain ⟨a, ha, rfl⟩ := hp
        obtain ⟨b, hb', rfl⟩ := hq
        rw [ha] at hb'; cases hb'
        exact ⟨rfl, hev _⟩)
      refine lift ⟨.agg us, ?_, hru.agg⟩
      unfold Instr.build
      refine hzv.bind ?_
      refine (runs_underlying hu).bind ?_
      refine (runs_places hu hfs).bind ?_
      have e1 : (fun i : Nat => ((fs.map fun x => (x.1, x.2.2)).toArray)[i]?) = fun i : Nat => (fs[i]?).map fun (f : Nat × Bool × Nat) => (f.1, f.2.2) := by funext i; simp
      have e2 : (parts.map fun (i, x) => (i, ρ x)).toList = parts.toList.map fun p => (p.1, ρ p.2) := by simp
      rw [e1, e2, hus]
      exact .pure _
    · cases h
  case nilCheck x =>
    have hx := hev x
    split at h
    · rename_i e; cases h; rw [e] at hx; refine ⟨_, ?_, hx⟩; simp only [execOp, hx.box_inv]; exact .pure _
    · rename_i e; cases h; rw [e] at hx; refine ⟨_, ?_, hx⟩; simp only [execOp, hx.el_inv]; exact .pure _
    · rename_i e; cases h; rw [e] at hx; obtain ⟨b, off, hv⟩ := hx.ro_inv; refine ⟨_, ?_, hx⟩; simp only [execOp, hv]; exact .pure _
    · rename_i e; cases h; rw [e] at hx
      generalize hv : ρ x = v at hx
      cases hx with
      | fn f ds es vs us hl hm hr hq => refine ⟨_, ?_, .fn _ _ _ vs us hl hm hr hq⟩; simp only [execOp, hv]; exact .pure _
    · cases h
  case binOp bop t x y yt => exact lift (runs_bin2D h (hev x) (hev y))
  case unOp uop t x => exact lift (runs_unD h (hev x))
  case convert s t x => exact lift (runs_convD h (hev x))
  case fieldAddr s x f => exact lift (runs_fieldAddrD h (hev x))
  case field t x f => exact lift (runs_fieldD h (hev x))
  case indexAddr t x i => exact lift (runs_indexAddrD h (hev x) (hev i))
  case index t x i => exact lift (runs_indexD h (hev x) (hev i))
  case slice t x lo hi mx =>
    cases mx with
    | some m => simp at h
    | none => simp only at h; exact lift (runs_sliceD h (hev x) (opt lo) (opt hi))
  case extract x i =>
    split at h
    · rename_i ds e
      have hx := hev x
      rw [e] at hx
      obtain ⟨vs, hv, hl, hr⟩ := hx.tuple_inv
      refine lift ⟨_, ?_, hr i d h⟩
      rw [hv]
      have hlt : i < vs.size := by rw [← hl]; exact (List.getElem?_eq_some_iff.1 h).1
      have : vs[i]? = some (vs.getD i Go.undef) := by simp [hlt]
      unfold Instr.extract
      dsimp only
      rw [this]
      exact .pure _
    · cases h
  case makeInterface t x =>
    split at h
    · cases h
    · rename_i hn
      cases h
      refine lift ⟨_, ?_, .iface t _ _ (hev x)⟩
      simp only [not_or] at hn
      obtain ⟨u, hu⟩ : ∃ u, P.underlying t = some u := by
        cases e : P.underlying t with
        | none => exact absurd (by rw [e]; rfl) hn.2
        | some u => exact ⟨u, rfl⟩
      unfold Instr.makeInterface
      refine (runs_underlying hu).bind ?_
      cases u <;> first | exact .pure _ | (exfalso; apply hn.1; simp [baseT, hu]; done)
  case makeFunc fn first captured =>
    cases h
    refine lift ⟨_, .pure _, .fn fn _ _ _ _ (by simp) (by simp) (fun i d hd => ?_) (fun i d hd => ?_)⟩
    · simp only [List.getElem?_map, Option.map_eq_some_iff] at hd
      obtain ⟨x, hx, rfl⟩ := hd
      have : (first.map ρ).getD i Go.undef = ρ x := by
        have h' : first[i]? = some x := by simpa using hx
        simp [h']
      rw [this]; exact hev x
    · simp only [List.getElem?_map, Option.map_eq_some_iff] at hd
      obtain ⟨x, hx, rfl⟩ := hd
      have : (captured.map ρ).getD i Go.undef = ρ x := by
        have h' : captured[i]? = some x := by simpa using hx
        simp [h']
      rw [this]; exact hev x
  case call c =>
    obtain ⟨callee, args, ats⟩ := c
    have hfold : ∀ {f : D → D → Option D} {g : Value → Value → Sem Value}, (∀ a b c, f a b = some c → ∀ w H u v, R w H a u → R w H b v → ∃ r, Runs P (g u v) r ∧ R w H c r) → foldD f (args.toList.map ev) = some d →
        ∃ x l, (args.map ρ).toList = x :: l ∧ ∃ r, Runs P (l.foldlM g x) r ∧ R w H d r := by
      intro f g hf hd
      unfold foldD at hd
      cases hl : args.toList with
      | nil => rw [hl] at hd; simp at hd
      | cons a as =>
        rw [hl] at hd
        simp only [List.map_cons] at hd
        refine ⟨ρ a, as.map ρ, by simp [hl], ?_⟩
        refine runs_fold hf (as.map ev) (as.map ρ) (ev a) d (ρ a) hd (hev a) (by simp) (fun i c hc => ?_)
        simp only [List.getElem?_map, Option.map_eq_some_iff] at hc
        obtain ⟨x, hx, rfl⟩ := hc
        have : (as.map ρ).getD i Go.undef = ρ x := by simp [List.getD, hx]
        rw [this]; exact hev x
    cases callee with
    | value => simp at h
    | invoke => simp at h
    | builtin b =>
      cases b <;> simp only at h <;> try (cases h; done)
      case len =>
        split at h
        · rename_i t x ht hx
          obtain ⟨u, hr, hR⟩ := runs_lenD h (hev x) type ats ht (args.map ρ) (by simp [hx])
          refine ⟨u, ?_, hR⟩
          simp only [execOp, resolve, invoke, builtin]
          exact (Runs.pure (P := P) _).bind (runs_v hr)
        · cases h
      case min =>
        obtain ⟨x, l, hl, r, hr, hR⟩ := hfold min2_ok h
        refine ⟨r, ?_, hR⟩
        simp only [execOp, resolve, invoke, builtin]
        refine (Runs.pure (P := P) _).bind (runs_v ?_)
        unfold Builtin.min_
        rw [hl]; exact hr
      case max =>
        obtain ⟨x, l, hl, r, hr, hR⟩ := hfold max2_ok h
        refine ⟨r, ?_, hR⟩
        simp only [execOp, resolve, invoke, builtin]
        refine (Runs.pure (P := P) _).bind (runs_v ?_)
        unfold Builtin.max_
        rw [hl]; exact hr

end
end Go.Av
