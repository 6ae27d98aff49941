/- Av: the pure operations, in every world: slices, places, parts. -/
import Derived.Test.YtlbojoghnapbfaaDoorAvPureOk2
namespace Go.Av
section
variable {P : Program}

theorem add_off (b off n : Nat) : (⟨b, off, none⟩ : Addr).add n = ⟨b, off + n, none⟩ := by unfold Addr.add; split <;> simp_all

/-- An optional bound and its value. -/
def OptR (d : Option D) (v : Option Value) : Prop := match d, v with
  | none, none => True
  | some d, some v => ∀ k n, d = .int k n → v = .int k n
  | _, _ => False

theorem runs_sliceBound {k : IntKind} {n : Int} {y : Nat} {c : BoundsCode} (h : 0 ≤ n ∧ n ≤ y) : Runs P (Instr.sliceBound (.int k n) y c) n.toNat := by
  intro w
  simp [Instr.sliceBound, asIntOf, h.1, h.2]

theorem runs_bounds {isS : Bool} {len cap : Nat} {lo hi : Option D} {l h : Nat} (hb : boundsD len lo hi = some (l, h)) {vlo vhi : Option Value} (h1 : OptR lo vlo) (h2 : OptR hi vhi) (hc : len ≤ cap) :
    Runs P (Instr.sliceBounds isS len cap vlo vhi none) (l, h, cap) ∧ l ≤ h ∧ h ≤ len := by
  unfold boundsD at hb
  split at hb
  · cases hb
    cases vlo <;> cases vhi <;> simp only [OptR] at h1 h2
    exact ⟨fun w => rfl, Nat.zero_le _, Nat.le_refl _⟩
  · rename_i k n
    split at hb
    · rename_i hn
      cases hb
      cases vlo <;> cases vhi <;> simp only [OptR] at h1 h2
      rename_i v
      obtain rfl := h1 _ _ rfl
      exact ⟨(Runs.pure cap).bind ((Runs.pure len).bind ((runs_sliceBound ⟨hn.1, hn.2⟩).bind (.pure _))), by omega, Nat.le_refl _⟩
    · cases hb
  · rename_i k n
    split at hb
    · rename_i hn
      cases hb
      cases vlo <;> cases vhi <;> simp only [OptR] at h1 h2
      rename_i v
      obtain rfl := h2 _ _ rfl
      exact ⟨(Runs.pure cap).bind ((runs_sliceBound ⟨hn.1, by omega⟩).bind ((Runs.pure 0).bind (.pure _))), Nat.zero_le _, by omega⟩
    · cases hb
  · rename_i k n k' m
    split at hb
    · rename_i hn
      cases hb
      cases vlo <;> cases vhi <;> simp only [OptR] at h1 h2
      rename_i v u
      obtain rfl := h1 _ _ rfl
      obtain rfl := h2 _ _ rfl
      exact ⟨(Runs.pure cap).bind ((runs_sliceBound ⟨by omega, by omega⟩).bind ((runs_sliceBound ⟨hn.1, by omega⟩).bind (.pure _))), by omega, by omega⟩
    · cases hb
  · cases hb

theorem runs_sliceD {t : TypeId} {x d : D} {lo hi : Option D} (h : sliceD P t x lo hi = some d) {w : World} {H : Heap} {v : Value} (hx : R w H x v) {vlo vhi : Option Value} (h1 : OptR lo vlo) (h2 : OptR hi vhi) :
    ∃ u, Runs P (Instr.sliceAt t v vlo vhi none) u ∧ R w H d u := by
  unfold sliceD at h
  split at h
  · rename_i s
    obtain rfl := hx.str_inv
    split at h
    · rename_i hb
      obtain ⟨⟨l, k⟩, hbd, rfl⟩ := Option.map_eq_some_iff.1 h
      obtain ⟨hr, hl, hk⟩ := runs_bounds (P := P) (isS := false) (cap := s.size) hbd h1 h2 (Nat.le_refl _)
      refine ⟨.string (s.extract l k), ?_, .str _⟩
      refine (runs_underlying (base_str hb)).bind ?_
      unfold Instr.slice
      refine (runs_underlying (base_str hb)).bind ?_
      exact hr.bind (.pure _)
    · cases h
  · cases hx
    split at h
    · rename_i hb
      obtain ⟨⟨e, sz, by_⟩, he⟩ := Option.isSome_iff_exists.1 hb
      obtain ⟨⟨l, k⟩, hbd, rfl⟩ := Option.map_eq_some_iff.1 h
      obtain ⟨hr, hl, hk⟩ := runs_bounds (P := P) (isS := true) (cap := 0) hbd h1 h2 (Nat.le_refl _)
      obtain ⟨hu, i, hi, _, _⟩ := elem_inv he
      have : l = 0 := by omega
      have : k = 0 := by omega
      subst l; subst k
      refine ⟨.slice none 0 0, ?_, .nilsl⟩
      refine (runs_underlying hu).bind ?_
      unfold Instr.slice
      refine (runs_underlying hu).bind ?_
      refine hr.bind ?_
      exact (runs_sizeOf hi).bind (.pure _)
    · cases h
  · rename_i sz es
    split at h
    · rename_i hb
      obtain ⟨⟨e, sz', by_⟩, he, hsz⟩ := Option.map_eq_some_iff.1 hb
      simp only at hsz
      subst hsz
      obtain ⟨⟨l, k⟩, hbd, rfl⟩ := Option.map_eq_some_iff.1 h
      obtain ⟨hu, i, hi, his, _⟩ := elem_inv he
      simp only at hu hi his
      have go : ∀ (a : Option Addr) (cap : Nat), es.length ≤ cap → v = .slice a es.length cap → Runs P (Instr.sliceAt t v vlo vhi none) (.slice (if cap = l then a else a.map (·.add (l * sz'))) (k - l) (cap - l)) ∧ l ≤ k ∧ k ≤ es.length := by
        rintro a cap hcap rfl
        obtain ⟨hr, hl, hk⟩ := runs_bounds (P := P) (isS := true) (cap := cap) hbd h1 h2 hcap
        refine ⟨?_, hl, hk⟩
        refine (runs_underlying hu).bind ?_
        unfold Instr.slice
        refine (runs_underlying hu).bind ?_
        refine hr.bind ?_
        rw [← his]
        exact (runs_sizeOf hi).bind (.pure _)
      have hlen : k ≤ es.length → ((es.take k).drop l).length = k - l := fun hk => by simp [Nat.min_eq_left hk]
      cases hx with
      | sl0 sz a cap =>
        obtain ⟨hr, hl, hk⟩ := go a cap (Nat.zero_le _) rfl
        refine ⟨_, hr, ?_⟩
        have e : (([] : List (List D)).take k).drop l = [] := by simp
        rw [e]
        have : k - l = 0 := by simp at hk; omega
        rw [this]
        exact .sl0 _ _ _
      | sl sz es b off cap u hb' hn hln hcap hc h1' hr' =>
        obtain ⟨hr, hl, hk⟩ := go _ cap hcap rfl
        refine ⟨_, hr, ?_⟩
        by_cases hlk : l = k
        · have e : (es.take k).drop l = [] := by rw [List.drop_eq_nil_iff]; simp; omega
          rw [e, show k - l = 0 by omega]
          exact .sl0 _ _ _
        · have hne : ¬ cap = l := by omega
          rw [if_neg hne]
          simp only [Option.map_some, add_off]
          rw [← hlen hk]
          have at' : ∀ i e, ((es.take k).drop l)[i]? = some e → es[l + i]? = some e := fun i e he => by
            rw [List.getElem?_drop, List.getElem?_take] at he
            split at he
            · exact he
            · cases he
          refine .sl sz' _ b (off + l * sz') (cap - l) (fun i j => u (l + i) j) hb' hn (fun i e he => hln _ e (at' i e he)) (by rw [hlen hk]; omega) (fun i j hi hj => ?_) (fun i e j d he hd => h1' _ e j d (at' i e he) hd) (fun i e j d he hd => hr' _ e j d (at' i e he) hd)
          rw [hlen hk] at hi
          have := hc (l + i) j (by omega) hj
          rw [← this, Nat.add_mul]
          congr 2; omega
    · cases h
  · rename_i b sz lo0 n
    split at h
    · rename_i hb
      obtain ⟨⟨e, sz', by_⟩, he, hsz⟩ := Option.map_eq_some_iff.1 hb
      simp only at hsz
      subst hsz
      obtain ⟨⟨l, k⟩, hbd, rfl⟩ := Option.map_eq_some_iff.1 h
      obtain ⟨hu, i, hi, his, _⟩ := elem_inv he
      simp only at hu hi his
      cases hx with
      | vec b sz lo n cap T m hsh hs hsz hn =>
        obtain ⟨hr, hl, hk⟩ := runs_bounds (P := P) (isS := true) (cap := cap) hbd h1 h2 hn
        refine ⟨.slice (if cap = l then some ⟨b, lo0 * sz', none⟩ else (some (⟨b, lo0 * sz', none⟩ : Addr)).map (·.add (l * sz'))) (k - l) (cap - l), ?_, ?_⟩
        · refine (runs_underlying hu).bind ?_
          unfold Instr.slice
          refine (runs_underlying hu).bind ?_
          refine hr.bind ?_
          rw [← his]
          exact (runs_sizeOf hi).bind (.pure _)
        · simp only
          split
          · rename_i hl0
            subst hl0
            have e : (if cap = 0 then some ⟨b, lo0 * sz', none⟩ else (some (⟨b, lo0 * sz', none⟩ : Addr)).map (·.add (0 * sz'))) = some (⟨b, lo0 * sz', none⟩ : Addr) := by split <;> simp [add_off]
            rw [e]
            simp only [Nat.sub_zero]
            exact .vec b sz' lo0 k cap T m hsh hs hsz (by omega)
          · split
            · rename_i hl0 hlk
              rw [if_neg (by omega)]
              simp only [Option.map_some, add_off]
              rw [← Nat.add_mul]
              exact .vec b sz' (lo0 + l) (k - l) (cap - l) T m hsh (by rw [hs]; congr 1; omega) hsz (by omega)
            · rename_i hl0 hlk
              rw [show k - l = 0 by omega]
              exact .sl0 _ _ _
    · cases h
  · cases h

theorem runs_lenD {t : TypeId} {x d : D} (h : lenD P t x = some d) {w : World} {H : Heap} {v : Value} (hx : R w H x v) (ty : TypeId) (ts : Array TypeId) (ht : ts[0]? = some t) (vs : Array Value) (hv : vs[0]? = some v) :
    ∃ u, Runs P (Builtin.len_ ts ty vs) u ∧ R w H d u := by
  have go : ∀ {s : Sem Value} {u : Value}, s = Builtin.len_ ts ty vs → Runs P s u → Runs P (Builtin.len_ ts ty vs) u := fun e h => e ▸ h
  unfold Builtin.len_
  rw [ht, hv]
  cases x <;> simp only [lenD] at h <;> try (cases h; done)
  case str s =>
    split at h
    · rename_i hb
      cases h; obtain rfl := hx.str_inv
      exact ⟨_, (runs_underlying (base_str hb)).bind (.pure _), .int _ _⟩
    · cases h
  case nilsl =>
    split at h
    · rename_i hb
      cases h; cases hx
      obtain ⟨e, hu⟩ := base_slice hb
      exact ⟨_, (runs_underlying hu).bind (.pure _), .int _ _⟩
    · cases h
  case sl sz es =>
    split at h
    · rename_i hb
      cases h
      obtain ⟨e, hu⟩ := base_slice hb
      cases hx
      · exact ⟨_, (runs_underlying hu).bind (.pure _), .int _ _⟩
      · exact ⟨_, (runs_underlying hu).bind (.pure _), .int _ _⟩
    · cases h
  case vec b sz lo n =>
    split at h
    · rename_i hb
      cases h
      obtain ⟨e, hu⟩ := base_slice hb
      cases hx
      exact ⟨_, (runs_underlying hu).bind (.pure _), .int _ _⟩
    · cases h

theorem runs_indexAddrD {t : TypeId} {x i d : D} (h : indexAddrD P t x i = some d) {w : World} {H : Heap} {v vi : Value} (hx : R w H x v) (hi : R w H i vi) :
    ∃ u, Runs P (Instr.indexAt t v vi) u ∧ R w H d u := by
  unfold indexAddrD at h
  split at h
  · rename_i sz es k n
    obtain rfl := hi.int_inv
    split at h
    · rename_i hc
      obtain ⟨hb, h0, hlt⟩ := hc
      cases h
      obtain ⟨⟨e, sz', by_⟩, he, hsz⟩ := Option.map_eq_some_iff.1 hb
      simp only at hsz
      subst hsz
      obtain ⟨hu, i, hi, his, _⟩ := elem_inv he
      simp only at hu hi his
      cases hx with
      | sl0 => simp at hlt; omega
      | sl sz es b off cap u hb' hn hln hcap hcc h1' hr' =>
        refine ⟨.pointer (some ⟨b, off + n.toNat * sz', none⟩), ?_, ?_⟩
        · unfold Instr.indexAt
          refine (Runs.pure (P := P) (k, n)).bind ?_
          refine (runs_underlying hu).bind ?_
          refine (Runs.pure (P := P) (some (⟨b, off, none⟩ : Addr), es.length, e)).bind ?_
          refine (runs_underlying hu).bind ?_
          simp only [h0, hlt, and_self, if_true]
          rw [← his]
          exact (runs_sizeOf hi).bind (by rw [add_off]; exact .pure _)
        · have hltn : n.toNat < es.length := by omega
          have hg : es[n.toNat]? = some (es.getD n.toNat []) := by simp [List.getElem?_eq_getElem hltn]
          have hl := hln _ _ hg
          exact .ro _ b (off + n.toNat * sz') (fun j => u n.toNat j) hb' hn (fun j hj => by rw [hl] at hj; exact hcc _ _ hltn hj) (fun j d hd => h1' _ _ j d hg hd) (fun j d hd => hr' _ _ j d hg hd)
    · cases h
  · rename_i b sz l m k n
    obtain rfl := hi.int_inv
    split at h
    · rename_i hc
      obtain ⟨hb, h0, hlt⟩ := hc
      cases h
      obtain ⟨⟨e, sz', by_⟩, he, hsz⟩ := Option.map_eq_some_iff.1 hb
      simp only at hsz
      subst hsz
      obtain ⟨hu, i, hi, his, _⟩ := elem_inv he
      simp only at hu hi his
      cases hx with
      | vec b sz lo n' cap T m' hsh hs hsz hn =>
        refine ⟨.pointer (some ⟨b, (l + n.toNat) * sz' + 0, none⟩), ?_, .el _ _ _ _⟩
        unfold Instr.indexAt
        refine (Runs.pure (P := P) (k, n)).bind ?_
        refine (runs_underlying hu).bind ?_
        refine (Runs.pure (P := P) (some (⟨b, l * sz', none⟩ : Addr), m, e)).bind ?_
        refine (runs_underlying hu).bind ?_
        simp only [h0, hlt, and_self, if_true]
        rw [← his]
        exact (runs_sizeOf hi).bind (by rw [add_off, Nat.add_zero, Nat.add_mul]; exact .pure _)
    · cases h
  · rename_i b off k n
    obtain rfl := hi.int_inv
    obtain rfl := hx.box_inv
    split at h
    · rename_i len sz ha
      split at h
      · rename_i hc
        cases h
        unfold arrT at ha
        split at ha
        · rename_i n' e hu
          obtain ⟨i, hi, hie⟩ := Option.map_eq_some_iff.1 ha
          cases hie
          refine ⟨.pointer (some ⟨b, off + n.toNat * i.size, none⟩), ?_, .box _ _⟩
          unfold Instr.indexAt
          refine (Runs.pure (P := P) (k, n)).bind ?_
          refine (runs_underlying hu).bind ?_
          refine (Runs.pure (P := P) (⟨b, off, none⟩ : Addr)).bind ?_
          refine (Runs.pure (P := P) (some (⟨b, off, none⟩ : Addr), len, e)).bind ?_
          refine (runs_underlying hu).bind ?_
          simp only [hc.1, hc.2, and_self, if_true]
          exact (runs_sizeOf hi).bind (by rw [add_off]; exact .pure _)
        · cases ha
      · cases h
    · cases h
  · cases h

theorem mapM_get {α β : Type} {f : α → Option β} : ∀ {l : List α} {r : List β}, l.mapM f = some r → ∀ (i : Nat) (b : β), r[i]? = some b → ∃ a, l[i]? = some a ∧ f a = some b
  | [], r, h, i, b, hb => by simp at h; subst h; simp at hb
  | a :: l, r, h, i, b, hb => by
    simp only [List.mapM_cons, Option.bind_eq_bind, Option.bind_eq_some_iff, Option.pure_def] at h
    obtain ⟨b0, h0, r0, h1, h2⟩ := h
    cases h2
    cases i with
    | zero => simp at hb; subst hb; exact ⟨a, by simp, h0⟩
    | succ i => simp at hb ⊢; exact mapM_get h1 i b hb

theorem mapM_length {α β : Type} {f : α → Option β} : ∀ {l : List α} {r : List β}, l.mapM f = some r → r.length = l.length
  | [], r, h => by simp at h; subst h; rfl
  | a :: l, r, h => by
    simp only [List.mapM_cons, Option.bind_eq_bind, Option.bind_eq_some_iff, Option.pure_def] at h
    obtain ⟨b0, h0, r0, h1, h2⟩ := h
    cases h2
    simp [mapM_length h1]

theorem fields_inv {t : TypeId} {f : Nat} {o : Nat} {b : Bool} {n : Nat} (h : (fieldsT P t).bind (·[f]?) = some (o, b, n)) :
    ∃ fs fd, P.underlying t = some (.struct fs) ∧ fs[f]? = some fd ∧ fd.offset = o ∧ shapeT P fd.type = some (b, n) := by
  obtain ⟨l, hl, hg⟩ := Option.bind_eq_some_iff.1 h
  unfold fieldsT at hl
  split at hl
  · rename_i fs hu
    obtain ⟨fd, hfd, hs⟩ := mapM_get hl f _ hg
    obtain ⟨s, hs', he⟩ := Option.map_eq_some_iff.1 hs
    cases he
    exact ⟨fs, fd, hu, by simpa using hfd, rfl, hs'⟩
  · cases hl

theorem runs_fieldAddrD {t : TypeId} {x d : D} {f : Nat} (h : fieldAddrD P t x f = some d) {w : World} {H : Heap} {v : Value} (hx : R w H x v) :
    ∃ u, Runs P (Instr.fieldAt t v f) u ∧ R w H d u := by
  unfold fieldAddrD at h
  split at h
  · rename_i o bb n hf
    split at h
    · cases h
    · rename_i hn0
      obtain ⟨fs, fd, hu, hfd, ho, hsh⟩ := fields_inv hf
      obtain ⟨_, hsz⟩ := runs_isAgg (P := P) hsh
      have go : ∀ (a : Addr), v = .pointer (some a) → Runs P (Instr.fieldAt t v f) (.pointer (some (a.add o))) := by
        rintro a rfl
        unfold Instr.fieldAt
        refine (runs_underlying hu).bind ?_
        simp only [hfd]
        refine (Runs.pure (P := P) a).bind ?_
        unfold fieldPlace
        refine Runs.bind (v := a.add o) (hsz.bind ?_) (.pure _)
        rw [if_neg hn0, ho]
        exact .pure _
      split at h
      · cases h; obtain rfl := hx.box_inv; exact ⟨_, go _ rfl, by rw [add_off]; exact .box _ _⟩
      · cases h; obtain rfl := hx.el_inv; exact ⟨_, go _ rfl, by rw [add_off, Nat.add_assoc]; exact .el _ _ _ _⟩
      · cases h
        cases hx with
        | ro cs b off u hb hn hc h1 hr =>
          refine ⟨_, go _ rfl, ?_⟩
          rw [add_off]
          refine .ro _ b (off + o) (fun j => u (o + j)) hb hn (fun j hj => ?_) (fun j d hd => h1 (o + j) d (by rwa [List.getElem?_drop] at hd)) (fun j d hd => hr (o + j) d (by rwa [List.getElem?_drop] at hd))
          have := hc (o + j) (by simp at hj; omega)
          rw [← this, Nat.add_assoc]
      · cases h
  · cases h

/-- A part of a row of cells, as a value. -/
theorem takeD_R {s : Bool × Nat} {cs : List D} {d : D} (h : takeD s cs = some d) {w : World} {H : Heap} (g : Nat → Value) (h1 : ∀ (i : Nat) c, cs[i]? = some c → c.one = true) (hr : ∀ (i : Nat) c, cs[i]? = some c → R w H c (g i)) :
    (s.1 = true → s.2 ≤ cs.length ∧ d = .agg (cs.take s.2) ∧ R w H d (.agg ((List.range s.2).map g).toArray)) ∧ (s.1 = false → cs[0]? = some d ∧ R w H d (g 0)) := by
  obtain ⟨b, n⟩ := s
  cases b
  · refine ⟨by simp, fun _ => ?_⟩
    simp only [takeD] at h
    have h0 : cs[0]? = some d := by cases cs <;> simp_all
    exact ⟨h0, hr 0 d h0⟩
  · refine ⟨fun _ => ?_, by simp⟩
    simp only [takeD] at h
    split at h
    · rename_i hn
      cases h
      refine ⟨hn, rfl, .agg _ _ (by simp [hn]) (fun i d hd => ?_) (fun i d hd => ?_)⟩
      · rw [List.getElem?_take] at hd; split at hd <;> first | exact h1 i d hd | cases hd
      · rw [List.getElem?_take] at hd
        split at hd
        · rename_i hi
          have : ((List.range n).map g).toArray.getD i Go.undef = g i := by simp [hi]
          rw [this]; exact hr i d hd
        · cases hd
    · cases h

theorem runs_part {t : TypeId} {s : Bool × Nat} (hs : shapeT P t = some s) {cs : List D} {vs : Array Value} {o : Nat} {d : D} (h : takeD s (cs.drop o) = some d) {w : World} {H : Heap}
    (hl : cs.length = vs.size) (h1 : ∀ (i : Nat) c, cs[i]? = some c → c.one = true) (hr : ∀ (i : Nat) c, cs[i]? = some c → R w H c (vs.getD i Go.undef)) :
    ∃ u, Runs P (part t vs o) u ∧ R w H d u := by
  obtain ⟨b, n⟩ := s
  obtain ⟨ha, hz⟩ := runs_isAgg (P := P) hs
  obtain ⟨k1, k2⟩ := takeD_R h (w := w) (H := H) (fun i => vs.getD (o + i) Go.undef) (fun i c hc => h1 (o + i) c (by rwa [List.getElem?_drop] at hc)) (fun i c hc => hr (o + i) c (by rwa [List.getElem?_drop] at hc))
  unfold part
  cases b
  · obtain ⟨h0, hR⟩ := k2 rfl
    refine ⟨_, ha.bind ?_, hR⟩
    rw [List.getElem?_drop] at h0
    have hlt : o < vs.size := by
      have := (List.getElem?_eq_some_iff.1 h0).1
      omega
    have hv : vs[o]? = some (vs.getD o Go.undef) := by simp [hlt]
    simp only [Bool.false_eq_true, if_false, Nat.add_zero]
    rw [hv]
    exact .pure _
  · obtain ⟨hn, _, hR⟩ := k1 rfl
    refine ⟨_, ha.bind ?_, hR⟩
    simp only [if_true]
    refine hz.bind ?_
    have e : vs.extract o (o + n) = ((List.range n).map fun i => vs.getD (o + i) Go.undef).toArray := by
      simp at hn
      apply Array.ext
      · simp; omega
      · intro i hi1 hi2
        simp at hi1 hi2 ⊢
        have : o + i < vs.size := by omega
        simp [this]
    rw [e]
    exact .pure _

theorem runs_fieldD {t : TypeId} {x d : D} {f : Nat} (h : fieldD P t x f = some d) {w : World} {H : Heap} {v : Value} (hx : R w H x v) :
    ∃ u, Runs P (Instr.field t v f) u ∧ R w H d u := by
  unfold fieldD at h
  split at h
  · rename_i o s cs hf
    obtain ⟨b, n⟩ := s
    obtain ⟨fs, fd, hu, hfd, ho, hsh⟩ := fields_inv hf
    obtain ⟨vs, rfl, hl, h1, hr⟩ := hx.agg_inv
    obtain ⟨u, hp, hR⟩ := runs_part (P := P) hsh h hl h1 hr
    refine ⟨u, ?_, hR⟩
    unfold Instr.field
    refine (runs_underlying hu).bind ?_
    simp only [hfd]
    refine (Runs.pure (P := P) vs).bind ?_
    rw [ho]; exact hp
  · cases h

theorem runs_indexD {t : TypeId} {x i d : D} (h : indexD P t x i = some d) {w : World} {H : Heap} {v vi : Value} (hx : R w H x v) (hi : R w H i vi) :
    ∃ u, Runs P (Instr.index t v vi) u ∧ R w H d u := by
  unfold indexD at h
  split at h
  · rename_i s k n
    obtain rfl := hx.str_inv
    obtain rfl := hi.int_inv
    split at h
    · rename_i hc
      obtain ⟨hb, h0, hlt⟩ := hc
      cases h
      refine ⟨.int .u8 (at8 s n), ?_, .int _ _⟩
      unfold Instr.index
      refine (Runs.pure (P := P) (k, n)).bind ?_
      refine (runs_underlying (base_str hb)).bind ?_
      have hl : n.toNat < s.size := by omega
      have e : (if 0 ≤ n then s[n.toNat]? else none) = some (s.data.toList.getD n.toNat 0) := by
        rw [if_pos h0]
        rw [getElem?_pos s n.toNat hl]
        have : n.toNat < s.data.toList.length := by simpa using hl
        simp [List.getD, List.getElem?_eq_getElem this]
        rfl
      dsimp only
      rw [e]
      exact .pure _
    · cases h
  · cases h

theorem runs_unD {op : UnOp} {x d : D} (h : unD op x = some d) {w : World} {H : Heap} {v : Value} (hx : R w H x v) : ∃ u, Runs P (Op.unary op v) u ∧ R w H d u := by
  unfold unD at h
  split at h
  · cases h; obtain rfl := hx.int_inv; exact ⟨_, .pure _, .int _ _⟩
  · cases h; obtain rfl := hx.int_inv; exact ⟨_, .pure _, .int _ _⟩
  · cases h; obtain rfl := hx.bool_inv; exact ⟨_, .pure _, .bool _⟩
  · cases h

theorem runs_convD {s t : TypeId} {x d : D} (h : convD P s t x = some d) {w : World} {H : Heap} {v : Value} (hx : R w H x v) : ∃ u, Runs P (convert s t v) u ∧ R w H d u := by
  unfold convD at h
  split at h
  · split at h
    · rename_i hs ht
      cases h; obtain rfl := hx.int_inv
      exact ⟨_, (runs_underlying hs).bind ((runs_underlying ht).bind (.pure _)), .int _ _⟩
    · cases h
  · split at h
    · rename_i hb
      cases h; obtain rfl := hx.str_inv
      exact ⟨_, (runs_underlying (base_str hb.1)).bind ((runs_underlying (base_str hb.2)).bind (.pure _)), .str _⟩
    · cases h
  · cases h

end
end Go.Av
