/- Av: operations on memory: what a slice holds; slices that grow: proofs. -/
import Derived.Test.YtlbojoghnapbfaaDoorAvMemOk
namespace Go.Av
section
variable {P : Program}

theorem vecR_of {w : World} {H : Heap} {sz : Nat} {xs : List (List D)} (g : Nat → Value) (hl : ∀ (i : Nat) e, xs[i]? = some e → e.length = sz) (h1 : ∀ (i : Nat) (e : List D) (j : Nat) d, xs[i]? = some e → e[j]? = some d → d.one = true)
    (hr : ∀ (i : Nat) (e : List D) (j : Nat) d, xs[i]? = some e → e[j]? = some d → R w H d (g (i * sz + j))) : VecR w H sz xs ((List.range (xs.length * sz)).map g).toArray := by
  refine ⟨by simp, hl, h1, fun i e j d he hd => ?_⟩
  have hi := (List.getElem?_eq_some_iff.1 he).1
  have hj : j < sz := by
    have h2 := (List.getElem?_eq_some_iff.1 hd).1
    rw [hl i e he] at h2; exact h2
  have hm : (i + 1) * sz ≤ xs.length * sz := Nat.mul_le_mul_right _ hi
  rw [Nat.add_mul, Nat.one_mul] at hm
  have hlt : i * sz + j < xs.length * sz := by omega
  have : ((List.range (xs.length * sz)).map g).toArray.getD (i * sz + j) Go.undef = g (i * sz + j) := by simp [hlt]
  rw [this]
  exact hr i e j d he hd

theorem VecR.oneCell {w : World} {H : Heap} {sz : Nat} {es : List (List D)} {c : Array Value} (h : VecR w H sz es c) (hs : c.size = es.length * sz) (hsz : 0 < sz) : ∀ v ∈ c.toList, v.oneCell' = true := by
  intro v hv
  obtain ⟨k, hk⟩ := List.getElem?_of_mem hv
  have hlt : k < c.size := by
    have := (List.getElem?_eq_some_iff.1 hk).1
    simpa using this
  have hi : k / sz < es.length := by rw [hs] at hlt; exact Nat.div_lt_of_lt_mul (by rwa [Nat.mul_comm] at hlt)
  have hj : k % sz < sz := Nat.mod_lt _ hsz
  have he : es[k / sz]? = some es[k / sz] := List.getElem?_eq_getElem hi
  have hl := h.each _ _ he
  have hd : (es[k / sz])[k % sz]? = some ((es[k / sz])[k % sz]'(by rw [hl]; exact hj)) := List.getElem?_eq_getElem _
  have e1 : k / sz * sz + k % sz = k := by rw [Nat.mul_comm]; exact Nat.div_add_mod k sz
  have := (h.rel _ _ _ _ he hd).oneCell (h.one _ _ _ _ he hd)
  rw [e1] at this
  have e : c.getD k Go.undef = v := by
    have h' : c[k]? = some v := by simpa using hk
    simp [h']
  rwa [e] at this

theorem elems_R {w : World} {H : Heap} (hs : Sat H w) {sz : Nat} (hsz : 0 < sz) {d : D} {xs : List (List D)} (h : elemsD H sz d = some xs) {v : Value} (hr : R w H d v) :
    ∃ us : Array Value, us.size = xs.length * sz ∧ VecR w H sz xs us ∧ ∀ W : World, W.heap = w.heap → (Builtin.lenOf v).run P W = .ok xs.length W ∧ (Builtin.firstCells sz xs.length v).run P W = .ok us W := by
  have hcell' : ∀ (W : World), W.heap = w.heap → ∀ a, W.cell? a = w.cell? a := fun W hW a => by unfold World.cell?; rw [hW]
  cases d <;> simp only [elemsD] at h <;> try (cases h; done)
  case nilsl =>
    cases h; cases hr
    exact ⟨#[], by simp, ⟨by simp, by simp, by simp, by simp⟩, fun W _ => ⟨rfl, rfl⟩⟩
  case sl sz' es =>
    split at h
    · rename_i e
      cases h; subst e
      cases hr with
      | sl0 sz a cap =>
        refine ⟨#[], by simp, ⟨by simp, by simp, by simp, by simp⟩, fun W _ => ⟨rfl, ?_⟩⟩
        cases a with
        | none => rfl
        | some a =>
          show (loadCells a (0 * sz)).run P W = _
          rw [Nat.zero_mul]; rfl
      | sl sz es b off cap u hb hn hln hcap hc h1 hr =>
        refine ⟨((List.range (xs.length * sz)).map fun k => u (k / sz) (k % sz)).toArray, by simp, vecR_of (fun k => u (k / sz) (k % sz)) hln h1 (fun i e j d he hd => ?_), fun W hW => ⟨rfl, ?_⟩⟩
        · have hj : j < sz := by
            have h2 := (List.getElem?_eq_some_iff.1 hd).1
            rw [hln i e he] at h2; exact h2
          have e1 : (i * sz + j) / sz = i := by rw [Nat.mul_comm, Nat.mul_add_div hsz, Nat.div_eq_of_lt hj, Nat.add_zero]
          have e2 : (i * sz + j) % sz = j := by rw [Nat.mul_comm, Nat.mul_add_mod, Nat.mod_eq_of_lt hj]
          simp only [e1, e2]
          exact hr i e j d he hd
        · show (loadCells ⟨b, off, none⟩ (xs.length * sz)).run P W = _
          refine run_loadCells W _ _ _ (fun k hk => ?_)
          rw [add_off, hcell' W hW]
          have hi : k / sz < xs.length := Nat.div_lt_of_lt_mul (by rwa [Nat.mul_comm] at hk)
          have := hc (k / sz) (k % sz) hi (Nat.mod_lt _ hsz)
          rw [← this]
          have e1 : k / sz * sz + k % sz = k := by rw [Nat.mul_comm]; exact Nat.div_add_mod k sz
          rw [Nat.add_assoc, e1]
    · cases h
  case vec b sz' lo n =>
    split at h
    · rename_i e
      subst e
      split at h
      · rename_i sz'' es hb
        split at h
        · rename_i hc
          obtain ⟨e, hle⟩ := hc
          subst e
          cases h
          obtain ⟨c, T, l0, hi0, hcell, hf, _, hv⟩ := vec_inv (hs b _ hb)
          have hlen : ((es.drop lo).take n).length = n := by simp; omega
          cases hr with
          | vec b sz lo n cap T' m hsh hs' hsz' hn =>
            have at' : ∀ (i : Nat) e, ((es.drop lo).take n)[i]? = some e → es[lo + i]? = some e := fun i e he => by
              rw [List.getElem?_take] at he
              split at he
              · rwa [List.getElem?_drop] at he
              · cases he
            refine ⟨((List.range (((es.drop lo).take n).length * sz)).map fun k => c.getD (lo * sz + k) Go.undef).toArray, by simp, vecR_of (fun k => c.getD (lo * sz + k) Go.undef) (fun i e he => hv.each _ e (at' i e he)) (fun i e j d he hd => hv.one _ e j d (at' i e he) hd) (fun i e j d he hd => ?_), fun W hW => ⟨by rw [hlen]; rfl, ?_⟩⟩
            · have := hv.rel _ e j d (at' i e he) hd
              rwa [Nat.add_mul, Nat.add_assoc] at this
            · rw [hlen]
              show (loadCells ⟨b, lo * sz, none⟩ (n * sz)).run P W = _
              refine run_loadCells W _ _ _ (fun k hk => ?_)
              rw [add_off, hcell' W hW, cell_at hcell]
              have h1 := hv.le
              have h2 : (lo + n) * sz ≤ es.length * sz := Nat.mul_le_mul_right _ hle
              rw [Nat.add_mul] at h2
              have : lo * sz + k < c.size := by omega
              simp [this]
        · cases h
      · cases h
    · cases h
  case str s =>
    split at h
    · rename_i e
      subst e
      cases h
      obtain rfl := hr.str_inv
      have hl : (bytesE s).length = s.size := by simp [bytesE]
      refine ⟨s.data.map fun b => .int .u8 b.toNat, by simp [hl], ⟨by simp [hl], fun i e he => ?_, fun i e j d he hd => ?_, fun i e j d he hd => ?_⟩, fun W _ => ⟨by rw [hl]; rfl, ?_⟩⟩
      · simp only [bytesE, List.getElem?_map, Option.map_eq_some_iff] at he
        obtain ⟨u, _, rfl⟩ := he; rfl
      · simp only [bytesE, List.getElem?_map, Option.map_eq_some_iff] at he
        obtain ⟨u, _, rfl⟩ := he
        cases j with
        | zero => simp at hd; subst hd; rfl
        | succ j => simp at hd
      · simp only [bytesE, List.getElem?_map, Option.map_eq_some_iff] at he
        obtain ⟨u, hu, rfl⟩ := he
        cases j with
        | zero =>
          simp at hd; subst hd
          have hlt := (List.getElem?_eq_some_iff.1 hu).1
          have : (s.data.map fun b => Value.int .u8 b.toNat).getD (i * 1 + 0) Go.undef = .int .u8 u.toNat := by
            have h' : s.data[i]? = some u := by simpa using hu
            simp [h']
          rw [this]; exact .int _ _
        | succ j => simp at hd
      · rw [hl]
        show (Pure.pure ((s.extract 0 s.size).data.map fun b => Value.int .u8 b.toNat) : Sem (Array Value)).run P W = _
        have : s.extract 0 s.size = s := by
          apply ByteArray.ext
          simp [ByteArray.extract, ByteArray.copySlice]
        rw [this]; rfl
    · cases h

theorem VecR.take {w : World} {H : Heap} {sz : Nat} {es : List (List D)} {c : Array Value} (h : VecR w H sz es c) (n : Nat) : VecR w H sz (es.take n) c := by
  have at' : ∀ (i : Nat) e, (es.take n)[i]? = some e → es[i]? = some e := fun i e he => by
    rw [List.getElem?_take] at he
    split at he
    · exact he
    · cases he
  refine ⟨Nat.le_trans (Nat.mul_le_mul_right _ ?_) h.le, fun i e he => h.each i e (at' i e he), fun i e j d he hd => h.one i e j d (at' i e he) hd, fun i e j d he hd => h.rel i e j d (at' i e he) hd⟩
  simp; omega

/-- Elements behind elements, in one row. -/
theorem VecR.join {w : World} {H : Heap} {sz : Nat} {es xs : List (List D)} {c us r : Array Value} (h : VecR w H sz es c) (k : VecR w H sz xs us)
    (h1 : ∀ i, i < es.length * sz → r.getD i Go.undef = c.getD i Go.undef) (h2 : ∀ i, i < xs.length * sz → r.getD (es.length * sz + i) Go.undef = us.getD i Go.undef) (hs : (es.length + xs.length) * sz ≤ r.size) : VecR w H sz (es ++ xs) r := by
  have small : ∀ {l : List (List D)} {i j : Nat} {e : List D} {d : D}, (∀ (i : Nat) e, l[i]? = some e → e.length = sz) → l[i]? = some e → e[j]? = some d → i * sz + j < l.length * sz := by
    intro l i j e d hl he hd
    have hi := (List.getElem?_eq_some_iff.1 he).1
    have hj := (List.getElem?_eq_some_iff.1 hd).1
    rw [hl i e he] at hj
    have hm : (i + 1) * sz ≤ l.length * sz := Nat.mul_le_mul_right _ hi
    rw [Nat.add_mul, Nat.one_mul] at hm
    omega
  have part : ∀ (i : Nat) e, (es ++ xs)[i]? = some e → (i < es.length ∧ es[i]? = some e) ∨ (es.length ≤ i ∧ xs[i - es.length]? = some e) := fun i e he => by
    by_cases hi : i < es.length
    · rw [List.getElem?_append_left hi] at he; exact .inl ⟨hi, he⟩
    · rw [List.getElem?_append_right (by omega)] at he; exact .inr ⟨by omega, he⟩
  refine ⟨by simpa using hs, fun i e he => ?_, fun i e j d he hd => ?_, fun i e j d he hd => ?_⟩
  · rcases part i e he with ⟨_, h'⟩ | ⟨_, h'⟩
    · exact h.each _ _ h'
    · exact k.each _ _ h'
  · rcases part i e he with ⟨_, h'⟩ | ⟨_, h'⟩
    · exact h.one _ _ _ _ h' hd
    · exact k.one _ _ _ _ h' hd
  · rcases part i e he with ⟨_, h'⟩ | ⟨hge, h'⟩
    · rw [h1 _ (small h.each h' hd)]; exact h.rel _ _ _ _ h' hd
    · have := h2 _ (small k.each h' hd)
      have e1 : i * sz + j = es.length * sz + ((i - es.length) * sz + j) := by
        rw [← Nat.add_assoc, ← Nat.add_mul, show es.length + (i - es.length) = i by omega]
      rw [e1, this]
      exact k.rel _ _ _ _ h' hd

theorem append_types {t' : TypeId} (h : baseT P t' = .slice ∨ baseT P t' = .str) : (∃ e, P.underlying t' = some (.slice e)) ∨ P.underlying t' = some .string := by
  rcases h with h | h
  · exact .inl (base_slice h)
  · exact .inr (base_str h)

/-- append: in place. -/
theorem run_append_in {w : World} {t t' ty e sz by_ n cap m : Nat} {base : Option Addr} {x : Value} {us : Array Value} (he : elemT P t = some (e, sz, by_)) (ht' : baseT P t' = .slice ∨ baseT P t' = .str)
    (hl : (Builtin.lenOf x).run P w = .ok m w) (hf : (Builtin.firstCells sz m x).run P w = .ok us w) (hle : n + m ≤ cap) :
    (Builtin.append_ #[t, t'] ty #[.slice base n cap, x]).run P w = (match base with | some a => (do storeCells (a.add (n * sz)) us.toList; pure (.slice base (n + m) cap) : Sem Value) | none => pure (.slice base (n + m) cap)).run P w := by
  obtain ⟨hu, i, hi, his, _⟩ := elem_inv he
  simp only at hu hi his
  unfold Builtin.append_
  simp only [List.getElem?_toArray, List.getElem?_cons_zero, List.getElem?_cons_succ]
  rw [Sem.run_bind, run_underlying hu]
  simp only [Result.andThen_ok]
  rw [Sem.run_bind, runs_sizeOf hi w]
  simp only [Result.andThen_ok, his]
  rcases append_types ht' with ⟨e', hu'⟩ | hu' <;>
  ( rw [Sem.run_bind, run_underlying hu']
    simp only [Result.andThen_ok]
    rw [Sem.run_bind]
    simp only [Sem.run_pure, Result.andThen_ok, Bool.false_eq_true, if_false]
    rw [Sem.run_bind, hl]
    simp only [Result.andThen_ok, hle, if_true, Bool.not_false]
    rw [Sem.run_bind, hf]
    cases base <;> rfl )

/-- append: into a new array. -/
theorem run_append_new {w : World} {t t' ty e sz by_ n cap m : Nat} {base : Option Addr} {x z : Value} {us os : Array Value} (he : elemT P t = some (e, sz, by_)) (ht' : baseT P t' = .slice ∨ baseT P t' = .str)
    (hl : (Builtin.lenOf x).run P w = .ok m w) (hf : ∀ W : World, W.heap = w.heap → (Builtin.firstCells sz m x).run P W = .ok us W) (ho : ∀ W : World, W.heap = w.heap → (Builtin.firstCells sz n (.slice base n cap)).run P W = .ok os W) (hz : Runs P (zeroValue e) z) (hle : ¬ n + m ≤ cap)
    (hby : (n + m) * by_ ≤ 140737488355328) (hmx : n + m ≤ 9223372036854775807) : ∃ nc, n + m ≤ nc ∧ 
    (Builtin.append_ #[t, t'] ty #[.slice base n cap, x]).run P w = .ok (.slice (some ⟨w.heap.size, 0, none⟩) (n + m) nc) (({ w with drawn := w.drawn + 1 } : World).alloc (.cells (os ++ us ++ Builtin.zeroCells z.cells (nc - (n + m))) e)) := by
  obtain ⟨hu, i, hi, his, hib⟩ := elem_inv he
  simp only at hu hi his hib
  refine ⟨(Question.appendCap (n + m) cap e).cut (w.tape w.drawn (.appendCap (n + m) cap e)), by simp only [Question.cut]; omega, ?_⟩
  generalize hnc : (Question.appendCap (n + m) cap e).cut (w.tape w.drawn (.appendCap (n + m) cap e)) = nc
  unfold Builtin.append_
  simp only [List.getElem?_toArray, List.getElem?_cons_zero, List.getElem?_cons_succ]
  rw [Sem.run_bind, run_underlying hu]
  simp only [Result.andThen_ok]
  rw [Sem.run_bind, runs_sizeOf hi w]
  simp only [Result.andThen_ok, his]
  have hm : IntKind.i64.max = 9223372036854775807 := by decide
  have h1 : ¬ (((n + m : Nat) : Int) > IntKind.i64.max ∧ (False ∨ i.bytes = 0)) := by rw [hm]; omega
  have h2 : ¬ (Builtin.nextslicecap (n + m) cap * i.bytes > 2 ^ 48) := by
    have := growslice_fits (need := n + m) (old := cap) (bytes := by_) (by omega) hby
    rw [hib]; omega
  have hask : ∀ (k : Nat) (W : World), (askRoom k).run P W = .ok () W := fun k W => by unfold askRoom; split <;> rfl
  rcases append_types ht' with ⟨e', hu'⟩ | hu' <;>
  ( rw [Sem.run_bind, run_underlying hu']
    simp only [Result.andThen_ok]
    rw [Sem.run_bind]
    simp only [Sem.run_pure, Result.andThen_ok, Bool.false_eq_true, if_false]
    rw [Sem.run_bind, hl]
    simp only [Result.andThen_ok, hle, if_false, Bool.not_false, if_true]
    rw [Sem.run_bind, runs_typeInfo hi w]
    simp only [Result.andThen_ok, if_neg h1]
    rw [Sem.run_bind, runs_typeInfo hi w]
    simp only [Result.andThen_ok, if_neg h2]
    rw [Sem.run_bind, run_choose]
    simp only [Question.forced, Bool.false_eq_true, if_false, Result.andThen_ok, hnc]
    rw [Sem.run_bind, runs_typeInfo hi]
    simp only [Result.andThen_ok]
    rw [Sem.run_bind, hask]
    simp only [Result.andThen_ok]
    rw [Sem.run_bind, ho { w with drawn := w.drawn + 1 } rfl]
    simp only [Result.andThen_ok]
    rw [Sem.run_bind, hf { w with drawn := w.drawn + 1 } rfl]
    simp only [Result.andThen_ok]
    rw [Sem.run_bind, hz]
    simp only [Result.andThen_ok]
    rfl )

end
end Go.Av
