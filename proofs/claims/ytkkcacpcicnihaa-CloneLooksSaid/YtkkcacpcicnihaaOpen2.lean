import Derived.Test.YtkkcacpcicnihaaOpen
import Derived.SizedLaws
namespace Go.Proofs.Ytkkcacpcicnihaa
open Go.ChangeShapes Go.WideShapes Go.RowKit Go.Deep
open Go.Proofs.Cl

theorem weights_elem {H : Type} {P : Program} {e : TypeId} : ∀ {l : List (DataW H)} {d : DataW H}, d ∈ l → ∀ n ∈ d.weights P e, n ∈ DataW.weightsAll P e l
  | d' :: r, d, hd, n, hn => by
    simp only [DataW.weightsAll, List.mem_append]
    rcases List.mem_cons.1 hd with rfl | h
    · exact Or.inl hn
    · exact Or.inr (weights_elem h n hn)

section
variable {H : Type} {enc : TypeId × Value → H} {w : World} {base : Nat} {sp : Nat → Bool} {hd : Bool}

theorem list_of {α : Type} {p : Nat → α → Prop} : ∀ n : Nat, (∀ i, i < n → ∃ v, p i v) → ∃ l : List α, l.length = n ∧ ∀ i, (h : i < l.length) → p i l[i]
  | 0, _ => ⟨[], rfl, fun i h => absurd h (by simp)⟩
  | n + 1, h => by
    obtain ⟨l, hl, hp⟩ := list_of n fun i hi => h i (by omega)
    obtain ⟨v, hv⟩ := h n (by omega)
    refine ⟨l ++ [v], by simp [hl], fun i hi => ?_⟩
    by_cases hin : i < l.length
    · rw [List.getElem_append_left hin]
      exact hp i hin
    · have : i = n := by simp at hi; omega
      subst this
      rw [List.getElem_append_right (by omega)]
      simpa using hv

theorem spot_of_cells {a : Addr} {n : Nat} {cs : List Value} (h : w.cells? base (a.add (0 * n)) n = some cs) (hn : 0 < n) : a.spot = none := by
  obtain ⟨_, hl, hat⟩ := World.cells?_some h
  have h0 := hat 0 hn
  rw [List.getElem?_eq_getElem (by omega)] at h0
  have := World.cell?_spot h0
  simpa [Addr.add] using this

theorem range_of_cells {b off k n : Nat} {cs : List Value} (h : w.cells? base ((⟨b, off, none⟩ : Addr).add k) n = some cs) : w.rangeAt b (off + k) cs ∧ cs.length = n ∧ (0 < n → b < w.heap.size) := by
  obtain ⟨_, hl, hat⟩ := World.cells?_some h
  have hr : w.rangeAt b (off + k) cs := fun j v hv => by
    have hj : j < cs.length := (List.getElem?_eq_some_iff.1 hv).1
    have := hat j (by omega)
    rw [Addr.add_mid, Addr.add_mid] at this
    rw [this, hv]
  refine ⟨hr, hl, fun hn => ?_⟩
  have := hr 0 _ (List.getElem?_eq_getElem (show 0 < cs.length by omega))
  exact block_lt_of_cell this

/-- a slice whose elements can be opened -/
theorem open_elems {t e : TypeId} {α : Type} {p : List Value → DataW H → α → Prop} {fuel : Nat} {cs : List Value} {x : DataW H × List MemPlace} (ht : Try.prog.underlying t = some (.slice e)) (hpos : 0 < Try.prog.cellsOf e)
    (hopen : ∀ n c y, DataW.trod enc Try.prog w base sp hd n e c = some y → ∃ v : α, p c y.1 v) (h : DataW.trod enc Try.prog w base sp hd fuel t cs = some x) :
    ∃ (A : Option Addr) (l : List α) (cap : Nat), cs = [.slice A l.length cap] ∧ ∀ i, (hi : i < l.length) → ∃ b off, A = some ⟨b, off, none⟩ ∧ b < w.heap.size ∧ ∃ c d es spare, w.rangeAt b (off + i * Try.prog.cellsOf e) c ∧ p c d l[i] ∧ x.1 = .slice es spare ∧ es.length = l.length ∧ d ∈ es := by
  rcases open_slice ht h with ⟨rfl, _⟩ | ⟨a, len, cap, m, n, D, Pl, rfl, _, _, _, hm, hx, hi⟩
  · exact ⟨none, [], 0, rfl, fun i hi => absurd hi (by simp)⟩
  · have hle : len ≤ m := by rw [hm]; split <;> omega
    obtain ⟨l, hl, hp⟩ := list_of (α := α) (p := fun i v => ∃ c, w.cells? base (a.add (i * Try.prog.cellsOf e)) (Try.prog.cellsOf e) = some c ∧ p c (D i) v) len fun i hlt => by
      obtain ⟨c, h1, h2⟩ := hi i (by omega)
      obtain ⟨v, hv⟩ := hopen _ _ _ h2
      exact ⟨v, c, h1, hv⟩
    refine ⟨some a, l, cap, by rw [hl], fun i hil => ?_⟩
    obtain ⟨c0, h0, _⟩ := hp 0 (by omega)
    have hs := spot_of_cells h0 hpos
    obtain ⟨b, off, spot⟩ := a
    simp only at hs
    subst hs
    obtain ⟨c, hc, hv⟩ := hp i hil
    obtain ⟨hr, _, hb⟩ := range_of_cells hc
    exact ⟨b, off, rfl, hb hpos, c, D i, _, _, hr, hv, by rw [hx], by simp [hl], List.mem_map.2 ⟨i, List.mem_range.2 (by omega), rfl⟩⟩

def PrWords (p : Pr) : Prop := p.d.val.num < 2 ^ 64 ∧ p.d.get.num < 2 ^ 64 ∧ p.d.set.num < 2 ^ 64

theorem open_props {fuel : Nat} {cs : List Value} {x : DataW H × List MemPlace} (h : DataW.trod enc Try.prog w base sp hd fuel 49 cs = some x) :
    ∃ (A : Option Addr) (ps : List Pr) (cap : Nat), cs = [.slice A ps.length cap] ∧ PropsAt w A ps ∧ (∀ p ∈ ps, PrWords p) ∧ ((∀ n ∈ x.1.weights Try.prog 49, n ≤ reachBytes) → ps.length * 192 ≤ reachBytes) := by
  obtain ⟨A, l, cap, e, hp⟩ := open_elems (p := fun c _ p => c = pCells p ∧ PrWords p) Try.underlying49 (by rw [k59]; omega) (fun n c y hy => by
    obtain ⟨p, e, hw⟩ := open_p hy
    exact ⟨p, e, hw⟩) h
  refine ⟨A, l, cap, e, fun i hi => ?_, fun p hm => ?_, fun hw => ?_⟩
  · obtain ⟨b, off, hA, hb, c, _, _, _, hr, ⟨rfl, _⟩, _⟩ := hp i hi
    rw [k59] at hr
    exact ⟨b, off, hA, hb, hr⟩
  · obtain ⟨i, hi, rfl⟩ := List.getElem_of_mem hm
    obtain ⟨_, _, _, _, _, _, _, _, _, ⟨_, hw⟩, _⟩ := hp i hi
    exact hw
  · rcases Nat.eq_zero_or_pos l.length with h0 | h0
    · rw [h0]; decide
    · obtain ⟨_, _, _, _, _, _, es, spare, _, _, hx, hl, _⟩ := hp 0 h0
      have := hw ((es.length + spare.length) * Try.prog.bytesOf 59) (by rw [hx]; simp [DataW.weights, Try.underlying49])
      rw [show Try.prog.bytesOf 59 = 192 by kernel_rfl] at this
      omega

theorem open_vals {fuel : Nat} {cs : List Value} {x : DataW H × List MemPlace} (h : DataW.trod enc Try.prog w base sp hd fuel 26 cs = some x) :
    ∃ (A : Option Addr) (vs : List V) (cap : Nat), cs = [.slice A vs.length cap] ∧ ValsAt w A vs := by
  obtain ⟨A, l, cap, e, hp⟩ := open_elems (p := fun c _ (v : V) => c = (vCells v).toList) Try.underlying26 (by rw [k25]; omega) (fun n c y hy => by
    obtain ⟨v, e, _⟩ := open_v hy
    exact ⟨v, e⟩) h
  refine ⟨A, l, cap, e, fun i hi => ?_⟩
  obtain ⟨b, off, hA, hb, c, _, _, _, hr, rfl, _⟩ := hp i hi
  rw [k25] at hr
  exact ⟨b, off, hA, hb, hr⟩

set_option maxRecDepth 100000 in
theorem open_s {fuel : Nat} {cs : List Value} {x : DataW H × List MemPlace} (h : DataW.trod enc Try.prog w base sp hd fuel 51 cs = some x) :
    ∃ (s : Sh) (A : Option Addr) (cap : Nat), cs = sCells s A cap ∧ PropsAt w A s.props ∧ (∀ v ∈ leadsOf s, v.num < 2 ^ 64) ∧ ((∀ n ∈ x.1.weights Try.prog 51, n ≤ reachBytes) → s.props.length * 192 ≤ reachBytes) := by
  obtain ⟨xs, n, _, hxx, hl, hx, hf⟩ := DataW.trod_struct Try.underlying51 h
  rw [k51] at hl
  match cs, hl with
  | [c0, c1, c2, c3, c4, c5, c6, c7], _ =>
    have hx' : xs.length = 4 := hx
    obtain ⟨y0, e0⟩ := some_of_len hx' (show 0 < 4 by omega)
    obtain ⟨y1, e1⟩ := some_of_len hx' (show 1 < 4 by omega)
    obtain ⟨y2, e2⟩ := some_of_len hx' (show 2 < 4 by omega)
    obtain ⟨y3, e3⟩ := some_of_len hx' (show 3 < 4 by omega)
    have h0 : DataW.trod enc Try.prog w base sp hd n 3 (([c0, c1, c2, c3, c4, c5, c6, c7].drop 0).take (Try.prog.cellsOf 3)) = some y0 := (hf 0 _ rfl).trans e0
    have h1 : DataW.trod enc Try.prog w base sp hd n 25 (([c0, c1, c2, c3, c4, c5, c6, c7].drop 1).take (Try.prog.cellsOf 25)) = some y1 := (hf 1 _ rfl).trans e1
    have h2 : DataW.trod enc Try.prog w base sp hd n 4 (([c0, c1, c2, c3, c4, c5, c6, c7].drop 6).take (Try.prog.cellsOf 4)) = some y2 := (hf 2 _ rfl).trans e2
    have h3 : DataW.trod enc Try.prog w base sp hd n 49 (([c0, c1, c2, c3, c4, c5, c6, c7].drop 7).take (Try.prog.cellsOf 49)) = some y3 := (hf 3 _ rfl).trans e3
    rw [k3] at h0
    rw [k25] at h1
    rw [k4] at h2
    rw [k49] at h3
    obtain ⟨a0, q0, _, _⟩ := DataW.trod_int Try.underlying3 h0
    obtain ⟨v1, q1, w1⟩ := open_v h1
    obtain ⟨a2, q2, _⟩ := DataW.trod_bool Try.underlying4 h2
    obtain ⟨A, ps, cap, q3, hp, hw, hwt⟩ := open_props h3
    simp only [List.drop_succ_cons, List.drop_zero, List.take_succ_cons, List.take_zero, List.cons.injEq, and_true] at q0 q1 q2 q3
    obtain ⟨r0, r1, r2, r3, r4⟩ := q1
    subst q0 r0 r1 r2 r3 r4 q2 q3
    refine ⟨⟨a0, v1, a2, ps⟩, A, cap, rfl, hp, fun v hv => ?_, fun hh => hwt fun k hk => hh k ?_⟩
    rotate_left
    · rw [hxx]
      simp only [DataW.weights, Try.underlying51]
      exact DataW.weights_mem_each (j := 3) rfl (by simp [e3]) k hk
    unfold leadsOf at hv
    rcases List.mem_cons.1 hv with rfl | hv
    · exact w1
    · obtain ⟨p, hm, hv⟩ := List.mem_flatMap.1 hv
      obtain ⟨h1, h2, h3⟩ := hw p hm
      simp only [List.mem_cons, List.not_mem_nil, or_false] at hv
      rcases hv with rfl | rfl | rfl
      · exact h1
      · exact h2
      · exact h3

/-- shapes as they lie, but for the bound on their lists -/
def ShapesAt0 (w : World) (A : Option Addr) (l : List Sh) : Prop :=
  ∀ i, (h : i < l.length) → ∃ b off, A = some ⟨b, off, none⟩ ∧ b < w.heap.size ∧ ∃ P cap, w.rangeAt b (off + i * 8) (sCells l[i] P cap) ∧ PropsAt w P l[i].props

theorem ShapesAt0.mk_ {A : Option Addr} {l : List Sh} (h : ShapesAt0 w A l) (hb : ∀ s ∈ l, s.props.length * 192 ≤ 140737488351232) : ShapesAt w A l := fun i hi => by
  obtain ⟨b, off, hA, hlt, P, cap, hr, hp⟩ := h i hi
  exact ⟨b, off, hA, hlt, P, cap, hr, hp, hb _ (List.getElem_mem hi)⟩

theorem open_shapes {fuel : Nat} {cs : List Value} {x : DataW H × List MemPlace} (h : DataW.trod enc Try.prog w base sp hd fuel 22 cs = some x) :
    ∃ (A : Option Addr) (l : List Sh) (cap : Nat), cs = [.slice A l.length cap] ∧ ShapesAt0 w A l ∧ Words l ∧ ((∀ n ∈ x.1.weights Try.prog 22, n ≤ reachBytes) → ∀ s ∈ l, s.props.length * 192 ≤ reachBytes) := by
  obtain ⟨A, l, cap, e, hp⟩ := open_elems (p := fun c d (s : Sh) => (∃ P cap, c = sCells s P cap ∧ PropsAt w P s.props) ∧ (∀ v ∈ leadsOf s, v.num < 2 ^ 64) ∧ ((∀ n ∈ d.weights Try.prog 51, n ≤ reachBytes) → s.props.length * 192 ≤ reachBytes)) Try.underlying22 (by rw [k51]; omega) (fun n c y hy => by
    obtain ⟨s, P, cap, e, h1, h2, h3⟩ := open_s hy
    exact ⟨s, ⟨P, cap, e, h1⟩, h2, h3⟩) h
  refine ⟨A, l, cap, e, fun i hi => ?_, fun s hm => ?_, fun hw s hm => ?_⟩
  · obtain ⟨b, off, hA, hb, c, _, _, _, hr, ⟨⟨P, cap, rfl, hp⟩, _⟩, _⟩ := hp i hi
    rw [k51] at hr
    exact ⟨b, off, hA, hb, P, cap, hr, hp⟩
  · obtain ⟨i, hi, rfl⟩ := List.getElem_of_mem hm
    obtain ⟨_, _, _, _, _, _, _, _, _, ⟨_, hw, _⟩, _⟩ := hp i hi
    exact hw
  · obtain ⟨i, hi, rfl⟩ := List.getElem_of_mem hm
    obtain ⟨_, _, _, _, _, d, es, spare, _, ⟨_, _, hb⟩, hx, _, hd⟩ := hp i hi
    refine hb fun k hk => hw k ?_
    rw [hx]
    simp only [DataW.weights, Try.underlying22, List.mem_cons, List.mem_append]
    exact Or.inr (Or.inl (weights_elem hd k hk))
end

end Go.Proofs.Ytkkcacpcicnihaa
