/- Lemmas for this claim, in parts: Order, Order2. -/
import Derived.OrdersHeld
import Derived.RegionTactic
import Derived.WalkKit
import Derived.Lib.Hide
set_option maxRecDepth 100000
set_option maxHeartbeats 4000000
set_option linter.unusedVariables false
set_option linter.unusedSimpArgs false
/- A region that draws its order, where what is held of the world is asked only while certain operations are left: so the last of them may write what was read. -/
namespace Go.Proofs.Ord
open Go Go.RowKit

/-- an operation that is not free is left -/
def pend (ops : Array Oper) (fr : List Nat) (listed : Array Bool) : Bool := (List.range ops.size).any fun u => !listed.getD u true && !fr.contains u
/-- an operation that is not free, nor listed, waits for number i -/
def waits (md : Region.Mode) (ops : Array Oper) (fr : List Nat) (listed : Array Bool) (i : Nat) : Bool :=
  (List.range ops.size).any fun u => !listed.getD u true && u != i && !fr.contains u && match ops[u]? with | some o => o.after.any (fun e => Region.binds md e && e.on == i) | none => false

section
variable {P : Program} {ops : Array Oper} {Q : Exit → Act → World → Prop} {md : Region.Mode} {S : World → Prop} {fr : List Nat}

def Waits (md : Region.Mode) (ops : Array Oper) (fr : List Nat) (listed : Array Bool) (i : Nat) : Prop := ∃ u o, ops[u]? = some o ∧ listed.getD u true = false ∧ fr.contains u = false ∧ u ≠ i ∧ ∃ e ∈ o.after, Region.binds md e = true ∧ e.on = i
theorem waits_spec {listed : Array Bool} {i : Nat} (h : waits md ops fr listed i = true) : Waits md ops fr listed i := by
  obtain ⟨u, _, h⟩ := List.any_eq_true.1 h
  cases ho : ops[u]? with
  | none => simp [ho] at h
  | some o =>
    simp only [ho, Bool.and_eq_true, Bool.not_eq_true', bne_iff_ne, ne_eq] at h
    obtain ⟨⟨⟨h1, h2⟩, h2'⟩, h3⟩ := h
    obtain ⟨k, hk, h4⟩ := Array.any_eq_true.1 h3
    simp only [Bool.and_eq_true, beq_iff_eq] at h4
    exact ⟨u, o, ho, h1, h2', h2, o.after[k], Array.getElem_mem hk, h4.1, h4.2⟩
theorem pend_of {listed : Array Bool} {u : Nat} {o : Oper} (ho : ops[u]? = some o) (hl : listed.getD u true = false) (hf : fr.contains u = false) : pend ops fr listed = true :=
  List.any_eq_true.2 ⟨u, List.mem_range.2 (Array.getElem?_eq_some_iff.1 ho).1, by simp only [hl, hf, Bool.not_false, Bool.and_self]⟩
theorem pend_set {listed : Array Bool} {i : Nat} (hi : fr.contains i = true) : pend ops fr (listed.setIfInBounds i true) = pend ops fr listed := by
  unfold pend
  congr 1
  funext u
  by_cases h : i = u
  · subst h; simp only [hi, Bool.not_true, Bool.and_false]
  · rw [getD_set_ne true h]

def AnyL (P : Program) (md : Region.Mode) (ops : Array Oper) (Q : Exit → Act → World → Prop) (S : World → Prop) (fr : List Nat) : Nat → Array Bool → Act → World → Prop
  | 0, listed, a, w => Region.ready md ops listed = [] ∧ Q .normal a w
  | fuel + 1, listed, a, w =>
    (Region.ready md ops listed = [] → Q .normal a w) ∧
    ∀ i ∈ Region.ready md ops listed, wpOp P ops Q i (fun a' w' => (pend ops fr (listed.setIfInBounds i true) = true → S w') ∧ AnyL P md ops Q S fr fuel (listed.setIfInBounds i true) a' w') a w

theorem any_of_L : ∀ (fuel : Nat) (listed : Array Bool) (a : Act) (w : World), AnyL P md ops Q S fr fuel listed a w → wpAny P md ops Q fuel listed a w
  | 0, _, _, _, h => h
  | fuel + 1, _, _, _, h => ⟨h.1, fun i hi => wpOp_mono (fun _ _ h' => any_of_L fuel _ _ _ h'.2) (h.2 i hi)⟩

/-- what is known of number i: it is free and yields in every world, or it yields where S holds and somebody waits for it -/
def Case (P : Program) (md : Region.Mode) (ops : Array Oper) (S : World → Prop) (fr : List Nat) (listed : Array Bool) (i : Nat) (o : Oper) (v : Value) (a : Act) : Prop :=
  (fr.contains i = true ∧ YieldsIf P ops (fun _ => True) o v a) ∨ (Waits md ops fr listed i ∧ YieldsIf P ops S o v a)

theorem Case.wpOp {i : Nat} {o : Oper} {v : Value} {a : Act} {listed : Array Bool} (h : Case P md ops S fr listed i o v a) (hi : ops[i]? = some o) {K : Act → World → Prop} {w : World} (hS : pend ops fr listed = true → S w) (hk : K (a.put o.dst v) w) : wpOp P ops Q i K a w := by
  rcases h with ⟨_, h⟩ | ⟨⟨u, ou, h1, h2, h3, _⟩, h⟩
  · exact h.wpOp hi trivial hk
  · exact h.wpOp hi (hS (pend_of h1 h2 h3)) hk

theorem first {i : Nat} {oi : Oper} {v : Value} (hi : ops[i]? = some oi) (hsel : ∀ (j : Nat) (o : Oper) cs b, ops[j]? = some o → o.op ≠ .select cs b)
    (hQ : ∀ c a w, Q (.panic c) (a.put oi.dst v) w → Q (.panic c) a w) :
    ∀ (fuel : Nat) (listed : Array Bool) (a : Act) (w : World),
      (∀ j oj, ops[j]? = some oj → j ≠ i → listed.getD j true = false → (∀ e ∈ oj.after, Region.binds md e = true → e.on ≠ i) → oi.apart ops oj = true) →
      i ∈ Region.ready md ops listed → Case P md ops S fr listed i oi v a → (pend ops fr listed = true → S w) →
      AnyL P md ops Q S fr fuel (listed.setIfInBounds i true) (a.put oi.dst v) w → AnyL P md ops Q S fr (fuel + 1) listed a w := by
  have hsub : ∀ (listed : Array Bool) (j : Nat), pend ops fr (listed.setIfInBounds j true) = true → pend ops fr listed = true := by
    intro listed j h
    obtain ⟨u, hu, h⟩ := List.any_eq_true.1 h
    refine List.any_eq_true.2 ⟨u, hu, ?_⟩
    simp only [Bool.and_eq_true, Bool.not_eq_true'] at h ⊢
    refine ⟨?_, h.2⟩
    by_cases e : j = u
    · subst e
      rcases Nat.lt_or_ge j listed.size with h' | h'
      · simp [h'] at h
      · simp at h
    · rw [getD_set_ne true e] at h; exact h.1
  intro fuel
  induction fuel with
  | zero =>
    intro listed a w _ hr hy hS H
    refine ⟨fun h => (by rw [h] at hr; cases hr), fun j hj => ?_⟩
    by_cases hji : j = i
    · subst hji; exact hy.wpOp hi hS ⟨fun h => hS (hsub _ _ h), H⟩
    · have := ready_mono hj hji
      rw [H.1] at this
      cases this
  | succ fuel ih =>
    intro listed a w hfree hr hy hS H
    refine ⟨fun h => (by rw [h] at hr; cases hr), fun j hj => ?_⟩
    by_cases hji : j = i
    · subst hji; exact hy.wpOp hi hS ⟨fun h => hS (hsub _ _ h), H⟩
    · have h1 := H.2 j (ready_mono hj hji)
      obtain ⟨hjun, oj, hoj, hall⟩ := mem_ready.1 hj
      have hnot : ∀ e ∈ oj.after, Region.binds md e = true → e.on ≠ i := fun e he hb heq => by
        have h1 := hall e he hb
        have h0 := (mem_ready.1 hr).1
        rw [heq] at h1
        rcases Nat.lt_or_ge i listed.size with h' | h'
        · simp [h'] at h0 h1; rw [h0] at h1; cases h1
        · simp [Array.getElem?_eq_none h'] at h1
      have hfree' : ∀ k ok, ops[k]? = some ok → k ≠ i → (listed.setIfInBounds j true).getD k true = false →
          (∀ e ∈ ok.after, Region.binds md e = true → e.on ≠ i) → oi.apart ops ok = true := fun k ok hk hki hun hno => by
        refine hfree k ok hk hki ?_ hno
        by_cases hjk : j = k
        · subst hjk; exact hjun
        · rw [getD_set_ne true hjk] at hun; exact hun
      have hcase : ∀ (T : World → Prop) (hyT : YieldsIf P ops T oi v a) (hC : ∀ a', YieldsIf P ops T oi v a' → Case P md ops S fr (listed.setIfInBounds j true) i oi v a')
          (hSj : ∀ w', (pend ops fr ((listed.setIfInBounds j true).setIfInBounds i true) = true → S w') → pend ops fr (listed.setIfInBounds j true) = true → S w'),
          wpOp P ops Q j (fun a' w' => (pend ops fr (listed.setIfInBounds j true) = true → S w') ∧ AnyL P md ops Q S fr (fuel + 1) (listed.setIfInBounds j true) a' w') a w := by
        intro T hyT hC hSj
        have h2 := wpOp_putIf hoj (hfree j oj hoj hji hjun hnot) (fun cs b => hsel i oi cs b hi) (fun cs b => hsel j oj cs b hoj) hQ hyT h1
        refine wpOp_mono (fun a' w' h3 => ?_) h2
        obtain ⟨hy', hS', hA⟩ := h3
        rw [Array.setIfInBounds_comm _ _ (Ne.symm hji)] at hS' hA
        exact ⟨hSj w' hS', ih (listed.setIfInBounds j true) a' w' hfree' (ready_mono hr (Ne.symm hji)) (hC a' hy') (hSj w' hS') hA⟩
      rcases hy with ⟨hf, hyT⟩ | ⟨⟨u, ou, hou, hlu, hfu, hui, e, he, hbe, heon⟩, hyT⟩
      · exact hcase _ hyT (fun a' h => .inl ⟨hf, h⟩) (fun w' h hp => h (by rw [pend_set hf]; exact hp))
      · have huj : u ≠ j := fun h => by
          subst h
          rw [hoj] at hou; cases hou
          exact hnot e he hbe heon
        have hlu' : (listed.setIfInBounds j true).getD u true = false := by rw [getD_set_ne true (Ne.symm huj)]; exact hlu
        have hlu2 : ((listed.setIfInBounds j true).setIfInBounds i true).getD u true = false := by rw [getD_set_ne true (Ne.symm hui)]; exact hlu'
        exact hcase _ hyT (fun a' h => .inr ⟨⟨u, ou, hou, hlu', hfu, hui, e, he, hbe, heon⟩, h⟩) (fun w' h _ => h (pend_of hou hlu2 hfu))

theorem no_pend {listed : Array Bool} {w : World} (h : pend ops fr listed = false) : pend ops fr listed = true → S w := fun h' => by rw [h] at h'; cases h'
theorem keep {listed : Array Bool} {fuel : Nat} {a : Act} {w : World} (hS : S w) (h : S w → AnyL P md ops Q S fr fuel listed a w) : (pend ops fr listed = true → S w) ∧ AnyL P md ops Q S fr fuel listed a w := ⟨fun _ => hS, h hS⟩
theorem put_some {a : Act} {d : Tmp} {v : Value} : a.put (some d) v = { tmps := a.tmps.setIfInBounds d v, defers := a.defers } := rfl

/-- number i is free and yields in every world: it may be taken first -/
theorem take_free {i : Nat} {oi : Oper} {v : Value} {fuel : Nat} {listed : Array Bool} {a : Act} {w : World} (d : Tmp) (hi : ops[i]? = some oi) (hd : oi.dst = some d)
    (hs : Region.noSelect ops = true) (hf : Region.free md ops listed i = true) (hr : (Region.ready md ops listed).contains i = true) (hc : fr.contains i = true)
    (hQ : ∀ c a w, Q (.panic c) (a.put (some d) v) w → Q (.panic c) a w) (hS : pend ops fr listed = true → S w) (hy : YieldsIf P ops (fun _ => True) oi v a)
    (h : AnyL P md ops Q S fr fuel (listed.setIfInBounds i true) { tmps := a.tmps.setIfInBounds d v, defers := a.defers } w) : AnyL P md ops Q S fr (fuel + 1) listed a w :=
  first hi (Region.noSelect_spec hs) (by rw [hd]; exact hQ) fuel listed a w (Region.free_spec hi hf) (by simpa using hr) (.inl ⟨hc, hy⟩) hS (by rw [hd]; exact h)
/-- number i yields where S holds, and somebody waits for it: it may be taken first -/
theorem take {i : Nat} {oi : Oper} {v : Value} {fuel : Nat} {listed : Array Bool} {a : Act} {w : World} (d : Tmp) (hi : ops[i]? = some oi) (hd : oi.dst = some d)
    (hs : Region.noSelect ops = true) (hf : Region.free md ops listed i = true) (hr : (Region.ready md ops listed).contains i = true) (hc : waits md ops fr listed i = true)
    (hQ : ∀ c a w, Q (.panic c) (a.put (some d) v) w → Q (.panic c) a w) (hS : S w) (hy : YieldsIf P ops S oi v a)
    (h : AnyL P md ops Q S fr fuel (listed.setIfInBounds i true) { tmps := a.tmps.setIfInBounds d v, defers := a.defers } w) : AnyL P md ops Q S fr (fuel + 1) listed a w :=
  first hi (Region.noSelect_spec hs) (by rw [hd]; exact hQ) fuel listed a w (Region.free_spec hi hf) (by simpa using hr) (.inr ⟨waits_spec hc, hy⟩) (fun _ => hS) (by rw [hd]; exact h)
/-- number i is the only one that may come up -/
theorem one {i : Nat} {fuel : Nat} {listed : Array Bool} {a : Act} {w : World} (hr : Region.ready md ops listed = [i])
    (h : wpOp P ops Q i (fun a' w' => (pend ops fr (listed.setIfInBounds i true) = true → S w') ∧ AnyL P md ops Q S fr fuel (listed.setIfInBounds i true) a' w') a w) : AnyL P md ops Q S fr (fuel + 1) listed a w :=
  ⟨fun h0 => (by rw [hr] at h0; cases h0), fun j hj => by rw [hr] at hj; obtain rfl : j = i := by simpa using hj
                                                          exact h⟩
theorem done {listed : Array Bool} {a : Act} {w : World} (hr : Region.ready md ops listed = []) (h : Q .normal a w) : ∀ fuel, AnyL P md ops Q S fr fuel listed a w
  | 0 => ⟨hr, h⟩
  | _ + 1 => ⟨fun _ => h, by rw [hr]; simp⟩
theorem region {id : Nat} {a : Act} {w : World} (S : World → Prop) (fr : List Nat) (hm : P.follows .mixedOrders = true) (hS : S w.drew)
    (h : S w.drew → AnyL P .any ops Q S fr ops.size (Array.replicate ops.size false) a w.drew) : (Code.region id ops true).wp P Q a w :=
  wp_region_any hm (any_of_L _ _ _ _ (h hS))
/-- an operation is carried out -/
theorem carry {i : Nat} {o : Oper} {K : Act → World → Prop} {a : Act} {w : World} (hi : ops[i]? = some o) (hw : Region.wanted o (yielded ops a.tmps) = true) (h : o.wp P a w K Q) : wpOp P ops Q i K a w := by
  unfold wpOp
  simp only [hi, hw, if_true]
  exact .inl h
/-- number i is the only one that may come up, and is carried out -/
theorem step {i : Nat} {o : Oper} {fuel : Nat} {listed : Array Bool} {a : Act} {w : World} (hi : ops[i]? = some o) (hr : Region.ready md ops listed = [i]) (hw : Region.wanted o (yielded ops a.tmps) = true)
    (h : ∀ K : Act → World → Prop, Hid (∀ a' w', (pend ops fr (listed.setIfInBounds i true) = true → S w') ∧ AnyL P md ops Q S fr fuel (listed.setIfInBounds i true) a' w' → K a' w') → o.wp P a w K Q) : AnyL P md ops Q S fr (fuel + 1) listed a w :=
  one hr (carry hi hw (h _ (Lib.hid fun _ _ h => h)))
/-- two may come up: either is carried out first -/
theorem two {i j : Nat} {o o' : Oper} {fuel : Nat} {listed : Array Bool} {a : Act} {w : World} (hi : ops[i]? = some o) (hj : ops[j]? = some o') (hr : Region.ready md ops listed = [i, j]) (hw : Region.wanted o (yielded ops a.tmps) = true) (hw' : Region.wanted o' (yielded ops a.tmps) = true)
    (h : ∀ K : Act → World → Prop, Hid (∀ a' w', (pend ops fr (listed.setIfInBounds i true) = true → S w') ∧ AnyL P md ops Q S fr fuel (listed.setIfInBounds i true) a' w' → K a' w') → o.wp P a w K Q)
    (h' : ∀ K : Act → World → Prop, Hid (∀ a' w', (pend ops fr (listed.setIfInBounds j true) = true → S w') ∧ AnyL P md ops Q S fr fuel (listed.setIfInBounds j true) a' w' → K a' w') → o'.wp P a w K Q) : AnyL P md ops Q S fr (fuel + 1) listed a w :=
  ⟨fun h0 => (by rw [hr] at h0; cases h0), fun k hk => by
    rw [hr] at hk
    rcases List.mem_cons.1 hk with rfl | hk
    · exact carry hi hw (h _ (Lib.hid fun _ _ h => h))
    · obtain rfl : k = j := by simpa using hk
      exact carry hj hw' (h' _ (Lib.hid fun _ _ h => h))⟩
end
end Go.Proofs.Ord

/- The same laws, the usual proofs left to themselves. -/
namespace Go.Proofs.Ord
open Go Go.RowKit
section
variable {P : Program} {ops : Array Oper} {Q : Exit → Act → World → Prop} {md : Region.Mode} {S : World → Prop} {fr : List Nat}
theorem np {X : Prop} {listed : Array Bool} (h : pend ops fr listed = false) : pend ops fr listed = true → X := fun h' => by rw [h] at h'; cases h'
/-- 'keep' -/
theorem kp {X : Prop} {listed : Array Bool} {fuel : Nat} {a : Act} {w : World} (hS : S w) (h : S w → AnyL P md ops Q S fr fuel listed a w) (hx : S w → X := by exact fun h _ => h) : X ∧ AnyL P md ops Q S fr fuel listed a w := ⟨hx hS, h hS⟩
/-- 'take' -/
theorem tk {oi : Oper} {v : Value} {fuel : Nat} {listed : Array Bool} {a : Act} {w : World} {T : Array Value} (i : Nat) (d : Tmp) (hi : ops[i]? = some oi) (hd : oi.dst = some d) (hy : YieldsIf P ops S oi v a)
    (h : AnyL P md ops Q S fr fuel (listed.setIfInBounds i true) { tmps := T, defers := a.defers } w)
    (ht : a.tmps.setIfInBounds d v = T := by (try simp only [List.setIfInBounds_toArray, List.set_cons_zero, List.set_cons_succ]); exact Eq.refl _)
    (hs : Region.noSelect ops = true := by kernel_rfl) (hf : Region.free md ops listed i = true := by kernel_rfl) (hr : (Region.ready md ops listed).contains i = true := by kernel_rfl) (hc : waits md ops fr listed i = true := by kernel_rfl)
    (hQ : ∀ c a w, Q (.panic c) (a.put (some d) v) w → Q (.panic c) a w := by exact fun _ _ _ h => h) (hS : S w := by assumption) : AnyL P md ops Q S fr (fuel + 1) listed a w :=
  take d hi hd hs hf hr hc hQ hS hy (by rw [ht]; exact h)
/-- 'take' of what only reckons -/
theorem tp {oi : Oper} {v : Value} {fuel : Nat} {listed : Array Bool} {a : Act} {w : World} {T : Array Value} (i : Nat) (d : Tmp) (hi : ops[i]? = some oi) (hd : oi.dst = some d)
    (h : AnyL P md ops Q S fr fuel (listed.setIfInBounds i true) { tmps := T, defers := a.defers } w)
    (hw : Region.wanted oi (yielded ops a.tmps) = true := by rfl)
    (hx : ∀ W, S W → (execOp a.eval oi).run P W = .ok (.value v) W := by intro W hSW; first | (with_reducible rfl) | (go_simp; done) | (go_simp; with_reducible rfl))
    (ht : a.tmps.setIfInBounds d v = T := by (try simp only [List.setIfInBounds_toArray, List.set_cons_zero, List.set_cons_succ]); exact Eq.refl _)
    (hs : Region.noSelect ops = true := by kernel_rfl) (hf : Region.free md ops listed i = true := by kernel_rfl) (hr : (Region.ready md ops listed).contains i = true := by kernel_rfl) (hc : waits md ops fr listed i = true := by kernel_rfl)
    (hQ : ∀ c a w, Q (.panic c) (a.put (some d) v) w → Q (.panic c) a w := by exact fun _ _ _ h => h) (hS : S w := by assumption) : AnyL P md ops Q S fr (fuel + 1) listed a w :=
  take d hi hd hs hf hr hc hQ hS (.inl ⟨hw, hx⟩) (by rw [ht]; exact h)
/-- 'take_free' of what only reckons -/
theorem tf {oi : Oper} {v : Value} {fuel : Nat} {listed : Array Bool} {a : Act} {w : World} {T : Array Value} (i : Nat) (d : Tmp) (hi : ops[i]? = some oi) (hd : oi.dst = some d)
    (h : AnyL P md ops Q S fr fuel (listed.setIfInBounds i true) { tmps := T, defers := a.defers } w)
    (hw : Region.wanted oi (yielded ops a.tmps) = true := by rfl)
    (hx : ∀ W, True → (execOp a.eval oi).run P W = .ok (.value v) W := by intro W hSW; first | (with_reducible rfl) | (go_simp; done) | (go_simp; with_reducible rfl))
    (ht : a.tmps.setIfInBounds d v = T := by (try simp only [List.setIfInBounds_toArray, List.set_cons_zero, List.set_cons_succ]); exact Eq.refl _)
    (hs : Region.noSelect ops = true := by kernel_rfl) (hf : Region.free md ops listed i = true := by kernel_rfl) (hr : (Region.ready md ops listed).contains i = true := by kernel_rfl) (hc : fr.contains i = true := by kernel_rfl)
    (hQ : ∀ c a w, Q (.panic c) (a.put (some d) v) w → Q (.panic c) a w := by exact fun _ _ _ h => h) (hS : pend ops fr listed = true → S w := by first | (intro _; assumption) | exact Go.Proofs.Ord.np (by kernel_rfl)) : AnyL P md ops Q S fr (fuel + 1) listed a w :=
  take_free d hi hd hs hf hr hc hQ hS (.inl ⟨hw, hx⟩) (by rw [ht]; exact h)
end
end Go.Proofs.Ord
