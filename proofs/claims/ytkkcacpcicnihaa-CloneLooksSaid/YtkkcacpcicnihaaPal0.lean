import Derived.Test.YtkkcacpcicnihaaShapes2
import Derived.Test.YtkkcacpcicnihaaPreach
namespace Go.Proofs.Ytkkcacpcicnihaa
open Go.RowKit
open Go.Proofs.Cl

theorem shapes_any (n m b0 b1 : Nat) (r s : List Nat) (p q : Sh) (A B : Option Addr) (cp cq : Nat) (w : World) (hm0 : IMap w b0 r.length (idxMap r r.length)) (hm1 : IMap w b1 s.length (idxMap s s.length)) (hn : n ≤ 200) (hm : m ≤ 200)
    (hr : Cl.Good n r) (hs : Cl.Good m s) (hp : PropsAt w A p.props) (hq : PropsAt w B q.props) (lp : p.props.length * 192 ≤ 140737488351232) :
    Calls Try.prog 22 #[mAgg n m b0 b1, shAgg p A cp, shAgg q B cq] w fun e w' => e = .returned (.bool (shapeSame n r m s p q)) ∧ Below w.heap.size w w' := by
  by_cases h : p.cls = q.cls ∧ p.ext = q.ext ∧ p.props.length = q.props.length
  · obtain ⟨h1, h2, h3⟩ := h
    have := shapes_yes n m b0 b1 r s p.cls p.proto q.proto p.ext A B p.props.length cp cq p.props q.props w hm0 hm1 hn hm hr hs rfl h3.symm hp hq lp
    refine (show Calls Try.prog 22 #[mAgg n m b0 b1, shAgg p A cp, shAgg q B cq] w _ from ?_)
    unfold shAgg
    rw [← h1, ← h2, ← h3]
    refine this.mono fun e w' he => ⟨he.1.trans (ret_b ?_), he.2⟩
    unfold shapeSame
    simp [h1, h2, h3]
  · refine (shapes_no n m b0 b1 r s p.cls q.cls p.proto q.proto p.ext q.ext A B p.props.length q.props.length cp cq w hm0 hm1 hn hm hr hs h).mono fun e w' he => ⟨he.1.trans (ret_b ?_), he.2⟩
    unfold shapeSame
    symm
    rw [Bool.eq_false_iff]
    intro hh
    simp only [Bool.and_eq_true, beq_iff_eq] at hh
    exact h ⟨hh.1.1.1.1, hh.1.1.1.2, hh.1.2⟩

theorem preach_out (L R : Option Addr) (cl cr : Nat) (l : List Sh) (roots : List V) (w : World) (hL : ShapesAt w L l) (hR : ValsAt w R roots) (hn : l.length ≤ 200) (hr : roots.length ≤ 200) :
    Calls Try.prog 5 #[.slice L l.length cl, .slice R roots.length cr] w (OutPost w l.length (reach l roots)) :=
  (preach_any L R cl cr l roots w hL hR hn hr).mono fun _ _ ⟨_, he, hown, hg, hb⟩ => by
    subst he
    obtain ⟨A, c, e, hn, hb⟩ := JoinPost.of_own hown rfl rfl hb
    exact ⟨A, c, e, hn, hg, hb⟩

theorem valsAt_one (Z : World) (a : V) (k : Nat) (hk : k = Z.heap.size) : ValsAt (Z.alloc (.cells (vCells a) 25)) (some ⟨k, 0, none⟩) [a] := fun i hi => by
  have : i = 0 := by simpa using hi
  subst this
  refine ⟨k, 0, rfl, by simp [hk], ?_⟩
  exact rangeAt_new Z (vCells a) 25 k hk
theorem ValsAt.alloc {w : World} {A : Option Addr} {vs : List V} (h : ValsAt w A vs) (o : Obj) : ValsAt (w.alloc o) A vs := h.below ((Below.refl _ _).alloc (Nat.le_refl _) o)

/-- what both sides say of two values and the objects they come from -/
def alike (l : List Sh) (a : V) (m : List Sh) (b : V) : Bool :=
  ((reach l [a]).length == (reach m [b]).length) && pSame l.length (reach l [a]) m.length (reach m [b]) a b &&
    (List.range (reach l [a]).length).all fun i => shapeSame l.length (reach l [a]) m.length (reach m [b]) (shAt l ((reach l [a]).getD i 0)) (shAt m ((reach m [b]).getD i 0))

end Go.Proofs.Ytkkcacpcicnihaa
