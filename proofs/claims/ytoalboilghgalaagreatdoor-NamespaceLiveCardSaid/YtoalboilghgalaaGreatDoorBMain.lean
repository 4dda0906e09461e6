/- Proved: for every input, cameolaw20.NamespaceLive returns true and each argument reads behind the call as it read before. Conditions: none beyond the statement's own; the two tables of unicode/utf8 start as the program's text lays them (the card ties them). -/
import Derived.Test.YtoalboilghgalaaGreatDoorB47
import Derived.Test.YtoalboilghgalaaGreatDoorB48
import Derived.Test.YtoalboilghgalaaGreatDoorB45
import Derived.Test.YtoalboilghgalaaGreatDoorCards
import Derived.Test.YtoalboilghgalaaGreatDoorTie
import Derived.ProofKit
import Derived.OpenShut
import Derived.LaidMore
import Derived.Lay
import Derived.PinnedBridge
import Derived.Lib.LaidIn
import Derived.Lib.LaidU8T
import Derived.SevenTiedAt
import Derived.Stop.Joined
set_option linter.unusedVariables false
set_option linter.unusedSimpArgs false
namespace Go.Proofs.YtoalboilghgalaaGreatDoor
open Go.ChangeShapes Go.WideShapes Go.ChangeAt Go.RowKit Go.Deep
open Go.Proofs.Dc (V Ds Ky)

theorem Tryz.own : ownKnob Tryz.prog.godebug = none := by kernel_rfl
theorem Tryz.laidOut : laidOutB Tryz.prog = true := by kernel_rfl
theorem ns_any (w : World) (A B : Option Addr) (qs : List ByteArray) (ps : List (Ky × Ds)) (ca cb : Nat) (rv : V) (hrn : rv.num < 2 ^ 64) (hT : Tabs w) (hA : NamesAt w.heap.size w A qs) (hB : ArgAt w.heap.size w B ps) (hnums : ∀ p ∈ ps, Nums p.2) :
    Calls Tryz.prog 5 #[.slice A qs.length ca, .slice B ps.length cb, .agg (vArr rv)] w fun e w' => e = .returned (.bool true) ∧ Below w.heap.size w w' := by
  have hW : ∀ W, Below w.heap.size w W → Calls Tryz.prog 38 #[] W fun e w' => e = .returned (.bool true) ∧ Below W.heap.size W w' := fun W h =>
    works_any W (hT.below h) ⟨Nat.lt_of_lt_of_le hT.lt.1 h.size, Nat.lt_of_lt_of_le hT.lt.2 h.size⟩
  by_cases h : 60 < qs.length ∨ 60 < ps.length
  · exact ns_big w A B qs ps ca cb rv hrn hT hA hB hnums hW h
  · exact ns_small w A B qs ps ca cb rv hrn hT hA hB hnums hW (by omega) (by omega)
/-- the two tables, as the row lists them -/
theorem tabs_of {W : World} (h : laidMetH Tryz.prog Rows.namespaceLiveRow.laid W) : Tabs W := by
  rw [MakeChecks.laidMetH_plain _ _ _ (by kernel_rfl)] at h
  have h1 : Lib.VarReads Tryz.prog W "unicode/utf8.acceptRanges" Lib.acceptData := Lib.laidMet.reads h (.head _)
  have h2 : Lib.VarReads Tryz.prog W "unicode/utf8.first" Lib.firstData := by
    rw [← Pinned.utf8First_eq]
    exact Lib.laidMet.reads h (.tail _ (.head _))
  exact utf8Tabs_of_readsT ⟨by kernel_rfl, by kernel_rfl, by kernel_rfl, by kernel_rfl⟩ ⟨by kernel_rfl, by kernel_rfl, by kernel_rfl, by kernel_rfl, by kernel_rfl, by kernel_rfl, by kernel_rfl⟩ h2 h1
theorem slice_of_cells {P : Program} {w : World} {r : Reach} {b0 : Nat} {t e : TypeId} {v : Value} {A : Option Addr} {n c : Nat} (ht : P.underlying t = some (.slice e)) (h : Value.okWide P w r b0 t v) (hc : v.cells.toList = [Value.slice A n c]) : v = .slice A n c := by
  simp only [Value.okWide, ht, Cell.okWide] at h
  cases v <;> simp_all [Cell.ok, Value.cells]

theorem agg_of_cells {P : Program} {w : World} {r : Reach} {b0 : Nat} {t : TypeId} {fs : Array Field} {v : Value} {cs : List Value} (ht : P.underlying t = some (.struct fs)) (h : Value.okWide P w r b0 t v) (hc : v.cells.toList = cs) : v = .agg cs.toArray := by
  simp only [Value.okWide, ht] at h
  obtain ⟨c, rfl, _⟩ := h
  have : c.toList = cs := hc
  rw [← this]
section
variable {H : Type} {enc : TypeId × Value → H} {w : World} {base : Nat} {sp : Nat → Bool} {hd : Bool}
/-- the list of names that came in -/
theorem open_names {fuel : Nat} {cs : List Value} {x : DataW H × List MemPlace} (h : DataW.trod enc Tryz.prog w base sp hd fuel 86 cs = some x) :
    ∃ (A : Option Addr) (qs : List ByteArray) (cap : Nat), cs = [.slice A qs.length cap] ∧ NamesAt w.heap.size w A qs := by
  rcases open_slice Tryz.underlying86 h with ⟨rfl, _⟩ | ⟨a, len, cap, m, n, D, Pl, rfl, _, _, _, hm, hx, hi⟩
  · exact ⟨none, [], 0, rfl, fun i q hi => by simp at hi⟩
  · have hle : len ≤ m := by rw [hm]; split <;> omega
    rw [k9] at hi
    obtain ⟨l, hl, hp⟩ := list_of (α := ByteArray) (p := fun i v => ∃ c, w.cells? base (a.add (i * 1)) 1 = some c ∧ c = [.string v]) len fun i hlt => by
      obtain ⟨c, h1, h2⟩ := hi i (by omega)
      obtain ⟨s, hs, _, _⟩ := DataW.trod_string Tryz.underlying9 h2
      exact ⟨s, c, h1, hs⟩
    refine ⟨some a, l, cap, by rw [hl], fun i q hq => ?_⟩
    obtain ⟨hil, hqe⟩ := List.getElem?_eq_some_iff.1 hq
    obtain ⟨c0, h0, _⟩ := hp 0 (by omega)
    have hs := spot_of_cells h0 (by omega)
    obtain ⟨b, off, spot⟩ := a
    simp only at hs
    subst hs
    obtain ⟨c, hc, hv⟩ := hp i hil
    obtain ⟨hr, _, hb⟩ := range_of_cells hc
    rw [hv, hqe] at hr
    have := hr 0 _ rfl
    rw [Nat.mul_one, Nat.add_zero] at this
    exact ⟨b, off, rfl, hb (by omega), hb (by omega), this⟩
end

set_option maxRecDepth 100000 in
set_option maxHeartbeats 1600000 in
theorem ns_lifted (os : Os) (started : os.Started) (H : Type) (enc : TypeId × Value → H) :
    ReturnsInHanded {} Tryz.checked os 5 .any (fun w args => (Rows.namespaceLiveSpec.pre enc Tryz.prog Tryz.f5 Rows.namespaceLiveRow.domain false w args ∧ laidMetH Tryz.prog Rows.namespaceLiveRow.laid w) ∧ sizedMet enc Tryz.prog Tryz.f5 (OpenSpec.ofChange Rows.namespaceLiveSpec) false w args)
      (Rows.namespaceLiveSpec.post enc Tryz.prog Tryz.f5 false true false false) := by
  refine returnsInHanded_of_change_and (C := Tryz.checked) (X := fun w _ => laidMetH Tryz.prog Rows.namespaceLiveRow.laid w) (fun _ _ _ hh h => h.of_heap hh) Tryz.own started (by kernel_rfl) Tryz.func5
    (ChangeSpec.witness_shaped (enc := enc) (C := Tryz.checked) (os := os) (X := fun w _ => laidMetH Tryz.prog Rows.namespaceLiveRow.laid w) false (World.laidAll Tryz.prog os Rows.namespaceLiveRow.laid) #[.slice none 0 0, .slice none 0 0, .agg #[.int .i64 0, .bool false, .float .f64 0, .string ⟨#[]⟩, .int .i64 0]] 8 (World.laidAll_os _ _ _)
      (World.shaped_of_ZipB (by kernel_rfl) (by kernel_rfl)) (by kernel_rfl) (by kernel_rfl) (by kernel_rfl)
      (by rw [MakeChecks.laidMetH_plain _ _ _ (by kernel_rfl)]; exact laidMet_laidAll _ (by kernel_rfl) (by kernel_rfl))) ?_
  intro W base args ds gs before hval0 hW _ _ hL _
  have hval : ∀ (j : Nat) t v, Tryz.f5.params[j]? = some t → args[j]? = some v → Value.okWide Tryz.prog W .any base t v := hval0
  have hW' := hW
  obtain ⟨p, q, hA0, hV, rfl, _, _⟩ := hW
  have hA : DataW.TrodAll enc Tryz.prog W 0 (fun _ => true) true Tryz.f5.params.toList args.toList ds p := hA0
  rw [Tryz.params5] at hA hval
  obtain ⟨v0, vs, d0, ds', p0, q0, hargs, rfl, rfl, h0, hr⟩ := trodAll_cons hA
  obtain ⟨v1, vs1, d1, ds1, p1, q1, rfl, rfl, rfl, h1, hr1⟩ := trodAll_cons hr
  obtain ⟨v2, vs2, d2, ds2, p2, q2, rfl, rfl, rfl, h2, hr2⟩ := trodAll_cons hr1
  obtain ⟨rfl, rfl, rfl⟩ := trodAll_nil hr2
  obtain rfl : args = #[v0, v1, v2] := by cases args; simp_all
  obtain ⟨rfl, rfl⟩ := trodVars_none hV
  have g0 := h0
  have g1 := h1
  have g2 := h2
  obtain ⟨u0, f0⟩ := h0
  obtain ⟨u1, f1⟩ := h1
  obtain ⟨u2, f2⟩ := h2
  obtain ⟨A, qs, ca, e0, hqs⟩ := open_names f0
  obtain rfl := slice_of_cells Tryz.underlying86 (hval 0 86 v0 rfl rfl) e0
  obtain ⟨B, ps, cb, e1, hps, hnums⟩ := open_props f1
  obtain rfl := slice_of_cells Tryz.underlying22 (hval 1 22 v1 rfl rfl) e1
  obtain ⟨rv, e2, hrn⟩ := open_v f2
  obtain rfl := agg_of_cells Tryz.underlying36 (hval 2 36 v2 rfl rfl) e2
  have hT := tabs_of hL
  simp only [List.append_nil] at hW'
  have hlt0 : ∀ x ∈ p0, x.block < W.heap.size := fun x hx => hW'.lt x (by simp [hx])
  have hlt1 : ∀ x ∈ p1, x.block < W.heap.size := fun x hx => hW'.lt x (by simp [hx])
  have hlt2 : ∀ x ∈ p2, x.block < W.heap.size := fun x hx => hW'.lt x (by simp [hx])
  refine (ns_any W A B qs ps ca cb rv hrn hT hqs hps hnums).mono fun e W' ⟨he, hB⟩ => ?_
  subst he
  have t0 := Below.trod Tryz.laidOut (by kernel_rfl) (of_decide_eq_true (by kernel_rfl)) g0 hB hlt0
  have t1 := Below.trod Tryz.laidOut (by kernel_rfl) (of_decide_eq_true (by kernel_rfl)) g1 hB hlt1
  have t2 := Below.trod Tryz.laidOut (by kernel_rfl) (of_decide_eq_true (by kernel_rfl)) g2 hB hlt2
  exact ⟨_, rfl, _, _, _, [], p0 ++ (p1 ++ p2), [], hW', trodAll_mk1 (shut_bool Tryz.underlying4 true), trodAll_mk3 t0 t1 t2, rfl, hB.frame _, fun h => by cases h⟩

theorem ns_said : Rows.NamespaceLiveSaid :=
  OpenClaim.holds_of_wide 5 Tryz.f5 rfl rfl rfl rfl rfl rfl rfl ⟨rfl, rfl, rfl, rfl, rfl⟩ rfl rfl rfl rfl rfl (by kernel_rfl) Tryz.func5 (by kernel_rfl)
    (of_decide_eq_true (by kernel_rfl)) (by unfold Func.isWrapper; first | (rw [if_pos (by decide +kernel)]; kernel_rfl) | (rw [if_neg (by decide +kernel)]; exact ⟨rfl, rfl⟩))
    (fun os started H enc _ => ns_lifted os started H enc)
theorem live_holds : Rows.NamespaceLiveCardSaid :=
  Claim7.holds_tied_plain_at .later [] [.data, .pinned] true (true, "07ff5d1ffe630ad973302fcc99dfb0e0579eb241f7b5bce461b1287d3a0e7bba") true ns_said (fun _ h => by cases h) (by kernel_rfl) (fun _ h => by cases h) namespaceLive_row_tie rfl ⟨rfl, rfl⟩ (by kernel_rfl) rfl
    (fun f fn hf hfn => by
      obtain rfl : f = 5 := Option.some.inj ((show Tryz.prog.funcNamed "cameo/cameolaw20.NamespaceLive" = some 5 by kernel_rfl).symm.trans hf) |>.symm
      obtain rfl : fn = Tryz.f5 := (Option.some.inj (Tryz.func5.symm.trans hfn)).symm
      exact ⟨by kernel_rfl, fun j t ht => by
        rw [Tryz.params5] at ht
        have hm : t ∈ [86, 22, 36] := by simpa using Array.mem_of_getElem? ht
        have hall : ([86, 22, 36].all fun u => !Tryz.prog.wantsStandIn u) = true := by kernel_rfl
        exact (show Tryz.prog.wantsStandIn t = false by simpa using List.all_eq_true.1 hall t hm)⟩)
    (by kernel_rfl)
#print axioms live_holds

end Go.Proofs.YtoalboilghgalaaGreatDoor
