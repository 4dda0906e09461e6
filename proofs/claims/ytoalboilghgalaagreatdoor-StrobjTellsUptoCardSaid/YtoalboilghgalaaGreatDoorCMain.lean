/- Proved: for every input of bulk at most 1048576, cameolaw16.StrobjTells returns true and each argument reads behind the call as it read before. Conditions: none beyond the statement's own; the tables of unicode/utf8 and the powers of ten of strconv start as the program's text lays them (the card ties them). -/
import Derived.Test.YtoalboilghgalaaGreatDoorC48
import Derived.Test.YtoalboilghgalaaGreatDoorC47
import Derived.Test.YtoalboilghgalaaGreatDoorCards
import Derived.Test.YtoalboilghgalaaGreatDoorTie
import Derived.ProofKit
import Derived.OpenShut
import Derived.LaidMore
import Derived.Lay
import Derived.PinnedBridge
import Derived.Lib.LaidIn
import Derived.Lib.LaidU8T
import Derived.Lib.LaidTab
import Derived.Lib.SmallJoins
import Derived.Stop.LaidErr
import Derived.Deep.DeepHandedRow
import Derived.SevenTiedAt
import Derived.Stop.Joined
import Derived.ChangeMaps5
namespace Go.Proofs.YtoalboilghgalaaGreatDoor
open Go.ChangeShapes Go.WideShapes Go.ChangeAt Go.RowKit Go.Deep
open Go.Proofs.Dc (V Ds Ky)

theorem Tryz.own : ownKnob Tryz.prog.godebug = none := by kernel_rfl
theorem Tryz.laidOut : laidOutB Tryz.prog = true := by kernel_rfl
theorem strobj_any (w : World) (A : Option Addr) (ps : List (Ky × Ds)) (ca : Nat) (s : ByteArray) (pv : Bool) (hT : Tabs w) (hP : PowT w) (hs : s.size ≤ 1048576) (hA : ArgAt w.heap.size w A ps) (hnums : ∀ p ∈ ps, Nums p.2) :
    Calls Tryz.prog 3 #[.string s, .slice A ps.length ca, .bool pv] w fun e w' => e = .returned (.bool true) ∧ Below w.heap.size w w' := by
  have hP' : ∀ W, Below w.heap.size w W → PowT W := fun W h => Go.Joins.tab_stays (g := 1) (by kernel_rfl) hP h (Nat.le_refl _)
  by_cases h1 : ps.length ≤ 40
  · by_cases h2 : s.size ≤ 500
    · cases hv : uvalid s with
      | false => exact slaw_bad w A ps ca s pv hT hT.lt hP' hs h1 h2 hv
      | true => exact slaw_ok w A ps ca s pv hT hT.lt hP' hs hA hnums h1 h2 hv
    · exact slaw_long w A ps ca s pv hT hT.lt hP' hs h1 (by omega)
  · exact slaw_big w A ps ca s pv hT hT.lt hP' hs (by omega)
/-- the tables, as the row lists them -/
theorem tabs_of {W : World} (h : laidMetH Tryz.prog Rows.strobjTellsUptoRow.laid W) : Tabs W ∧ PowT W := by
  rw [MakeChecks.laidMetH_plain _ _ _ (by kernel_rfl)] at h
  have h1 : Lib.VarReads Tryz.prog W "unicode/utf8.acceptRanges" Lib.acceptData := Lib.laidMet.reads h (.tail _ (.tail _ (.tail _ (.head _))))
  have h2 : Lib.VarReads Tryz.prog W "unicode/utf8.first" Lib.firstData := by
    rw [← Pinned.utf8First_eq]
    exact Lib.laidMet.reads h (.tail _ (.tail _ (.tail _ (.tail _ (.head _)))))
  refine ⟨utf8Tabs_of_readsT ⟨by kernel_rfl, by kernel_rfl, by kernel_rfl, by kernel_rfl⟩ ⟨by kernel_rfl, by kernel_rfl, by kernel_rfl, by kernel_rfl, by kernel_rfl, by kernel_rfl, by kernel_rfl⟩ h2 h1, ?_⟩
  have h3 := laidMet.tail (laidMet.tail h)
  exact Lib.tabIs_of_head (g := 1) (t := 253) (e := 76) (n := 20) (by kernel_rfl) (by kernel_rfl) (by kernel_rfl) (by kernel_rfl) (by kernel_rfl) (by kernel_rfl) h3
theorem slice_of_cells {P : Program} {w : World} {r : Reach} {b0 : Nat} {t e : TypeId} {v : Value} {A : Option Addr} {n c : Nat} (ht : P.underlying t = some (.slice e)) (h : Value.okWide P w r b0 t v) (hc : v.cells.toList = [Value.slice A n c]) : v = .slice A n c := by
  simp only [Value.okWide, ht, Cell.okWide] at h
  cases v <;> simp_all [Cell.ok, Value.cells]

/-- the bound, at the string -/
theorem bulk_str {H : Type} {q : ByteArray} {ds : List (DataW H)} (h : Rows.uptoSmall H (.lit (.string q.data.toList) :: ds) = true) : q.size ≤ 1048576 := by
  have h1 := of_decide_eq_true h
  simp only [Rows.uptoBulkAll, Rows.uptoBulk] at h1
  have : q.data.toList.length = q.size := rfl
  omega
def emptyArgs : Array Value := #[.string ⟨#[]⟩, .slice none 0 0, .bool false]
set_option maxRecDepth 100000 in
theorem tells_witness (os : Os) {H : Type} (enc : TypeId × Value → H) : ∃ (w : World) (tape : Tape) (i : Input), w.os = os ∧ (w.forCall tape i).Shaped Tryz.checked.prog ∧ i.vars = [] ∧ Input.okWide Tryz.checked.prog (w.forCall tape i) .any w.heap.size 3 i ∧
      (Rows.OpenSpec.upto Rows.strobjTellsSpec).preRow enc Tryz.checked.prog Tryz.f3 Rows.strobjTellsUptoRow.domain false Rows.strobjTellsUptoRow.laid (w.forCall tape i).memory i.args ∧ ({} : Assume).holds Tryz.checked.prog (lone (Frame.enter Tryz.checked.prog 3 i.args .normal) [] (w.forCall tape i)) := by
  have hx : ∃ places, DataW.whole enc Tryz.prog ((World.laidAll Tryz.prog os Rows.strobjTellsUptoRow.laid).forCall (fun _ _ => 0) ⟨#[], emptyArgs, []⟩).memory Tryz.f3.params.toList (Rows.OpenSpec.upto Rows.strobjTellsSpec).vars false emptyArgs.toList 8 = some ([.lit (.string []), .nil, .lit (.bool false)], [], places) := ⟨[], by kernel_rfl⟩
  obtain ⟨places, hx⟩ := hx
  have hok : Input.okWideB Tryz.prog ((World.laidAll Tryz.prog os Rows.strobjTellsUptoRow.laid).forCall (fun _ _ => 0) ⟨#[], emptyArgs, []⟩) 3 ⟨#[], emptyArgs, []⟩ = true := by kernel_rfl
  refine ⟨World.laidAll Tryz.prog os Rows.strobjTellsUptoRow.laid, fun _ _ => 0, ⟨#[], emptyArgs, []⟩, World.laidAll_os _ _ _, World.shaped_of_ZipB (by kernel_rfl) (by kernel_rfl), (Input.okWide_of_okWideB (base := 0) hok).1, (Input.okWide_of_okWideB hok).2, ?_, ?_⟩
  · exact OpenSpec.preRow_of_cond 8 hx (by kernel_rfl) (fun k hk => by cases hk; kernel_rfl) (by kernel_rfl) (by rw [MakeChecks.laidMetH_plain _ _ _ (by kernel_rfl)]; exact laidMet_laidAll _ (by kernel_rfl) (by kernel_rfl))
  · simp only [Assume.holds]
    exact ⟨by simp, by simp, fun _ => Modest.zero, by simp, by simp⟩

set_option maxRecDepth 100000 in
set_option maxHeartbeats 1600000 in
theorem tells_lifted (os : Os) (started : os.Started) (H : Type) (enc : TypeId × Value → H) (F : Stop.Interp) :
    ReturnsInHanded {} Tryz.checked os 3 .any ((Rows.OpenSpec.upto Rows.strobjTellsSpec).preRow enc Tryz.prog Tryz.f3 Rows.strobjTellsUptoRow.domain false Rows.strobjTellsUptoRow.laid) (((Rows.OpenSpec.upto Rows.strobjTellsSpec).at F).post enc Tryz.prog Tryz.f3 false true false false) := by
  refine returnsInHanded_of_row (C := Tryz.checked) (s := Rows.OpenSpec.upto Rows.strobjTellsSpec) Tryz.own started (by kernel_rfl) Tryz.func3 (tells_witness os enc) ?_
  intro W base args ds gs before hval0 hW _ hcond _ hL _ _
  have hval : ∀ (j : Nat) t v, Tryz.f3.params[j]? = some t → args[j]? = some v → Value.okWide Tryz.prog W .any base t v := hval0
  have hW' := hW
  obtain ⟨p, q, hA0, hV, rfl, _, _⟩ := hW
  have hA : DataW.TrodAll enc Tryz.prog W 0 (fun _ => true) true Tryz.f3.params.toList args.toList ds p := hA0
  rw [Tryz.params3] at hA hval
  obtain ⟨v0, vs, d0, ds', p0, q0, hargs, rfl, rfl, h0, hr⟩ := trodAll_cons hA
  obtain ⟨v1, vs1, d1, ds1, p1, q1, rfl, rfl, rfl, h1, hr1⟩ := trodAll_cons hr
  obtain ⟨v2, vs2, d2, ds2, p2, q2, rfl, rfl, rfl, h2, hr2⟩ := trodAll_cons hr1
  obtain ⟨rfl, rfl, rfl⟩ := trodAll_nil hr2
  obtain rfl : args = #[v0, v1, v2] := by cases args; simp_all
  obtain ⟨rfl, rfl⟩ := trodVars_none hV
  have g0 := h0
  have g1 := h1
  have g2 := h2
  obtain ⟨s, rfl, rfl, rfl, _⟩ := Go.ChangeMaps.open_string Tryz.underlying9 (hval 0 9 v0 rfl rfl) h0
  obtain ⟨pv, rfl, rfl, rfl⟩ := open_bool Tryz.underlying4 (hval 2 4 v2 rfl rfl) h2
  have hk := hcond _ rfl
  have hsz : s.size ≤ 1048576 := bulk_str hk
  obtain ⟨u1, f1⟩ := h1
  obtain ⟨B, ps, cb, e1, hps, hnums⟩ := open_props f1
  obtain rfl := slice_of_cells Tryz.underlying22 (hval 1 22 v1 rfl rfl) e1
  obtain ⟨hT, hP⟩ := tabs_of hL
  simp only [List.append_nil] at hW'
  have hlt0 : ∀ x ∈ ([] : List MemPlace), x.block < W.heap.size := fun x hx => by cases hx
  have hlt1 : ∀ x ∈ p1, x.block < W.heap.size := fun x hx => hW'.lt x (by simp [hx])
  refine (strobj_any W B ps cb s pv hT hP hsz hps hnums).mono fun e W' ⟨he, hB⟩ => ?_
  subst he
  have t0 := Below.trod Tryz.laidOut (by kernel_rfl) (of_decide_eq_true (by kernel_rfl)) g0 hB hlt0
  have t1 := Below.trod Tryz.laidOut (by kernel_rfl) (of_decide_eq_true (by kernel_rfl)) g1 hB hlt1
  have t2 := Below.trod Tryz.laidOut (by kernel_rfl) (of_decide_eq_true (by kernel_rfl)) g2 hB hlt0
  exact ⟨_, rfl, _, _, _, [], _, [], hW', trodAll_mk1 (shut_bool Tryz.underlying4 true), trodAll_mk3 t0 t1 t2, rfl, hB.frame _, fun h => by cases h⟩

theorem tells_said : Rows.StrobjTellsUptoSaid :=
  OpenClaim.holds_of_cond 3 Tryz.f3 rfl rfl rfl rfl rfl rfl rfl ⟨rfl, rfl, rfl, rfl, rfl⟩ rfl rfl rfl rfl rfl (by kernel_rfl) Tryz.func3 (by kernel_rfl)
    (of_decide_eq_true (by kernel_rfl)) (by unfold Func.isWrapper; first | (rw [if_pos (by decide +kernel)]; kernel_rfl) | (rw [if_neg (by decide +kernel)]; exact ⟨rfl, rfl⟩))
    (fun os started H enc _ F => by rw [OpenClaim.pre_eq_preRow]; exact tells_lifted os started H enc F)
theorem tells_holds : Rows.StrobjTellsUptoCardSaid :=
  Claim7.holds_tied_plain_at .later [] _ _ _ _ tells_said (fun _ h => by cases h) (by kernel_rfl) (fun _ h => by cases h) strobjTellsUpto_row_tie rfl ⟨rfl, rfl⟩ (by kernel_rfl) rfl
    (fun f fn hf hfn => by
      obtain rfl : f = 3 := Option.some.inj ((show Tryz.prog.funcNamed "cameo/cameolaw16.StrobjTells" = some 3 by kernel_rfl).symm.trans hf) |>.symm
      obtain rfl : fn = Tryz.f3 := (Option.some.inj (Tryz.func3.symm.trans hfn)).symm
      exact ⟨by kernel_rfl, fun j t ht => by
        rw [Tryz.params3] at ht
        have hm : t ∈ [9, 22, 4] := by simpa using Array.mem_of_getElem? ht
        have hall : ([9, 22, 4].all fun u => !Tryz.prog.wantsStandIn u) = true := by kernel_rfl
        exact (show Tryz.prog.wantsStandIn t = false by simpa using List.all_eq_true.1 hall t hm)⟩)
    (by kernel_rfl)
#print axioms tells_holds

end Go.Proofs.YtoalboilghgalaaGreatDoor
