/- Lemmas for this claim, in parts: Behind, Tdel0, Behind2. -/
import Derived.Test.YtoalboilghgalaaGreatDoorC18
import Derived.Deep.LoopGhost
import Derived.Lib.Walk
set_option maxRecDepth 100000
set_option maxHeartbeats 4000000
set_option linter.unusedVariables false
set_option linter.unusedSimpArgs false
/- table.behind. -/
namespace Go.Proofs.YtoalboilghgalaaGreatDoor
open Go.RowKit
open Go.Proofs.Dc (V Ds Ky)
attribute [local go_sem] run_store_float

/-- an entry -/
def eArr (e : GE) : Array Value := #[.string e.p.1.str, .int .i64 e.p.1.sym, .int .i64 e.p.2.val.kind, .bool e.p.2.val.bool, .float .f64 e.p.2.val.num, .string e.p.2.val.str, .int .i64 e.p.2.val.id, .int .i64 e.p.2.get.kind, .bool e.p.2.get.bool, .float .f64 e.p.2.get.num, .string e.p.2.get.str, .int .i64 e.p.2.get.id, .int .i64 e.p.2.set.kind, .bool e.p.2.set.bool, .float .f64 e.p.2.set.num, .string e.p.2.set.str, .int .i64 e.p.2.set.id, .int .i64 e.p.2.w, .int .i64 e.p.2.e, .int .i64 e.p.2.c, .int .u64 (e.n : Nat), .bool e.gone]
theorem eArr_list (e : GE) : (eArr e).toList = gCells e := rfl
theorem eArr_one (e : GE) : (eArr e).all (·.oneCell') = true := by simp [eArr, Value.oneCell']
theorem Tryz.row245 : ∃ d, Tryz.prog.underlying 245 = some d ∧ d.isRow = true := ⟨_, Tryz.underlying245, rfl⟩
theorem Tryz.size245 : (Tryz.prog.info? 245).map (·.size) = some 22 := by kernel_rfl
def e0 : Array Value := #[.string ⟨#[]⟩, .int .i64 0, .int .i64 0, .bool false, .float .f64 0, .string ⟨#[]⟩, .int .i64 0, .int .i64 0, .bool false, .float .f64 0, .string ⟨#[]⟩, .int .i64 0, .int .i64 0, .bool false, .float .f64 0, .string ⟨#[]⟩, .int .i64 0, .int .i64 0, .int .i64 0, .int .i64 0, .int .u64 0, .bool false]
theorem zero245 (w : World) : (zeroValue 245).run Tryz.prog w = .ok (.agg e0) w := by kernel_rfl
theorem e0_one : e0.all (·.oneCell') = true := by simp [e0, Value.oneCell']
theorem Blk.cellE {W : World} {b : Nat} {e : GE} (h : Blk W b (eArr e) 245) : W.cell? ⟨b, 20, none⟩ = some (.int .u64 (e.n : Nat)) := h.cell 20

theorem b1_lt (x : GE) (t : Nat) (w : World) (h : x.n < t) : Calls Tryz.prog 187 #[.agg (eArr x), .int .u64 (t : Nat)] w fun e w' => e = .returned (.int .i64 (-1)) ∧ Below w.heap.size w w' := by
  have hd : decide (x.n < t) = true := by simpa using h
  clear h
  go_enter Tryz.func187, Tryz.ntmps187
  go_wp2_with ((with_reducible show wpList _ _ _ (⟨_, .box 245 _, _, _, _, _⟩ :: _) _ _); refine wpList_box_blk rfl 245 _ rfl (eArr x) rfl ?_; intro w0 hE hL hs; have hc := hE.cellE; clear hs)
  go_ret
  exact ⟨rfl, hL⟩

theorem b1_ge (x : GE) (t : Nat) (w : World) (h : ¬ x.n < t) : Calls Tryz.prog 187 #[.agg (eArr x), .int .u64 (t : Nat)] w fun e w' => e = .returned (.int .i64 (1)) ∧ Below w.heap.size w w' := by
  have hd : decide (x.n < t) = false := by simpa using h
  clear h
  go_enter Tryz.func187, Tryz.ntmps187
  go_wp2_with ((with_reducible show wpList _ _ _ (⟨_, .box 245 _, _, _, _, _⟩ :: _) _ _); refine wpList_box_blk rfl 245 _ rfl (eArr x) rfl ?_; intro w0 hE hL hs; have hc := hE.cellE; clear hs)
  go_ret
  exact ⟨rfl, hL⟩

theorem wpList_load_midW {P : Program} {ops : Array Oper} {rest : List Oper} {op : Oper} {a : Act} {w : World} {Q : Exit → Act → World → Prop} (hw : Region.wanted op (yielded ops a.tmps) = true) (ty : TypeId) (x : Operand) (ho : op.op = .load ty x)
    (b o : Nat) (hx : a.eval x = .pointer (some ⟨b, o, none⟩)) (cs : List Value) (d : TypeDesc) (hc : w.rangeAt b o cs) (hu : P.underlying ty = some d) (hd : d.isRow = true) (hi : (P.info? ty).map (·.size) = some cs.length)
    (h : wpList P ops Q rest (a.put op.dst (.agg cs.toArray)) w) : wpList P ops Q (op :: rest) a w := by
  rw [wpList, if_pos hw]
  exact .inl (wp_load_mid ty x ho b o hx cs d hc hu hd hi h)

theorem bs_any (base : Nat) (tb mb : Nat) (ev : Value) (E : List GE) (M : List (Ky × Nat)) (last : Nat) (w : World) (hB : TabG base w tb ev mb E M last) (N : Nat) (hl : last ≤ 1000000) :
    Calls Tryz.prog 186 #[ev, .int .u64 ((N : Int) + 1), .func (.func 187) #[] #[]] w fun e w' => e = .returned (.tuple #[.int .i64 (cutE E N : Nat), .bool false]) ∧ Below w.heap.size w w' := by
  obtain ⟨ep, ec, hev⟩ := row_slice hB.row
  subst hev
  obtain ⟨n, hne⟩ : ∃ n, n = cutE E N := ⟨_, rfl⟩
  rw [← hne]
  have hn : n ≤ E.length := by rw [hne]; exact cutE_le E N
  have hcut : ∀ j (hj : j < E.length), E[j].n ≤ N ↔ j < n := fun j hj => by rw [hne]; exact cutE_iff hB.ok.nums N j hj
  have HC := Lib.hid hcut
  clear hne hcut
  have HN := Lib.hid hn
  have hlen := Nat.le_trans hB.ok.len_le hl
  by_cases h0 : E.length = 0
  · have hn0 : n = 0 := by omega
    subst hn0
    rw [h0]
    clear hB HN HC hlen hn hl
    go_enter Tryz.func186, Tryz.ntmps186
    go_wp2
    refine wp_loop_rounds 1 ?_
    rw [rounds_succ]
    go_wp2
    go_ret2
    exact ⟨rfl, Below.refl _ _⟩
  · obtain ⟨g, cap, hev, _, hglt, hent⟩ := hB.entry (by omega)
    simp only [Value.slice.injEq] at hev
    obtain ⟨rfl, _, rfl⟩ := hev
    have HE : Hid (∀ wr, Below w.heap.size w wr → ∀ h (hh : h < E.length), wr.rangeAt g (h * 22) (eArr E[h]).toList) := Lib.hid fun wr hb h hh j v hv => by
      have hj : j < 22 := (List.getElem?_eq_some_iff.1 hv).1
      rw [hb.cell (p := ⟨g, h * 22 + j, none⟩) hglt, hent h hh j hj, ← eArr_list]
      exact hv
    have cLt := fun W (x : GE) (h : x.n < N + 1) => b1_lt x (N + 1) W h
    have cGe := fun W (x : GE) (h : ¬ x.n < N + 1) => b1_ge x (N + 1) W h
    clear hB hn hent hl
    go_enter Tryz.func186, Tryz.ntmps186
    go_wp2
    go_loopg [9, 10] E.length (fun fu s9 s10 wr => ∃ lo hi : Nat, s9 = .int .i64 lo ∧ s10 = .int .i64 hi ∧ lo ≤ n ∧ n ≤ hi ∧ hi ≤ E.length ∧ hi - lo ≤ fu ∧ Below w.heap.size w wr)
    case atStart => exact ⟨0, E.length, rfl, rfl, Nat.zero_le _, HN.out, Nat.le_refl _, by omega, Below.refl _ _⟩
    case round =>
      obtain ⟨lo, hi, rfl, rfl, h1, h2, h3, h4, hb⟩ := hrel
      have HB := Lib.hid hb
      clear hb
      by_cases hlt : lo < hi
      · obtain ⟨h, hh0⟩ : ∃ h, h = (lo + hi) / 2 := ⟨_, rfl⟩
        have hmid : ((lo : Int) + (hi : Int)) / 2 = (h : Int) := by omega
        have hh : h < E.length := by omega
        have hlh : lo ≤ h := by omega
        have hhh : h < hi := by omega
        have hi0 : (0 : Int) ≤ (h : Int) := by omega
        have hi1 : (h : Int) < (E.length : Int) := by omega
        have HH := Lib.hid hh0
        clear hh0
        by_cases hc : h < n
        · go_wp2_with (first | ((with_reducible show wpList _ _ _ (⟨_, .load 245 _, _, _, _, _⟩ :: _) _ _); refine wpList_load_mid rfl 245 _ rfl g (h * 22) rfl (eArr E[h]).toList _ (HE.out wr HB.out h hh) Tryz.underlying245 rfl Tryz.size245 ?_) | (go_at_call 187; refine (cLt _ _ (by have := (HC.out h hh).2 hc; omega)).mono ?_; rintro e wX ⟨rfl, hbX⟩))
          go_roundg (hi - (h + 1))
          case measure => omega
          case rel => exact ⟨h + 1, hi, by go_num, rfl, by omega, h2, h3, Nat.le_refl _, more HB.out hbX⟩
        · go_wp2_with (first | ((with_reducible show wpList _ _ _ (⟨_, .load 245 _, _, _, _, _⟩ :: _) _ _); refine wpList_load_mid rfl 245 _ rfl g (h * 22) rfl (eArr E[h]).toList _ (HE.out wr HB.out h hh) Tryz.underlying245 rfl Tryz.size245 ?_) | (go_at_call 187; refine (cGe _ _ (by have := (HC.out h hh).1; omega)).mono ?_; rintro e wX ⟨rfl, hbX⟩))
          go_roundg (h - lo)
          case measure => omega
          case rel => exact ⟨lo, h, rfl, rfl, h1, by omega, by omega, Nat.le_refl _, more HB.out hbX⟩
      · obtain rfl : lo = n := by omega
        by_cases hln : lo < E.length
        · have hi0 : (0 : Int) ≤ (lo : Int) := by omega
          have hi1 : (lo : Int) < (E.length : Int) := by omega
          go_wp2_with (first | ((with_reducible show wpList _ _ _ (⟨_, .load 245 _, _, _, _, _⟩ :: _) _ _); refine wpList_load_midW (by rfl) 245 _ rfl g (lo * 22) rfl (eArr E[lo]).toList _ (HE.out wr HB.out lo hln) Tryz.underlying245 rfl Tryz.size245 ?_) | (go_at_call 187; refine (cGe _ _ (by have := (HC.out lo hln).1; omega)).mono ?_; rintro e wX ⟨rfl, hbX⟩))
          go_ret2
          exact ⟨rfl, more HB.out hbX⟩
        · go_wp2
          go_ret2
          exact ⟨rfl, HB.out⟩


end Go.Proofs.YtoalboilghgalaaGreatDoor

/- table.Compact: which entry is a gap; the first gap. -/
namespace Go.Proofs.YtoalboilghgalaaGreatDoor
open Go.RowKit
open Go.Proofs.Dc (V Ds Ky)
attribute [local go_sem] run_store_float

theorem Blk.cellG {W : World} {b : Nat} {e : GE} (h : Blk W b (eArr e) 245) : W.cell? ⟨b, 21, none⟩ = some (.bool e.gone) := h.cell 21

theorem gone_any (x : GE) (w : World) : Calls Tryz.prog 259 #[.agg (eArr x)] w fun e w' => e = .returned (.bool x.gone) ∧ Below w.heap.size w w' := by
  go_enter Tryz.func259, Tryz.ntmps259
  go_wp2_with ((with_reducible show wpList _ _ _ (⟨_, .box 245 _, _, _, _, _⟩ :: _) _ _); refine wpList_box_blk rfl 245 _ rfl (eArr x) rfl ?_; intro w0 hE hL hs; have hc := hE.cellG; clear hs)
  go_ret
  exact ⟨rfl, hL⟩

theorem idx_any (g cap : Nat) (E : List GE) (w : World) (hrow : ∀ i (hi : i < E.length), w.rangeAt g (i * 22) (eArr E[i]).toList) (hg : g < w.heap.size) (hlen : E.length ≤ 1000000) (c : Nat) (hc : c < E.length) (hc1 : E[c].gone = true) (hc0 : ∀ j (hj : j < c), (E[j]'(Nat.lt_trans hj hc)).gone = false) :
    Calls Tryz.prog 267 #[.slice (some ⟨g, 0, none⟩) E.length cap, .func (.func 259) #[] #[]] w fun e w' => e = .returned (.int .i64 (c : Nat)) ∧ Below w.heap.size w w' := by
  have HE : Hid (∀ wr, Below w.heap.size w wr → ∀ h (hh : h < E.length), wr.rangeAt g (h * 22) (eArr E[h]).toList) := Lib.hid fun wr hb h hh j v hv => by
    rw [hb.cell (p := ⟨g, h * 22 + j, none⟩) hg]; exact hrow h hh j v hv
  have cT := fun W (x : GE) (h : x.gone = true) => (by have := gone_any x W; rw [h] at this; exact this : Calls Tryz.prog 259 #[.agg (eArr x)] W fun e w' => e = .returned (.bool true) ∧ Below W.heap.size W w')
  have cF := fun W (x : GE) (h : x.gone = false) => (by have := gone_any x W; rw [h] at this; exact this : Calls Tryz.prog 259 #[.agg (eArr x)] W fun e w' => e = .returned (.bool false) ∧ Below W.heap.size W w')
  have HC := Lib.hid (And.intro hc1 hc0)
  clear hrow hc1 hc0
  go_enter Tryz.func267, Tryz.ntmps267
  go_wp2
  go_loopg [8] E.length (fun fu s8 wr => ∃ i : Nat, s8 = .int .i64 i ∧ i ≤ c ∧ E.length - i ≤ fu ∧ Below w.heap.size w wr)
  case atStart => exact ⟨0, rfl, Nat.zero_le _, by omega, Below.refl _ _⟩
  case round =>
    obtain ⟨i, rfl, hi, hfu, hb⟩ := hrel
    have HB := Lib.hid hb
    clear hb
    have hil : i < E.length := by omega
    have hi0 : (0 : Int) ≤ (i : Int) := by omega
    have hi1 : (i : Int) < (E.length : Int) := by omega
    by_cases hlt : i < c
    · have hg0 := Lib.hid (HC.out.2 i hlt)
      go_wp2_with (first | ((with_reducible show wpList _ _ _ (⟨_, .load 245 _, _, _, _, _⟩ :: _) _ _); refine wpList_load_mid rfl 245 _ rfl g (i * 22) rfl (eArr E[i]).toList _ (HE.out wr HB.out i hil) Tryz.underlying245 rfl Tryz.size245 ?_) | (go_at_call 259; refine (cF _ _ hg0.out).mono ?_; rintro e wX ⟨rfl, hbX⟩))
      go_roundg (E.length - (i + 1))
      case measure => omega
      case rel => exact ⟨i + 1, by go_num, by omega, Nat.le_refl _, more HB.out hbX⟩
    · obtain rfl : i = c := by omega
      have hg0 := Lib.hid HC.out.1
      go_wp2_with (first | ((with_reducible show wpList _ _ _ (⟨_, .load 245 _, _, _, _, _⟩ :: _) _ _); refine wpList_load_mid rfl 245 _ rfl g (i * 22) rfl (eArr E[i]).toList _ (HE.out wr HB.out i hil) Tryz.underlying245 rfl Tryz.size245 ?_) | (go_at_call 259; refine (cT _ _ hg0.out).mono ?_; rintro e wX ⟨rfl, hbX⟩))
      go_ret
      exact ⟨rfl, more HB.out hbX⟩


end Go.Proofs.YtoalboilghgalaaGreatDoor

/- table.behind: the property behind a number. -/
namespace Go.Proofs.YtoalboilghgalaaGreatDoor
open Go.RowKit
open Go.Proofs.Dc (V Ds Ky)
attribute [local go_sem] run_store_float

/-- the first of these, or none -/
def headA : List GE → Array Value
  | [] => e0
  | e :: _ => eArr e
def headB : List GE → Bool
  | [] => false
  | _ :: _ => true
theorem headA_size (F : List GE) : (headA F).size = 22 := by cases F <;> rfl
theorem headA_one (F : List GE) : (headA F).all (·.oneCell') = true := by
  cases F with
  | nil => exact e0_one
  | cons e r => exact eArr_one e
theorem live_drop {E : List GE} {i : Nat} (hi : i < E.length) : live (E.drop i) = if E[i].gone = true then live (E.drop (i + 1)) else E[i] :: live (E.drop (i + 1)) := by
  rw [List.drop_eq_getElem_cons hi, live]

theorem behind_scan (base : Nat) (tb mb : Nat) (ev : Value) (E : List GE) (M : List (Ky × Nat)) (last : Nat) (w : World) (hB : TabG base w tb ev mb E M last) (N : Nat) (hl : last ≤ 1000000) (hN : N ≤ last) :
    Calls Tryz.prog 178 #[.pointer (some ⟨tb, 0, none⟩), .int .u64 (N : Nat)] w fun e w' => e = .returned (.tuple #[.agg (headA (live (E.drop (cutE E N)))), .bool (headB (live (E.drop (cutE E N))))]) ∧ Below w.heap.size w w' := by
  have HL := Lib.hid (And.intro hl hN)
  have hwr : IntKind.u64.wrap ((N : Int) + 1) = (N : Int) + 1 := by unfold IntKind.wrap; simp [IntKind.signed, IntKind.bits]; omega
  have hlen : E.length ≤ 1000000 := Nat.le_trans hB.ok.len_le hl
  have hcle := cutE_le E N
  have HR := hB.row
  obtain ⟨ep, ec, rfl⟩ := row_slice HR
  clear hl hN HR
  obtain ⟨c, hc⟩ : ∃ c, c = cutE E N := ⟨_, rfl⟩
  go_enter Tryz.func178, Tryz.ntmps178
  go_wp2_with (first | ((with_reducible show wpList _ _ _ (⟨_, .alloc 245, _, _, _, _⟩ :: _) _ _); refine wpList_alloc_blk rfl 245 rfl e0 zero245 ?_; intro w1 hR hL hs; clear hs; have hB1 := hB.below hL; have hcB := hB1.tab.cellT) | (go_at_call 186; refine (bs_any base tb mb _ E M last _ hB1 N HL.out.1).mono ?_; rintro e w2 ⟨rfl, hb2⟩; have hR2 := hR.next hb2; have hB2 := hB1.below hb2; have hL2 := more hL hb2; have hcB2 := hB2.tab.cellT; clear hcB))
  rw [← hc] at hcle ⊢
  have HC := Lib.hid hc
  clear hc hwr hB1 hB2 hcB2
  have HB := Lib.hid hB
  clear hB
  go_loopg [6] E.length (fun fu s6 wr => ∃ i : Nat, s6 = .int .i64 i ∧ i ≤ E.length ∧ live (E.drop i) = live (E.drop c) ∧ E.length - i ≤ fu ∧ Blk wr w.heap.size e0 245 ∧ Below w.heap.size w wr)
  case atStart => exact ⟨c, rfl, hcle, rfl, by omega, hR2, hL2⟩
  case round =>
    obtain ⟨i, rfl, hi, hd, hfu, hR, hQ⟩ := hrel
    have hBr := HB.out.below hQ
    have hcB := hBr.tab.cellT
    have hfin : live (E.drop (cutE E N)) = live (E.drop i) := by rw [hd, HC.out]
    have HF := Lib.hid hfin
    clear hR2 hL2 hfin
    by_cases hlt : i < E.length
    · obtain ⟨g, cap, hev, _, hglt, hent⟩ := hBr.entry (by omega)
      simp only [Value.slice.injEq] at hev
      obtain ⟨rfl, _, rfl⟩ := hev
      have HE : Hid (wr.rangeAt g (i * 22) (eArr E[i]).toList) := Lib.hid fun j v hv => by
        have hj : j < 22 := (List.getElem?_eq_some_iff.1 hv).1
        rw [hent i hlt j hj, ← eArr_list]
        exact hv
      have hi0 : (0 : Int) ≤ (i : Int) := by omega
      have hi1 : (i : Int) < (E.length : Int) := by omega
      rw [live_drop hlt] at hd
      clear hent
      cases hg : E[i].gone
      · have HX := Lib.hid (show live (E.drop (cutE E N)) = E[i] :: live (E.drop (i + 1)) by rw [HF.out, live_drop hlt, if_neg (by rw [hg]; simp)])
        clear hd
        have HG := Lib.hid hg
        clear hg
        have hx : Hid ((eArr E[i]).toList[21]? = some (.bool false)) := Lib.hid (by rw [← HG.out]; rfl)
        go_wp2_with (first | ((with_reducible show wpList _ _ _ (⟨_, .load 4 _, _, _, _, _⟩ :: _) _ _); refine wpList_load1 (by rfl) 4 _ rfl g (i * 22 + 21) rfl (.bool false) (Tryz.isAgg4 _) (HE.out 21 _ hx.out) ?_) | ((with_reducible show wpList _ _ _ (⟨_, .load 245 _, _, _, _, _⟩ :: _) _ _); refine wpList_load_mid rfl 245 _ rfl g (i * 22) rfl (eArr E[i]).toList _ HE.out Tryz.underlying245 rfl Tryz.size245 ?_) | ((with_reducible show wpList _ _ _ (⟨_, .store 245 _ _, _, _, _, _⟩ :: _) _ _); refine wpList_store_blk rfl 245 _ _ rfl _ (eArr E[i]) _ 245 rfl rfl hR Tryz.size245 rfl (eArr_one _) ?_; intro w9 hR9 hO9))
        exact bodyPost_ret (results_cell_tmp Tryz.results178 rfl hR9 Tryz.row245 Tryz.size245) rfl ⟨by rw [HX.out]; rfl, below_only hQ hO9 (by simp)⟩
      · rw [if_pos hg] at hd
        have HG := Lib.hid hg
        clear hg
        have hx : Hid ((eArr E[i]).toList[21]? = some (.bool true)) := Lib.hid (by rw [← HG.out]; rfl)
        go_wp2_with ((with_reducible show wpList _ _ _ (⟨_, .load 4 _, _, _, _, _⟩ :: _) _ _); refine wpList_load1 (by rfl) 4 _ rfl g (i * 22 + 21) rfl (.bool true) (Tryz.isAgg4 _) (HE.out 21 _ hx.out) ?_)
        go_roundg (E.length - (i + 1))
        case measure => omega
        case rel => exact ⟨i + 1, by go_num, by omega, hd, Nat.le_refl _, hR, hQ⟩
    · have he : E.drop i = [] := List.drop_eq_nil_of_le (by omega)
      have hge : ¬ (i : Int) < (E.length : Int) := by omega
      have HX := Lib.hid (show live (E.drop (cutE E N)) = [] by rw [HF.out, he]; rfl)
      clear hd
      go_wp2_with (first | ((with_reducible show wpList _ _ _ (⟨_, .store 245 _ _, _, _, _, _⟩ :: _) _ _); refine wpList_store_blk rfl 245 _ _ rfl _ e0 _ 245 rfl rfl hR Tryz.size245 rfl e0_one ?_; intro w9 hR9 hO9))
      exact bodyPost_ret (results_cell_tmp Tryz.results178 rfl hR9 Tryz.row245 Tryz.size245) rfl ⟨by rw [HX.out]; rfl, below_only hQ hO9 (by simp)⟩


end Go.Proofs.YtoalboilghgalaaGreatDoor
