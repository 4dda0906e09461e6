/- Lemmas for this claim, in parts: Findx, Win2, Nsget. -/
import Derived.Test.YtoalboilghgalaaGreatDoorB23
import Derived.Test.YtoalboilghgalaaGreatDoorB24
import Derived.Test.YtoalboilghgalaaGreatDoorB19
set_option maxRecDepth 100000
set_option maxHeartbeats 4000000
set_option linter.unusedVariables false
set_option linter.unusedSimpArgs false
/- A namespace's export by its name: slices.BinarySearchFunc, (*object).find. -/
namespace Go.Proofs.YtoalboilghgalaaGreatDoor
open Go.RowKit
open Go.Proofs.Dc (V Ds Ky)
attribute [local go_sem] run_store_float

attribute [local go_sem] Oper.semAt_some
def cmpQ (x : Ex) (q : ByteArray) : Int := cmpU (unitsL x.name) (unitsL q)
theorem boxX (x : Ex) : (xC x).toArray.size = 6 := rfl
theorem find132 (x : Ex) (q : ByteArray) (w : World) (hT : Tabs w) (hq : q.size + 2 ≤ 1099511627776) (hv : uvalid q = true) : Calls Tryz.prog 132 #[.agg (xC x).toArray, .string q] w fun e w' => e = .returned (.int .i64 (cmpQ x q)) ∧ Grw w w' := by
  have c1 := fun (w1 : World) (h1 : Grw w w1) => cmp48 x.name q w1 (hT.below h1.below) x.le hq x.ok hv
  change ∀ (w1 : World), Grw w w1 → Calls Tryz.prog 48 #[.string x.name, .string q] w1 fun e w' => e = .returned (.tuple #[.int .i64 (cmpQ x q), .int .i64 0]) ∧ Grw w1 w' at c1
  generalize cmpQ x q = z at c1 ⊢
  obtain ⟨s, v, _, _⟩ := x
  unfold xC
  dsimp only at c1 ⊢
  clear hT
  go_enter Tryz.func132, Tryz.ntmps132
  go_wp2_with (first | ((with_reducible show wpList _ _ _ (⟨_, .box 162 (.tmp 0), _, _, _, _⟩ :: _) _ _); refine wpList_box_g rfl 162 _ rfl #[.string s, .int .i64 v.kind, .bool v.bool, .float .f64 v.num, .string v.str, .int .i64 v.id] rfl ?_; intro w1 hB1 hG1; have hb1 := hB1.cell 0) | (go_at_call 48; refine (c1 _ hG1).mono ?_; rintro e w3 ⟨rfl, hG3⟩))
  go_ret
  exact ⟨rfl, hG1.trans hG3⟩

/-- the exports, wherever they lie -/
def ExAt (W : World) (a : Option Addr) (g : Nat) (l : List Ex) : Prop := (a = none ∧ l = []) ∨ (a = some ⟨g, 0, none⟩ ∧ ∃ C, ExRow W g C l)
theorem ExRow.only {S : List Nat} {W W' : World} {g : Nat} {C : Array Value} {l : List Ex} (h : ExRow W g C l) (ho : Only S W W') (hg : g ∉ S) : ExRow W' g C l := ⟨h.blk.only ho hg, h.le, h.at_⟩
theorem ExAt.next {W W' : World} {a : Option Addr} {g : Nat} {l : List Ex} (h : ExAt W a g l) (hb : Below W.heap.size W W') : ExAt W' a g l := by
  rcases h with h | ⟨h1, C, h2⟩
  · exact .inl h
  · exact .inr ⟨h1, C, h2.blk.next hb, h2.le, h2.at_⟩
theorem ExRow.load {W : World} {g : Nat} {C : Array Value} {l : List Ex} (h : ExRow W g C l) {i : Nat} {x : Ex} (hx : l[i]? = some x) : ∀ j v, (xC x)[j]? = some v → W.cell? ⟨g, i * 6 + j, none⟩ = some v := fun j v hv => by
  have hj : j < 6 := (List.getElem?_eq_some_iff.1 hv).1
  rw [h.blk.cell, h.at_ i x hx j hj]
  exact hv
theorem Tryz.size162 : (Tryz.prog.info? 162).map (·.size) = some 6 := by kernel_rfl
/-- what a binary search hands back -/
def BsRes (l : List Ex) (q : ByteArray) (e : Ending) : Prop := ∃ i : Nat, ∃ b : Bool, e = .returned (.tuple #[.int .i64 i, .bool b]) ∧ (b = true → ∃ x, l[i]? = some x ∧ cmpQ x q = 0) ∧ (b = false → ∀ x ∈ l, cmpQ x q ≠ 0)
theorem ExAt.sl {W : World} {a : Option Addr} {g : Nat} {l : List Ex} (h : ExAt W a g l) {i : Nat} {x : Ex} (hx : l[i]? = some x) : a = some ⟨g, 0, none⟩ := by
  rcases h with ⟨_, rfl⟩ | ⟨h, _⟩
  · simp at hx
  · exact h
def StrictX (l : List Ex) : Prop := ∀ (i j : Nat) (x y : Ex), i < j → l[i]? = some x → l[j]? = some y → cmpX x y < 0
theorem bs131 {W : World} {a : Option Addr} {g : Nat} {l : List Ex} (cap : Nat) (q : ByteArray) (hT : Tabs W) (hq : q.size + 2 ≤ 1099511627776) (hv : uvalid q = true) (hR : ExAt W a g l) (hS : StrictX l) (hn : l.length ≤ 1048576) :
    Calls Tryz.prog 131 #[.slice a l.length cap, .string q, .func (.func 132) #[] #[]] W fun e w' => BsRes l q e ∧ Below W.heap.size W w' := by
  have HT := Lib.hid hT
  have HV := Lib.hid (And.intro hq hv)
  have HR := Lib.hid hR
  have HSS := Lib.hid hS
  obtain ⟨n, hn'⟩ : ∃ n, l.length = n := ⟨_, rfl⟩
  rw [hn'] at hn ⊢
  have HN := Lib.hid hn'
  clear hT hq hv hR hS hn'
  go_enter Tryz.func131, Tryz.ntmps131
  go_wp2_with fail
  go_loopw [9, 10] (fun x y wr => ∃ i j : Nat, x = .int .i64 i ∧ y = .int .i64 j ∧ i ≤ j ∧ j ≤ n ∧ (∀ k x, k < i → l[k]? = some x → cmpQ x q < 0) ∧ (∀ k x, j ≤ k → l[k]? = some x → ¬ cmpQ x q < 0) ∧ Below W.heap.size W wr) (fun x y wr => (intOf y - intOf x).toNat)
  case atStart => exact ⟨0, n, rfl, rfl, Nat.zero_le _, Nat.le_refl _, fun k x h => absurd h (by omega), fun k x h hx => absurd (List.getElem?_eq_some_iff.1 hx).1 (by rw [HN.out]; omega), Below.refl _ _⟩
  case round =>
    obtain ⟨i, j, rfl, rfl, hij, hjn, h1, h2, hb⟩ := hrel
    have H1 := Lib.hid h1
    have H2 := Lib.hid h2
    have HB := Lib.hid hb
    clear h1 h2 hb
    by_cases hlt : i < j
    · have hlti : (i : Int) < j := by omega
      obtain ⟨m, hm⟩ : ∃ m, m = (i + j) / 2 := ⟨_, rfl⟩
      have hmi : i ≤ m ∧ m < j := by omega
      have hm2 : ((i : Int) + (j : Int)) / 2 = ((m : Nat) : Int) := by omega
      have hmn : (m : Int) < n := by omega
      obtain ⟨x, hx⟩ : ∃ x, l[m]? = some x := ⟨_, List.getElem?_eq_getElem (by rw [HN.out]; omega)⟩
      have HX := Lib.hid hx
      rcases HR.out.next HB.out with ⟨_, h0⟩ | ⟨ha, C, hC⟩
      · rw [h0] at hx; simp at hx
      · subst ha
        have hld := hC.load hx
        have cF := fun w (hw : Below wr.heap.size wr w) => find132 x q w (HT.out.below (HB.out.trans (hw.mono HB.out.size))) HV.out.1 HV.out.2
        obtain ⟨z, hz⟩ : ∃ z, cmpQ x q = z := ⟨_, rfl⟩
        rw [hz] at cF
        have HZ := Lib.hid hz
        have HC := Lib.hid hC
        clear hx hC hz hm
        go_wp2_with (first | ((with_reducible show wpList _ _ _ (⟨_, .load 162 _, _, _, _, _⟩ :: _) _ _); refine wpList_load_mid rfl 162 _ rfl g (m * 6) rfl (xC x) _ hld Tryz.underlying162 rfl Tryz.size162 ?_) | (go_at_call 132; refine (cF _ (Below.refl _ _)).mono ?_; rintro e w1 ⟨rfl, hG1⟩))
        · have hz0 : z < 0 := by assumption
          refine ⟨⟨m + 1, j, by simp, rfl, by omega, hjn, fun k y hk hy => ?_, (fun k y hk hy => by have := H2.out k y hk hy; omega), HB.out.trans (hG1.below.mono HB.out.size)⟩, by simp [intOf]; omega⟩
          by_cases hkm : k = m
          · subst hkm
            rw [HX.out] at hy
            cases hy
            rw [HZ.out]; exact hz0
          · exact cmpU_trans (HSS.out k m y x (by omega) hy HX.out) (by rw [show cmpU (unitsL x.name) (unitsL q) = z from HZ.out]; exact hz0)
        · have hz0 : ¬ z < 0 := by omega
          refine ⟨⟨i, m, rfl, rfl, by omega, by omega, H1.out, fun k y hk hy => ?_, HB.out.trans (hG1.below.mono HB.out.size)⟩, by simp [intOf]; omega⟩
          by_cases hkm : k = m
          · subst hkm
            rw [HX.out] at hy
            cases hy
            rw [HZ.out]; exact hz0
          · intro h0
            exact hz0 (by rw [← HZ.out]; exact cmpU_trans (HSS.out m k x y (by omega) HX.out hy) h0)
    · have hlti : ¬ (i : Int) < j := by omega
      obtain rfl : i = j := by omega
      by_cases hn : i < n
      · have hni : (i : Int) < n := by omega
        obtain ⟨x, hx⟩ : ∃ x, l[i]? = some x := ⟨_, List.getElem?_eq_getElem (by rw [HN.out]; omega)⟩
        have HX := Lib.hid hx
        rcases HR.out.next HB.out with ⟨_, h0⟩ | ⟨ha, C, hC⟩
        · rw [h0] at hx; simp at hx
        · subst ha
          have hld := hC.load hx
          have cF := fun w (hw : Below wr.heap.size wr w) => find132 x q w (HT.out.below (HB.out.trans (hw.mono HB.out.size))) HV.out.1 HV.out.2
          obtain ⟨z, hz⟩ : ∃ z, cmpQ x q = z := ⟨_, rfl⟩
          rw [hz] at cF
          have HZ := Lib.hid hz
          clear hx hC hz
          go_wp2_with (first | ((with_reducible show wpList _ _ _ (⟨_, .load 162 _, _, _, _, _⟩ :: _) _ _); refine wpList_load_midW (by rfl) 162 _ rfl g (i * 6) rfl (xC x) _ hld Tryz.underlying162 rfl Tryz.size162 ?_) | (go_at_call 132; refine (cF _ (Below.refl _ _)).mono ?_; rintro e w1 ⟨rfl, hG1⟩))
          go_ret2
          refine ⟨⟨i, _, rfl, fun h => ⟨x, HX.out, by rw [HZ.out]; simpa using h⟩, fun h y hy hz0 => ?_⟩, HB.out.trans (hG1.below.mono HB.out.size)⟩
          have hz1 : ¬ z = 0 := by simpa using h
          obtain ⟨k, hk⟩ := List.getElem?_of_mem hy
          by_cases hki : k < i
          · have := H1.out k y hki hk; omega
          · by_cases hkm : k = i
            · subst hkm
              rw [HX.out] at hk
              cases hk
              exact hz1 (by rw [← HZ.out]; exact hz0)
            · have h1 := HSS.out i k x y (by omega) HX.out hk
              have h2 := cmpU_zero hz0
              have h3 : cmpQ x q < 0 := by unfold cmpQ; rw [← h2]; exact h1
              have := H2.out i x (Nat.le_refl _) HX.out
              omega
      · have hni : ¬ (i : Int) < n := by omega
        go_wp2
        refine bodyPost_ret (v := .tuple #[.int .i64 i, .bool false]) (by simp [results, Tryz.results131, go_sem]) rfl ?_
        refine ⟨⟨i, false, rfl, ?_, ?_⟩, HB.out⟩
        · intro h; cases h
        intro _ y hy hz0
        obtain ⟨k, hk⟩ := List.getElem?_of_mem hy
        have hkl := (List.getElem?_eq_some_iff.1 hk).1
        have := H1.out k y (by rw [HN.out] at hkl; omega) hk
        omega
/-- the place of a name -/
def xIdx (l : List Ex) (q : ByteArray) : Option Nat := l.findIdx? (fun x => decide (x.name = q))
theorem xIdx_some {l : List Ex} {q : ByteArray} {i : Nat} {x : Ex} (hS : StrictX l) (hx : l[i]? = some x) (hq : x.name = q) : xIdx l q = some i := by
  unfold xIdx
  rw [List.findIdx?_eq_some_iff_getElem]
  obtain ⟨hi, hxi⟩ := List.getElem?_eq_some_iff.1 hx
  refine ⟨hi, by simpa [hxi] using hq, fun j hj => ?_⟩
  simp only [decide_eq_true_eq]
  intro h
  have h1 := hS j i _ x hj (List.getElem?_eq_getElem (by omega)) hx
  unfold cmpX at h1
  rw [h, ← hq, cmpU_refl] at h1
  omega
theorem xIdx_none {l : List Ex} {q : ByteArray} (h : ∀ x ∈ l, x.name ≠ q) : xIdx l q = none := by
  unfold xIdx
  rw [List.findIdx?_eq_none_iff]
  intro x hx
  simpa using h x hx
theorem xIdx_lt {l : List Ex} {q : ByteArray} {i : Nat} (h : xIdx l q = some i) : ∃ x, l[i]? = some x ∧ x.name = q := by
  unfold xIdx at h
  rw [List.findIdx?_eq_some_iff_getElem] at h
  obtain ⟨hi, hx, _⟩ := h
  exact ⟨_, List.getElem?_eq_getElem hi, by simpa using hx⟩
/-- a namespace's object -/
structure XAt (W : World) (xb : Nat) (g : Nat) (cap : Nat) (a : Option Addr) (l : List Ex) : Prop where
  blk : Blk W xb #[.slice a l.length cap] 160
  row : ExAt W a g l
  ne : xb ≠ g
  strict : StrictX l
  small : l.length ≤ 1048576
theorem XAt.next {W W' : World} {xb g cap : Nat} {a : Option Addr} {l : List Ex} (h : XAt W xb g cap a l) (hb : Below W.heap.size W W') : XAt W' xb g cap a l := ⟨h.blk.next hb, h.row.next hb, h.ne, h.strict, h.small⟩
def xPtr (g : Nat) (o : Option Nat) : Value := match o with
  | some i => .pointer (some ⟨g, i * 6 + 0, none⟩)
  | none => .pointer none
theorem find94 {W : World} {xb g cap : Nat} {a : Option Addr} {l : List Ex} (q : ByteArray) (hT : Tabs W) (hq : q.size + 2 ≤ 1099511627776) (h : XAt W xb g cap a l) :
    Calls Tryz.prog 94 #[.pointer (some ⟨xb, 0, none⟩), .string q] W fun e w' => e = .returned (xPtr g (xIdx l q)) ∧ Below W.heap.size W w' := by
  have cV := valid_any q W hT (by omega)
  have hc := h.blk.cell 0
  have hn := h.small
  by_cases hv : uvalid q = true
  · have cB := fun w (hb : Below W.heap.size W w) => bs131 cap q (hT.below hb) hq hv (h.row.next hb) h.strict h.small
    rw [hv] at cV
    have HH := Lib.hid h
    have HVV := Lib.hid hv
    obtain ⟨n, hn'⟩ : ∃ n, l.length = n := ⟨_, rfl⟩
    rw [hn'] at hc cB hn
    have HN := Lib.hid hn'
    clear hT h hv hn' hq
    go_enter Tryz.func94, Tryz.ntmps94
    go_wp2_with (first | (go_at_call 12; refine cV.mono ?_; rintro e w1 ⟨rfl, hb1⟩; have hc1 := (HH.out.next hb1).blk.cell 0; rw [HN.out] at hc1) | (go_at_call 131; refine (cB _ hb1).mono ?_; rintro e w2 ⟨⟨i, b, rfl, ht, hf⟩, hb2⟩; have hc2 := ((HH.out.next hb1).next hb2).blk.cell 0; rw [HN.out] at hc2; have HT2 := Lib.hid ht; have HF2 := Lib.hid hf; clear ht hf; cases b; rotate_left; (obtain ⟨x, hx, hz⟩ := HT2.out (by first | rfl | trivial); obtain rfl := HH.out.row.sl hx; have hin : (i : Int) < n := by have := (List.getElem?_eq_some_iff.1 hx).1; rw [HN.out] at this; omega); have HXZ := Lib.hid (And.intro hx hz); clear hx hz; rotate_left))
    · go_ret
      rw [xIdx_none fun x hx he => HF2.out (by first | rfl | trivial) x hx (by unfold cmpQ; rw [he]; exact cmpU_refl _)]
      exact ⟨rfl, hb1.trans (hb2.mono hb1.size)⟩
    · go_ret
      obtain ⟨hx, hz⟩ := HXZ.out
      rw [xIdx_some HH.out.strict hx (unitsL_inj x.ok HVV.out (cmpU_zero hz))]
      exact ⟨by first | rfl | simp [xPtr], hb1.trans (hb2.mono hb1.size)⟩
  · have hvf : uvalid q = false := by simpa using hv
    rw [hvf] at cV
    have hN : xIdx l q = none := xIdx_none fun x _ he => by have := x.ok; rw [he] at this; rw [hvf] at this; cases this
    rw [hN]
    clear hT h hv hn hc hq hN
    go_enter Tryz.func94, Tryz.ntmps94
    go_wp2_with (go_at_call 12; refine cV.mono ?_; rintro e w1 ⟨rfl, hb1⟩)
    go_ret
    exact ⟨rfl, hb1⟩

end Go.Proofs.YtoalboilghgalaaGreatDoor

/- The door once more: at whatever depth, whatever the closure leaves of fuel and table; an error that is thrown. -/
namespace Go.Proofs.YtoalboilghgalaaGreatDoor
open Go.RowKit
open Go.Proofs.Dc (V Ds Ky)
attribute [local go_sem] run_store_float

attribute [local go_sem] run_store_float
theorem enter_g {n0 : Nat} {w : World} {hb : Nat} {ov : Value} {ob : Nat} {tp : Option Addr} {cap fuel deep : Int} {kd : Kd} {ext : Bool} {L : List (Ky × Ds)} (s : StX n0 w hb ov ob tp cap fuel deep kd ext L) (hf : 0 < fuel ∧ fuel ≤ 9223372036854775807) (hd : 0 ≤ deep ∧ deep < 10) : Calls Tryz.prog 141 #[.pointer (some ⟨hb, 0, none⟩)] w fun e w' => e = .returned .nilIface ∧ StX n0 w' hb ov ob tp cap (fuel - 1) (deep + 1) kd ext L ∧ Keeps n0 w w' := by
  refine (enter_any hb cap fuel 10 deep ov w s.h (by omega) (by omega)).mono ?_
  rintro e w' (⟨h, _⟩ | ⟨_, h1, h2, h3⟩)
  · omega
  · exact ⟨h1, s.heap h2 h3⟩
theorem leave_g {n0 : Nat} {w : World} {hb : Nat} {ov : Value} {ob : Nat} {tp : Option Addr} {cap fuel deep : Int} {kd : Kd} {ext : Bool} {L : List (Ky × Ds)} (s : StX n0 w hb ov ob tp cap fuel (deep + 1) kd ext L) (hd : 0 ≤ deep ∧ deep < 10) (u : FrameMode) : CallsD Tryz.prog 142 #[.pointer (some ⟨hb, 0, none⟩)] u w fun e u' w' => u' = u ∧ (e = .returned (.tuple #[]) ∧ StX n0 w' hb ov ob tp cap fuel deep kd ext L ∧ Keeps n0 w w') := by
  refine (leave_d hb cap fuel 10 (deep + 1) ov u w s.h (by omega)).mono ?_
  rintro e u' w' ⟨h0, h1, h2, h3⟩
  rw [show deep + 1 - 1 = deep by omega] at h2
  exact ⟨h0, h1, s.heap h2 h3⟩
/-- what is asked of a closure, what within leaves: no error -/
def GivesE {α : Type} (enc : α → Value) (Post : α → Int → Bool → List (Ky × Ds) → World → Prop) (n0 : Nat) (w : World) (hb : Nat) (ov : Value) (ob : Nat) (cap deep : Int) (kd : Kd) (e : Ending) (w' : World) : Prop :=
  ∃ x tp fuel ext L, e = .returned (.tuple #[enc x, .nilIface]) ∧ StX n0 w' hb ov ob tp cap fuel deep kd ext L ∧ Keeps n0 w w' ∧ Post x fuel ext L w'
/-- an error that is thrown -/
def errT (b : Nat) : Value := .iface 204 (.pointer (some ⟨b, 0, none⟩))
/-- the same where an error is thrown -/
def GivesT {α : Type} (enc : α → Value) (P0 : α → Prop) (C0 : Array Value) (Post : Int → Bool → List (Ky × Ds) → Prop) (n0 : Nat) (w : World) (hb : Nat) (ov : Value) (ob : Nat) (cap deep : Int) (kd : Kd) (e : Ending) (w' : World) : Prop :=
  ∃ x b tp fuel ext L, e = .returned (.tuple #[enc x, errT b]) ∧ P0 x ∧ StX n0 w' hb ov ob tp cap fuel deep kd ext L ∧ Keeps n0 w w' ∧ n0 ≤ b ∧ Blk w' b C0 206 ∧ Post fuel ext L
theorem wbool_g {n0 : Nat} {w : World} {hb : Nat} {ov : Value} {ob : Nat} {tp : Option Addr} {cap fuel deep : Int} {kd : Kd} {ext : Bool} {L : List (Ky × Ds)} (s : StX n0 w hb ov ob tp cap fuel deep kd ext L) (hf : 0 < fuel ∧ fuel ≤ 9223372036854775807) (hd : 0 ≤ deep ∧ deep < 10) (g : FuncId) (lb : Array Value) (eg : ∀ args w, (callFunc g args).run Tryz.prog w = .ok (.enter g args) w) (Post : Bool → Int → Bool → List (Ky × Ds) → World → Prop) (hP : ∀ x f e l W W', Post x f e l W → Keeps n0 W W' → Post x f e l W')
    (cG : ∀ W1, StX n0 W1 hb ov ob tp cap (fuel - 1) (deep + 1) kd ext L → Keeps n0 w W1 → Calls Tryz.prog g lb W1 (GivesE (α := Bool) (fun x => .bool x) Post n0 W1 hb ov ob cap (deep + 1) kd)) :
    Calls Tryz.prog 106 #[.pointer (some ⟨hb, 0, none⟩), .func (.func g) #[] lb] w (GivesE (α := Bool) (fun x => .bool x) Post n0 w hb ov ob cap deep kd) := by
  have cE := enter_g s hf hd
  have HD := Lib.hid hd
  clear s hf hd
  go_enter_defers Tryz.func106, Tryz.ntmps106
  go_wp2_with fail
  refine cE.mono ?_
  rintro e w1 ⟨rfl, s1, k1⟩
  have cG1 := cG w1 s1 k1
  clear cE cG
  go_wp2_with (first | (go_at_fn g; refine cG1.mono ?_; rintro e w2 ⟨x, tp2, fl2, ex2, L2, rfl, s2, k2, p2⟩))
  refine leaves_cons (f := 142) (args := #[.pointer (some ⟨hb, 0, none⟩)]) (by simp) (by simp [go_sem]) ?_
  refine (leave_g s2 HD.out .returning).mono ?_
  rintro e u' w3 ⟨rfl, rfl, s3, k3⟩
  exact ⟨_, results_tmp2 rfl _ _ _, x, tp2, fl2, ex2, L2, rfl, s3, (k1.trans k2).trans k3, hP _ _ _ _ _ _ p2 k3⟩

theorem wbool_t {n0 : Nat} {w : World} {hb : Nat} {ov : Value} {ob : Nat} {tp : Option Addr} {cap fuel deep : Int} {kd : Kd} {ext : Bool} {L : List (Ky × Ds)} (s : StX n0 w hb ov ob tp cap fuel deep kd ext L) (hf : 0 < fuel ∧ fuel ≤ 9223372036854775807) (hd : 0 ≤ deep ∧ deep < 10) (g : FuncId) (lb : Array Value) (eg : ∀ args w, (callFunc g args).run Tryz.prog w = .ok (.enter g args) w) (P0 : Bool → Prop) (C0 : Array Value) (Post : Int → Bool → List (Ky × Ds) → Prop)
    (cG : ∀ W1, StX n0 W1 hb ov ob tp cap (fuel - 1) (deep + 1) kd ext L → Keeps n0 w W1 → Calls Tryz.prog g lb W1 (GivesT (α := Bool) (fun x => .bool x) P0 C0 Post n0 W1 hb ov ob cap (deep + 1) kd)) :
    Calls Tryz.prog 106 #[.pointer (some ⟨hb, 0, none⟩), .func (.func g) #[] lb] w (GivesT (α := Bool) (fun x => .bool x) (fun x => x = false) C0 Post n0 w hb ov ob cap deep kd) := by
  have cE := enter_g s hf hd
  have HD := Lib.hid hd
  clear s hf hd
  go_enter_defers Tryz.func106, Tryz.ntmps106
  go_wp2_with fail
  refine cE.mono ?_
  rintro e w1 ⟨rfl, s1, k1⟩
  have cG1 := cG w1 s1 k1
  clear cE cG
  go_wp2_with (first | (go_at_fn g; refine cG1.mono ?_; rintro e w2 ⟨x, bt, tp2, fl2, ex2, L2, rfl, _, s2, k2, hn2, hb2, p2⟩; unfold errT))
  refine leaves_cons (f := 142) (args := #[.pointer (some ⟨hb, 0, none⟩)]) (by simp) (by simp [go_sem]) ?_
  refine (leave_g s2 HD.out .returning).mono ?_
  rintro e u' w3 ⟨rfl, rfl, s3, k3⟩
  exact ⟨_, results_tmp2 rfl _ _ _, false, bt, tp2, fl2, ex2, L2, rfl, rfl, s3, (k1.trans k2).trans k3, hn2, hb2.keeps k3 rfl, p2⟩

theorem wkeys_g {n0 : Nat} {w : World} {hb : Nat} {ov : Value} {ob : Nat} {tp : Option Addr} {cap fuel deep : Int} {kd : Kd} {ext : Bool} {L : List (Ky × Ds)} (s : StX n0 w hb ov ob tp cap fuel deep kd ext L) (hf : 0 < fuel ∧ fuel ≤ 9223372036854775807) (hd : 0 ≤ deep ∧ deep < 10) (g : FuncId) (lb : Array Value) (eg : ∀ args w, (callFunc g args).run Tryz.prog w = .ok (.enter g args) w) (Post : Value → Int → Bool → List (Ky × Ds) → World → Prop) (hP : ∀ x f e l W W', Post x f e l W → Keeps n0 W W' → Post x f e l W')
    (cG : ∀ W1, StX n0 W1 hb ov ob tp cap (fuel - 1) (deep + 1) kd ext L → Keeps n0 w W1 → Calls Tryz.prog g lb W1 (GivesE (α := Value) (fun x => x) Post n0 W1 hb ov ob cap (deep + 1) kd)) :
    Calls Tryz.prog 112 #[.pointer (some ⟨hb, 0, none⟩), .func (.func g) #[] lb] w (GivesE (α := Value) (fun x => x) Post n0 w hb ov ob cap deep kd) := by
  have cE := enter_g s hf hd
  have HD := Lib.hid hd
  clear s hf hd
  go_enter_defers Tryz.func112, Tryz.ntmps112
  go_wp2_with fail
  refine cE.mono ?_
  rintro e w1 ⟨rfl, s1, k1⟩
  have cG1 := cG w1 s1 k1
  clear cE cG
  go_wp2_with (first | (go_at_fn g; refine cG1.mono ?_; rintro e w2 ⟨x, tp2, fl2, ex2, L2, rfl, s2, k2, p2⟩))
  refine leaves_cons (f := 142) (args := #[.pointer (some ⟨hb, 0, none⟩)]) (by simp) (by simp [go_sem]) ?_
  refine (leave_g s2 HD.out .returning).mono ?_
  rintro e u' w3 ⟨rfl, rfl, s3, k3⟩
  exact ⟨_, results_tmp2 rfl _ _ _, x, tp2, fl2, ex2, L2, rfl, s3, (k1.trans k2).trans k3, hP _ _ _ _ _ _ p2 k3⟩

theorem wval_g {n0 : Nat} {w : World} {hb : Nat} {ov : Value} {ob : Nat} {tp : Option Addr} {cap fuel deep : Int} {kd : Kd} {ext : Bool} {L : List (Ky × Ds)} (s : StX n0 w hb ov ob tp cap fuel deep kd ext L) (hf : 0 < fuel ∧ fuel ≤ 9223372036854775807) (hd : 0 ≤ deep ∧ deep < 10) (g : FuncId) (lb : Array Value) (eg : ∀ args w, (callFunc g args).run Tryz.prog w = .ok (.enter g args) w) (Post : V → Int → Bool → List (Ky × Ds) → Prop)
    (cG : ∀ W1, StX n0 W1 hb ov ob tp cap (fuel - 1) (deep + 1) kd ext L → Keeps n0 w W1 → Calls Tryz.prog g lb W1 (GivesE (α := V) (fun x => .agg (vArr x)) (fun x f e l _ => Post x f e l) n0 W1 hb ov ob cap (deep + 1) kd)) :
    Calls Tryz.prog 114 #[.pointer (some ⟨hb, 0, none⟩), .func (.func g) #[] lb] w (GivesE (α := V) (fun x => .agg (vArr x)) (fun x f e l _ => Post x f e l) n0 w hb ov ob cap deep kd) := by
  have HD := Lib.hid (And.intro hf hd)
  clear hf hd
  go_enter_defers Tryz.func114, Tryz.ntmps114
  go_wp2_with (first | ((with_reducible show wpList _ _ _ (⟨some 4, .alloc 36, _, _, _, _⟩ :: _) _ _); refine wpList_alloc_blk rfl 36 rfl (vArr Dc.v0) zero36 ?_; intro w0 hR hL0 hs0; clear hs0; have s0 := s.below hL0; have hlt := hR.lt; have cur := (Bag.start s).push hL0 hR (Nat.le_refl _) rfl) | (go_at_call 141; refine (enter_g s0 HD.out.1 HD.out.2).mono ?_; rintro e w1 ⟨rfl, s1, k1⟩; have cur1 := cur.go s1 k1; have cG1 := cG w1 s1 cur1.k; clear cG) | (go_at_fn g; refine cG1.mono ?_; rintro e w2 ⟨x, tp2, fl2, ex2, L2, rfl, s2, k2, p2⟩; have cur2 := cur1.go s2 k2; have hle2 : w.heap.size ≤ w2.heap.size := Nat.le_of_lt (cur2.lt 0 rfl)) | ((with_reducible show wpList _ _ _ (⟨some 8, .alloc 36, _, _, _, _⟩ :: _) _ _); refine wpList_alloc_blk rfl 36 rfl (vArr Dc.v0) zero36 ?_; intro wA hBA hLA hsA; clear hsA; have cur3 := cur2.push hLA hBA (Nat.le_refl _) rfl) | ((with_reducible show wpList _ _ _ (⟨_, .store 36 (.tmp 8) _, _, _, _, _⟩ :: _) _ _); refine wpList_store_blk rfl 36 _ _ rfl _ (vArr x) _ 36 rfl rfl hBA Tryz.size36 rfl (vArr_one x) ?_; intro wB hBB hOB; have cur4 := cur3.set 0 rfl hOB hBB hle2) | ((with_reducible show wpList _ _ _ (⟨_, .load 36 (.tmp 8), _, _, _, _⟩ :: _) _ _); refine wpList_load_blk rfl 36 _ rfl _ rfl hBB Tryz.row36 Tryz.size36 ?_) | ((with_reducible show wpList _ _ _ (⟨_, .store 36 (.tmp 4) _, _, _, _, _⟩ :: _) _ _); refine wpList_store_blk rfl 36 _ _ rfl w.heap.size (vArr x) (vArr Dc.v0) 36 rfl rfl (cur4.blk 1 rfl) Tryz.size36 rfl (vArr_one x) ?_; intro wC hBC hOC; have cur5 := cur4.set 1 rfl hOC hBC (Nat.le_refl _)))
  refine leaves_cons (f := 142) (args := #[.pointer (some ⟨hb, 0, none⟩)]) (by simp) (by simp [go_sem]) ?_
  refine (leave_g cur5.s HD.out.2 .returning).mono ?_
  rintro e u' w3 ⟨rfl, rfl, s3, k3⟩
  have cur6 := cur5.go s3 k3
  exact ⟨_, results_cell_tmp Tryz.results114 rfl (cur6.blk 1 rfl) Tryz.row36 Tryz.size36, x, tp2, fl2, ex2, L2, rfl, s3, cur6.k, p2⟩

theorem wown_g {n0 : Nat} {w : World} {hb : Nat} {ov : Value} {ob : Nat} {tp : Option Addr} {cap fuel deep : Int} {kd : Kd} {ext : Bool} {L : List (Ky × Ds)} (s : StX n0 w hb ov ob tp cap fuel deep kd ext L) (hf : 0 < fuel ∧ fuel ≤ 9223372036854775807) (hd : 0 ≤ deep ∧ deep < 10) (g : FuncId) (lb : Array Value) (eg : ∀ args w, (callFunc g args).run Tryz.prog w = .ok (.enter g args) w) (Post : (Ds × Bool) → Int → Bool → List (Ky × Ds) → Prop)
    (cG : ∀ W1, StX n0 W1 hb ov ob tp cap (fuel - 1) (deep + 1) kd ext L → Keeps n0 w W1 → Calls Tryz.prog g lb W1 (GivesE (α := (Ds × Bool)) (fun x => .agg (wArr x)) (fun x f e l _ => Post x f e l) n0 W1 hb ov ob cap (deep + 1) kd)) :
    Calls Tryz.prog 117 #[.pointer (some ⟨hb, 0, none⟩), .func (.func g) #[] lb] w (GivesE (α := (Ds × Bool)) (fun x => .agg (wArr x)) (fun x f e l _ => Post x f e l) n0 w hb ov ob cap deep kd) := by
  have HD := Lib.hid (And.intro hf hd)
  clear hf hd
  go_enter_defers Tryz.func117, Tryz.ntmps117
  go_wp2_with (first | ((with_reducible show wpList _ _ _ (⟨some 4, .alloc 192, _, _, _, _⟩ :: _) _ _); refine wpList_alloc_blk rfl 192 rfl (wArr (Dc.d0, false)) zero192 ?_; intro w0 hR hL0 hs0; clear hs0; have s0 := s.below hL0; have hlt := hR.lt; have cur := (Bag.start s).push hL0 hR (Nat.le_refl _) rfl) | (go_at_call 141; refine (enter_g s0 HD.out.1 HD.out.2).mono ?_; rintro e w1 ⟨rfl, s1, k1⟩; have cur1 := cur.go s1 k1; have cG1 := cG w1 s1 cur1.k; clear cG) | (go_at_fn g; refine cG1.mono ?_; rintro e w2 ⟨x, tp2, fl2, ex2, L2, rfl, s2, k2, p2⟩; have cur2 := cur1.go s2 k2; have hle2 : w.heap.size ≤ w2.heap.size := Nat.le_of_lt (cur2.lt 0 rfl)) | ((with_reducible show wpList _ _ _ (⟨some 8, .alloc 192, _, _, _, _⟩ :: _) _ _); refine wpList_alloc_blk rfl 192 rfl (wArr (Dc.d0, false)) zero192 ?_; intro wA hBA hLA hsA; clear hsA; have cur3 := cur2.push hLA hBA (Nat.le_refl _) rfl) | ((with_reducible show wpList _ _ _ (⟨_, .store 192 (.tmp 8) _, _, _, _, _⟩ :: _) _ _); refine wpList_store_blk rfl 192 _ _ rfl _ (wArr x) _ 192 rfl rfl hBA Tryz.size192 rfl (wCells_one x) ?_; intro wB hBB hOB; have cur4 := cur3.set 0 rfl hOB hBB hle2) | ((with_reducible show wpList _ _ _ (⟨_, .load 192 (.tmp 8), _, _, _, _⟩ :: _) _ _); refine wpList_load_blk rfl 192 _ rfl _ rfl hBB Tryz.row192 Tryz.size192 ?_) | ((with_reducible show wpList _ _ _ (⟨_, .store 192 (.tmp 4) _, _, _, _, _⟩ :: _) _ _); refine wpList_store_blk rfl 192 _ _ rfl w.heap.size (wArr x) (wArr (Dc.d0, false)) 192 rfl rfl (cur4.blk 1 rfl) Tryz.size192 rfl (wCells_one x) ?_; intro wC hBC hOC; have cur5 := cur4.set 1 rfl hOC hBC (Nat.le_refl _)))
  refine leaves_cons (f := 142) (args := #[.pointer (some ⟨hb, 0, none⟩)]) (by simp) (by simp [go_sem]) ?_
  refine (leave_g cur5.s HD.out.2 .returning).mono ?_
  rintro e u' w3 ⟨rfl, rfl, s3, k3⟩
  have cur6 := cur5.go s3 k3
  exact ⟨_, results_cell_tmp Tryz.results117 rfl (cur6.blk 1 rfl) Tryz.row192 Tryz.size192, x, tp2, fl2, ex2, L2, rfl, s3, cur6.k, p2⟩

theorem wval_t {n0 : Nat} {w : World} {hb : Nat} {ov : Value} {ob : Nat} {tp : Option Addr} {cap fuel deep : Int} {kd : Kd} {ext : Bool} {L : List (Ky × Ds)} (s : StX n0 w hb ov ob tp cap fuel deep kd ext L) (hf : 0 < fuel ∧ fuel ≤ 9223372036854775807) (hd : 0 ≤ deep ∧ deep < 10) (g : FuncId) (lb : Array Value) (eg : ∀ args w, (callFunc g args).run Tryz.prog w = .ok (.enter g args) w) (P0 : V → Prop) (C0 : Array Value) (Post : Int → Bool → List (Ky × Ds) → Prop)
    (cG : ∀ W1, StX n0 W1 hb ov ob tp cap (fuel - 1) (deep + 1) kd ext L → Keeps n0 w W1 → Calls Tryz.prog g lb W1 (GivesT (α := V) (fun x => .agg (vArr x)) P0 C0 Post n0 W1 hb ov ob cap (deep + 1) kd)) :
    Calls Tryz.prog 114 #[.pointer (some ⟨hb, 0, none⟩), .func (.func g) #[] lb] w (GivesT (α := V) (fun x => .agg (vArr x)) (fun x => x = Dc.v0) C0 Post n0 w hb ov ob cap deep kd) := by
  have HD := Lib.hid (And.intro hf hd)
  clear hf hd
  go_enter_defers Tryz.func114, Tryz.ntmps114
  go_wp2_with (first | ((with_reducible show wpList _ _ _ (⟨some 4, .alloc 36, _, _, _, _⟩ :: _) _ _); refine wpList_alloc_blk rfl 36 rfl (vArr Dc.v0) zero36 ?_; intro w0 hR hL0 hs0; clear hs0; have s0 := s.below hL0; have hlt := hR.lt; have cur := (Bag.start s).push hL0 hR (Nat.le_refl _) rfl) | (go_at_call 141; refine (enter_g s0 HD.out.1 HD.out.2).mono ?_; rintro e w1 ⟨rfl, s1, k1⟩; have cur1 := cur.go s1 k1; have cG1 := cG w1 s1 cur1.k; clear cG) | (go_at_fn g; refine cG1.mono ?_; rintro e w2 ⟨x, bt, tp2, fl2, ex2, L2, rfl, _, s2, k2, hn2, hth, p2⟩; unfold errT; have cur2 := cur1.go s2 k2; have hle2 : w.heap.size ≤ w2.heap.size := Nat.le_of_lt (cur2.lt 0 rfl)) | ((with_reducible show wpList _ _ _ (⟨some 8, .alloc 36, _, _, _, _⟩ :: _) _ _); refine wpList_alloc_blk rfl 36 rfl (vArr Dc.v0) zero36 ?_; intro wA hBA hLA hsA; clear hsA; have cur3 := cur2.push hLA hBA (Nat.le_refl _) rfl; have ht3 : Blk wA bt C0 206 := hth.next hLA) | ((with_reducible show wpList _ _ _ (⟨_, .store 36 (.tmp 8) _, _, _, _, _⟩ :: _) _ _); refine wpList_store_blk rfl 36 _ _ rfl _ (vArr x) _ 36 rfl rfl hBA Tryz.size36 rfl (vArr_one x) ?_; intro wB hBB hOB; have cur4 := cur3.set 0 rfl hOB hBB hle2; have hle4 : w.heap.size ≤ wB.heap.size := Nat.le_of_lt (cur4.lt 1 rfl); have ht4 : Blk wB bt C0 206 := ht3.only hOB (by simpa using ht3.ne hBA (by decide))) | ((with_reducible show wpList _ _ _ (⟨some 10, .alloc 36, _, _, _, _⟩ :: _) _ _); refine wpList_alloc_blk rfl 36 rfl (vArr Dc.v0) zero36 ?_; intro wD hBD hLD hsD; clear hsD; have cur4b := cur4.push hLD hBD (Nat.le_refl _) rfl; have ht4b : Blk wD bt C0 206 := ht4.next hLD) | ((with_reducible show wpList _ _ _ (⟨_, .load 36 (.tmp 10), _, _, _, _⟩ :: _) _ _); refine wpList_load_blk rfl 36 _ rfl _ rfl hBD Tryz.row36 Tryz.size36 ?_) | ((with_reducible show wpList _ _ _ (⟨_, .store 36 (.tmp 4) _, _, _, _, _⟩ :: _) _ _); refine wpList_store_blk rfl 36 _ _ rfl w.heap.size (vArr Dc.v0) (vArr Dc.v0) 36 rfl rfl (cur4b.blk 2 rfl) Tryz.size36 rfl (vArr_one _) ?_; intro wC hBC hOC; have cur5 := cur4b.set 2 rfl hOC hBC (Nat.le_refl _); have ht5 : Blk wC bt C0 206 := ht4b.only hOC (by simpa using ht4b.ne (cur4b.blk 2 rfl) (by decide))))
  refine leaves_cons (f := 142) (args := #[.pointer (some ⟨hb, 0, none⟩)]) (by simp) (by simp [go_sem]) ?_
  refine (leave_g cur5.s HD.out.2 .returning).mono ?_
  rintro e u' w3 ⟨rfl, rfl, s3, k3⟩
  have cur6 := cur5.go s3 k3
  exact ⟨_, results_cell_tmp Tryz.results114 rfl (cur6.blk 2 rfl) Tryz.row36 Tryz.size36, Dc.v0, bt, tp2, fl2, ex2, L2, rfl, rfl, s3, cur6.k, hn2, ht5.keeps k3 rfl, p2⟩

theorem wown_t {n0 : Nat} {w : World} {hb : Nat} {ov : Value} {ob : Nat} {tp : Option Addr} {cap fuel deep : Int} {kd : Kd} {ext : Bool} {L : List (Ky × Ds)} (s : StX n0 w hb ov ob tp cap fuel deep kd ext L) (hf : 0 < fuel ∧ fuel ≤ 9223372036854775807) (hd : 0 ≤ deep ∧ deep < 10) (g : FuncId) (lb : Array Value) (eg : ∀ args w, (callFunc g args).run Tryz.prog w = .ok (.enter g args) w) (P0 : (Ds × Bool) → Prop) (C0 : Array Value) (Post : Int → Bool → List (Ky × Ds) → Prop)
    (cG : ∀ W1, StX n0 W1 hb ov ob tp cap (fuel - 1) (deep + 1) kd ext L → Keeps n0 w W1 → Calls Tryz.prog g lb W1 (GivesT (α := (Ds × Bool)) (fun x => .agg (wArr x)) P0 C0 Post n0 W1 hb ov ob cap (deep + 1) kd)) :
    Calls Tryz.prog 117 #[.pointer (some ⟨hb, 0, none⟩), .func (.func g) #[] lb] w (GivesT (α := (Ds × Bool)) (fun x => .agg (wArr x)) (fun x => x = (Dc.d0, false)) C0 Post n0 w hb ov ob cap deep kd) := by
  have HD := Lib.hid (And.intro hf hd)
  clear hf hd
  go_enter_defers Tryz.func117, Tryz.ntmps117
  go_wp2_with (first | ((with_reducible show wpList _ _ _ (⟨some 4, .alloc 192, _, _, _, _⟩ :: _) _ _); refine wpList_alloc_blk rfl 192 rfl (wArr (Dc.d0, false)) zero192 ?_; intro w0 hR hL0 hs0; clear hs0; have s0 := s.below hL0; have hlt := hR.lt; have cur := (Bag.start s).push hL0 hR (Nat.le_refl _) rfl) | (go_at_call 141; refine (enter_g s0 HD.out.1 HD.out.2).mono ?_; rintro e w1 ⟨rfl, s1, k1⟩; have cur1 := cur.go s1 k1; have cG1 := cG w1 s1 cur1.k; clear cG) | (go_at_fn g; refine cG1.mono ?_; rintro e w2 ⟨x, bt, tp2, fl2, ex2, L2, rfl, _, s2, k2, hn2, hth, p2⟩; unfold errT; have cur2 := cur1.go s2 k2; have hle2 : w.heap.size ≤ w2.heap.size := Nat.le_of_lt (cur2.lt 0 rfl)) | ((with_reducible show wpList _ _ _ (⟨some 8, .alloc 192, _, _, _, _⟩ :: _) _ _); refine wpList_alloc_blk rfl 192 rfl (wArr (Dc.d0, false)) zero192 ?_; intro wA hBA hLA hsA; clear hsA; have cur3 := cur2.push hLA hBA (Nat.le_refl _) rfl; have ht3 : Blk wA bt C0 206 := hth.next hLA) | ((with_reducible show wpList _ _ _ (⟨_, .store 192 (.tmp 8) _, _, _, _, _⟩ :: _) _ _); refine wpList_store_blk rfl 192 _ _ rfl _ (wArr x) _ 192 rfl rfl hBA Tryz.size192 rfl (wCells_one x) ?_; intro wB hBB hOB; have cur4 := cur3.set 0 rfl hOB hBB hle2; have hle4 : w.heap.size ≤ wB.heap.size := Nat.le_of_lt (cur4.lt 1 rfl); have ht4 : Blk wB bt C0 206 := ht3.only hOB (by simpa using ht3.ne hBA (by decide))) | ((with_reducible show wpList _ _ _ (⟨some 10, .alloc 192, _, _, _, _⟩ :: _) _ _); refine wpList_alloc_blk rfl 192 rfl (wArr (Dc.d0, false)) zero192 ?_; intro wD hBD hLD hsD; clear hsD; have cur4b := cur4.push hLD hBD (Nat.le_refl _) rfl; have ht4b : Blk wD bt C0 206 := ht4.next hLD) | ((with_reducible show wpList _ _ _ (⟨_, .load 192 (.tmp 10), _, _, _, _⟩ :: _) _ _); refine wpList_load_blk rfl 192 _ rfl _ rfl hBD Tryz.row192 Tryz.size192 ?_) | ((with_reducible show wpList _ _ _ (⟨_, .store 192 (.tmp 4) _, _, _, _, _⟩ :: _) _ _); refine wpList_store_blk rfl 192 _ _ rfl w.heap.size (wArr (Dc.d0, false)) (wArr (Dc.d0, false)) 192 rfl rfl (cur4b.blk 2 rfl) Tryz.size192 rfl (wCells_one _) ?_; intro wC hBC hOC; have cur5 := cur4b.set 2 rfl hOC hBC (Nat.le_refl _); have ht5 : Blk wC bt C0 206 := ht4b.only hOC (by simpa using ht4b.ne (cur4b.blk 2 rfl) (by decide))))
  refine leaves_cons (f := 142) (args := #[.pointer (some ⟨hb, 0, none⟩)]) (by simp) (by simp [go_sem]) ?_
  refine (leave_g cur5.s HD.out.2 .returning).mono ?_
  rintro e u' w3 ⟨rfl, rfl, s3, k3⟩
  have cur6 := cur5.go s3 k3
  exact ⟨_, results_cell_tmp Tryz.results117 rfl (cur6.blk 2 rfl) Tryz.row192 Tryz.size192, (Dc.d0, false), bt, tp2, fl2, ex2, L2, rfl, rfl, s3, cur6.k, hn2, ht5.keeps k3 rfl, p2⟩


end Go.Proofs.YtoalboilghgalaaGreatDoor

/- A namespace's Get; Set, SetPrototypeOf; HasProperty and Delete of a string. -/
namespace Go.Proofs.YtoalboilghgalaaGreatDoor
open Go.RowKit
open Go.Proofs.Dc (V Ds Ky)
attribute [local go_sem] run_store_float

attribute [local go_sem] run_store_float
def thrArr : Array Value := #[.int .i64 5, .int .i64 0, .bool false, .float .f64 0, .string ByteArray.empty, .int .i64 0]
theorem xload {W : World} {xb g cap i : Nat} {a : Option Addr} {l : List Ex} {x : Ex} (h : XAt W xb g cap a l) (hx : l[i]? = some x) : ∀ j v, (xC x)[j]? = some v → W.cell? ⟨g, i * 6 + j, none⟩ = some v := by
  rcases h.row with ⟨_, h0⟩ | ⟨_, C, hC⟩
  · subst h0; simp at hx
  · exact hC.load hx
theorem xrange {W : World} {xb g cap i : Nat} {a : Option Addr} {l : List Ex} {x : Ex} (h : XAt W xb g cap a l) (hx : l[i]? = some x) : W.rangeAt g (i * 6 + 1) [.int .i64 x.val.kind, .bool x.val.bool, .float .f64 x.val.num, .string x.val.str, .int .i64 x.val.id] := by
  intro j v hv
  have := xload h hx (j + 1) v hv
  rw [show i * 6 + 1 + j = i * 6 + (j + 1) by omega]
  exact this
theorem nget_none {w : World} {xb g cap : Nat} {a : Option Addr} {l : List Ex} (hT : Tabs w) (hX : XAt w xb g cap a l) (q : ByteArray) (hq : q.size + 2 ≤ 1099511627776) (hv : Value) (o : Int) (rv : V) (hI : xIdx l q = none) : Calls Tryz.prog 281 #[.pointer (some ⟨xb, 0, none⟩), hv, .int .i64 o, .agg #[.string q, .int .i64 0], .agg (vArr rv)] w fun e w' => e = .returned (.tuple #[.agg (vArr Dc.vU), .nilIface]) ∧ Below w.heap.size w w' := by
  have cF : ∀ W, Below w.heap.size w W → Calls Tryz.prog 94 #[.pointer (some ⟨xb, 0, none⟩), .string q] W fun e w' => e = .returned (.pointer none) ∧ Below W.heap.size W w' := fun W hb => by
    have := find94 q (hT.below hb) hq (hX.next hb)
    rw [hI] at this
    exact this
  have cU := undef_any
  clear hT hX hq hI
  go_enter Tryz.func281, Tryz.ntmps281
  go_wp2_with (first | ((with_reducible show wpList _ _ _ (⟨_, .box 40 _, _, _, _, _⟩ :: _) _ _); refine wpList_box_blk rfl 40 _ rfl #[.string q, .int .i64 0] rfl ?_; intro w1 hK hL1 hs1; clear hs1) | ((with_reducible show wpList _ _ _ (⟨_, .box 36 _, _, _, _, _⟩ :: _) _ _); refine wpList_box_blk rfl 36 _ rfl (vArr rv) rfl ?_; intro w2 hV hL2 hs2; clear hs2) | ((with_reducible show wpList _ _ _ (⟨some 10, .alloc 36, _, _, _, _⟩ :: _) _ _); refine wpList_alloc_blk rfl 36 rfl (vArr Dc.v0) zero36 ?_; intro w3 hR hL3 hs3; clear hs3; have hb13 : Below w.heap.size w w3 := more (more hL1 hL2) hL3; have hK3 := (hK.next hL2).next hL3; have hk0 := hK3.cell 0; have hk1 := hK3.cell 1; have hge : w.heap.size ≤ w2.heap.size := (more hL1 hL2).size) | (go_at_call 94; refine (cF _ hb13).mono ?_; rintro e w4 ⟨rfl, hb4⟩; have hR4 := hR.next hb4; have hb14 := more hb13 hb4) | (go_at_call 224; refine (cU _).mono ?_; rintro e w5 ⟨rfl, hb5⟩; have hR5 := hR4.next hb5) | ((with_reducible show wpList _ _ _ (⟨_, .store 36 _ _, _, _, _, _⟩ :: _) _ _); refine wpList_store_blk rfl 36 _ _ rfl _ (vArr Dc.vU) _ 36 rfl rfl hR5 Tryz.size36 rfl (vArr_one _) ?_; intro wC hBC hOC))
  exact bodyPost_ret (results_cell_tmp Tryz.results281 rfl hBC Tryz.row36 Tryz.size36) rfl ⟨rfl, below_only (more hb14 hb5) hOC (by simpa using hge)⟩
theorem nget_some {w : World} {xb g cap : Nat} {a : Option Addr} {l : List Ex} (hT : Tabs w) (hX : XAt w xb g cap a l) (q : ByteArray) (hq : q.size + 2 ≤ 1099511627776) (hv : Value) (o : Int) (rv : V) {i : Nat} {x : Ex} (hI : xIdx l q = some i) (hx : l[i]? = some x) (h0 : ¬ x.val.kind = 0) : Calls Tryz.prog 281 #[.pointer (some ⟨xb, 0, none⟩), hv, .int .i64 o, .agg #[.string q, .int .i64 0], .agg (vArr rv)] w fun e w' => e = .returned (.tuple #[.agg (vArr x.val), .nilIface]) ∧ Below w.heap.size w w' := by
  have cF : ∀ W, Below w.heap.size w W → Calls Tryz.prog 94 #[.pointer (some ⟨xb, 0, none⟩), .string q] W fun e w' => e = .returned (.pointer (some ⟨g, i * 6 + 0, none⟩)) ∧ Below W.heap.size W w' := fun W hb => by
    have := find94 q (hT.below hb) hq (hX.next hb)
    rw [hI] at this
    exact this
  clear hT hq hI
  go_enter Tryz.func281, Tryz.ntmps281
  go_wp2_with (first | ((with_reducible show wpList _ _ _ (⟨_, .box 40 _, _, _, _, _⟩ :: _) _ _); refine wpList_box_blk rfl 40 _ rfl #[.string q, .int .i64 0] rfl ?_; intro w1 hK hL1 hs1; clear hs1) | ((with_reducible show wpList _ _ _ (⟨_, .box 36 _, _, _, _, _⟩ :: _) _ _); refine wpList_box_blk rfl 36 _ rfl (vArr rv) rfl ?_; intro w2 hV hL2 hs2; clear hs2) | ((with_reducible show wpList _ _ _ (⟨some 10, .alloc 36, _, _, _, _⟩ :: _) _ _); refine wpList_alloc_blk rfl 36 rfl (vArr Dc.v0) zero36 ?_; intro w3 hR hL3 hs3; clear hs3; have hb13 : Below w.heap.size w w3 := more (more hL1 hL2) hL3; have hK3 := (hK.next hL2).next hL3; have hk0 := hK3.cell 0; have hk1 := hK3.cell 1; have hge : w.heap.size ≤ w2.heap.size := (more hL1 hL2).size) | (go_at_call 94; refine (cF _ hb13).mono ?_; rintro e w4 ⟨rfl, hb4⟩; have hR4 := hR.next hb4; have hb14 := more hb13 hb4; have hX4 := hX.next hb14; have hk2 := xload hX4 hx 1 _ rfl; have hrg := xrange hX4 hx; clear hX4) | ((with_reducible show wpList _ _ _ (⟨_, .load 36 _, _, _, _, _⟩ :: _) _ _); refine wpList_load_mid rfl 36 _ rfl g (i * 6 + 1) rfl [.int .i64 x.val.kind, .bool x.val.bool, .float .f64 x.val.num, .string x.val.str, .int .i64 x.val.id] _ hrg Tryz.underlying36 rfl Tryz.size36 ?_) | ((with_reducible show wpList _ _ _ (⟨_, .store 36 _ _, _, _, _, _⟩ :: _) _ _); refine wpList_store_blk rfl 36 _ _ rfl _ (vArr x.val) _ 36 rfl rfl hR4 Tryz.size36 rfl (vArr_one _) ?_; intro wC hBC hOC))
  exact bodyPost_ret (results_cell_tmp Tryz.results281 rfl hBC Tryz.row36 Tryz.size36) rfl ⟨rfl, below_only hb14 hOC (by simpa using hge)⟩
theorem nget_thr {w : World} {xb g cap : Nat} {a : Option Addr} {l : List Ex} (hT : Tabs w) (hX : XAt w xb g cap a l) (q : ByteArray) (hq : q.size + 2 ≤ 1099511627776) (hv : Value) (o : Int) (rv : V) {i : Nat} {x : Ex} (hI : xIdx l q = some i) (hx : l[i]? = some x) (h0 : x.val.kind = 0) : Calls Tryz.prog 281 #[.pointer (some ⟨xb, 0, none⟩), hv, .int .i64 o, .agg #[.string q, .int .i64 0], .agg (vArr rv)] w fun e w' => ∃ b, e = .returned (.tuple #[.agg (vArr Dc.v0), errT b]) ∧ w.heap.size ≤ b ∧ Blk w' b thrArr 206 ∧ Below w.heap.size w w' := by
  have cF : ∀ W, Below w.heap.size w W → Calls Tryz.prog 94 #[.pointer (some ⟨xb, 0, none⟩), .string q] W fun e w' => e = .returned (.pointer (some ⟨g, i * 6 + 0, none⟩)) ∧ Below W.heap.size W w' := fun W hb => by
    have := find94 q (hT.below hb) hq (hX.next hb)
    rw [hI] at this
    exact this
  clear hT hq hI
  go_enter Tryz.func281, Tryz.ntmps281
  go_wp2_with (first | ((with_reducible show wpList _ _ _ (⟨_, .box 40 _, _, _, _, _⟩ :: _) _ _); refine wpList_box_blk rfl 40 _ rfl #[.string q, .int .i64 0] rfl ?_; intro w1 hK hL1 hs1; clear hs1) | ((with_reducible show wpList _ _ _ (⟨_, .box 36 _, _, _, _, _⟩ :: _) _ _); refine wpList_box_blk rfl 36 _ rfl (vArr rv) rfl ?_; intro w2 hV hL2 hs2; clear hs2) | ((with_reducible show wpList _ _ _ (⟨some 10, .alloc 36, _, _, _, _⟩ :: _) _ _); refine wpList_alloc_blk rfl 36 rfl (vArr Dc.v0) zero36 ?_; intro w3 hR hL3 hs3; clear hs3; have hb13 : Below w.heap.size w w3 := more (more hL1 hL2) hL3; have hK3 := (hK.next hL2).next hL3; have hk0 := hK3.cell 0; have hk1 := hK3.cell 1; have hge : w.heap.size ≤ w2.heap.size := (more hL1 hL2).size) | (go_at_call 94; refine (cF _ hb13).mono ?_; rintro e w4 ⟨rfl, hb4⟩; have hR4 := hR.next hb4; have hb14 := more hb13 hb4; have hX4 := hX.next hb14; have hk2 := xload hX4 hx 1 _ rfl; have hrg := xrange hX4 hx; clear hX4) | ((with_reducible show wpList _ _ _ (⟨_, .box 206 _, _, _, _, _⟩ :: _) _ _); refine wpList_box_blk rfl 206 _ rfl thrArr rfl ?_; intro w5 hTh hL5 hs5; clear hs5; have hR5 := hR4.next hL5; have hle5 := hb14.size) | ((with_reducible show wpList _ _ _ (⟨_, .store 36 _ _, _, _, _, _⟩ :: _) _ _); refine wpList_store_blk rfl 36 _ _ rfl _ (vArr Dc.v0) _ 36 rfl rfl hR5 Tryz.size36 rfl (vArr_one _) ?_; intro wC hBC hOC))
  exact bodyPost_ret (results_cell_tmp Tryz.results281 rfl hBC Tryz.row36 Tryz.size36) rfl ⟨_, rfl, hle5, hTh.only hOC (by simpa using hTh.ne hR5 (by decide)), below_only (more hb14 hL5) hOC (by simpa using hge)⟩
theorem nset_any (w : World) (xv hv : Value) (o : Int) (k : Ky) (v r : V) : Calls Tryz.prog 286 #[xv, hv, .int .i64 o, .agg (kArr k), .agg (vArr v), .agg (vArr r)] w fun e w' => e = .returned (.tuple #[.bool false, .nilIface]) ∧ Below w.heap.size w w' := by
  go_enter Tryz.func286, Tryz.ntmps286
  go_wp2_with (first | ((with_reducible show wpList _ _ _ (⟨_, .box 40 _, _, _, _, _⟩ :: _) _ _); refine wpList_box_blk rfl 40 _ rfl (kArr k) rfl ?_; intro w1 hK hL1 hs1; clear hs1) | ((with_reducible show wpList _ _ _ (⟨_, .box 36 (.tmp 4), _, _, _, _⟩ :: _) _ _); refine wpList_box_blk rfl 36 _ rfl (vArr v) rfl ?_; intro w2 hV hL2 hs2; clear hs2) | ((with_reducible show wpList _ _ _ (⟨_, .box 36 (.tmp 5), _, _, _, _⟩ :: _) _ _); refine wpList_box_blk rfl 36 _ rfl (vArr r) rfl ?_; intro w3 hV3 hL3 hs3; clear hs3))
  go_ret2
  exact ⟨rfl, more (more hL1 hL2) hL3⟩
theorem nsproto_any (w : World) (xv hv : Value) (o : Int) (v : V) : Calls Tryz.prog 287 #[xv, hv, .int .i64 o, .agg (vArr v)] w fun e w' => e = .returned (.tuple #[.bool (v.kind == 2), .nilIface]) ∧ Below w.heap.size w w' := by
  go_enter Tryz.func287, Tryz.ntmps287
  go_wp2_with ((with_reducible show wpList _ _ _ (⟨_, .box 36 _, _, _, _, _⟩ :: _) _ _); refine wpList_box_blk rfl 36 _ rfl (vArr v) rfl ?_; intro w1 hV hL1 hs1; clear hs1; have hc := hV.cellV)
  go_ret2
  exact ⟨rfl, hL1⟩
theorem nhas_some {w : World} {xb g cap : Nat} {a : Option Addr} {l : List Ex} (hT : Tabs w) (hX : XAt w xb g cap a l) (q : ByteArray) (hq : q.size + 2 ≤ 1099511627776) (hv : Value) (o : Int) {i : Nat} (hI : xIdx l q = some i) : Calls Tryz.prog 283 #[.pointer (some ⟨xb, 0, none⟩), hv, .int .i64 o, .agg #[.string q, .int .i64 0]] w fun e w' => e = .returned (.tuple #[.bool true, .nilIface]) ∧ Below w.heap.size w w' := by
  have cF : ∀ W, Below w.heap.size w W → Calls Tryz.prog 94 #[.pointer (some ⟨xb, 0, none⟩), .string q] W fun e w' => e = .returned (.pointer (some ⟨g, i * 6 + 0, none⟩)) ∧ Below W.heap.size W w' := fun W hb => by
    have := find94 q (hT.below hb) hq (hX.next hb)
    rw [hI] at this
    exact this
  clear hT hX hq hI
  go_enter Tryz.func283, Tryz.ntmps283
  go_wp2_with (first | ((with_reducible show wpList _ _ _ (⟨_, .box 40 _, _, _, _, _⟩ :: _) _ _); refine wpList_box_blk rfl 40 _ rfl #[.string q, .int .i64 0] rfl ?_; intro w1 hK hL1 hs1; clear hs1; have hk0 := hK.cell 0; have hk1 := hK.cell 1) | (go_at_call 94; refine (cF _ hL1).mono ?_; rintro e w4 ⟨rfl, hb4⟩))
  go_ret2
  exact ⟨rfl, more hL1 hb4⟩
theorem nhas_none {w : World} {xb g cap : Nat} {a : Option Addr} {l : List Ex} (hT : Tabs w) (hX : XAt w xb g cap a l) (q : ByteArray) (hq : q.size + 2 ≤ 1099511627776) (hv : Value) (o : Int) (hI : xIdx l q = none) : Calls Tryz.prog 283 #[.pointer (some ⟨xb, 0, none⟩), hv, .int .i64 o, .agg #[.string q, .int .i64 0]] w fun e w' => e = .returned (.tuple #[.bool false, .nilIface]) ∧ Below w.heap.size w w' := by
  have cF : ∀ W, Below w.heap.size w W → Calls Tryz.prog 94 #[.pointer (some ⟨xb, 0, none⟩), .string q] W fun e w' => e = .returned (.pointer none) ∧ Below W.heap.size W w' := fun W hb => by
    have := find94 q (hT.below hb) hq (hX.next hb)
    rw [hI] at this
    exact this
  clear hT hX hq hI
  go_enter Tryz.func283, Tryz.ntmps283
  go_wp2_with (first | ((with_reducible show wpList _ _ _ (⟨_, .box 40 _, _, _, _, _⟩ :: _) _ _); refine wpList_box_blk rfl 40 _ rfl #[.string q, .int .i64 0] rfl ?_; intro w1 hK hL1 hs1; clear hs1; have hk0 := hK.cell 0; have hk1 := hK.cell 1) | (go_at_call 94; refine (cF _ hL1).mono ?_; rintro e w4 ⟨rfl, hb4⟩))
  go_ret2
  exact ⟨rfl, more hL1 hb4⟩
theorem ndel_some {w : World} {xb g cap : Nat} {a : Option Addr} {l : List Ex} (hT : Tabs w) (hX : XAt w xb g cap a l) (q : ByteArray) (hq : q.size + 2 ≤ 1099511627776) (hv : Value) (o : Int) {i : Nat} (hI : xIdx l q = some i) : Calls Tryz.prog 280 #[.pointer (some ⟨xb, 0, none⟩), hv, .int .i64 o, .agg #[.string q, .int .i64 0]] w fun e w' => e = .returned (.tuple #[.bool false, .nilIface]) ∧ Below w.heap.size w w' := by
  have cF : ∀ W, Below w.heap.size w W → Calls Tryz.prog 94 #[.pointer (some ⟨xb, 0, none⟩), .string q] W fun e w' => e = .returned (.pointer (some ⟨g, i * 6 + 0, none⟩)) ∧ Below W.heap.size W w' := fun W hb => by
    have := find94 q (hT.below hb) hq (hX.next hb)
    rw [hI] at this
    exact this
  clear hT hX hq hI
  go_enter Tryz.func280, Tryz.ntmps280
  go_wp2_with (first | ((with_reducible show wpList _ _ _ (⟨_, .box 40 _, _, _, _, _⟩ :: _) _ _); refine wpList_box_blk rfl 40 _ rfl #[.string q, .int .i64 0] rfl ?_; intro w1 hK hL1 hs1; clear hs1; have hk0 := hK.cell 0; have hk1 := hK.cell 1) | (go_at_call 94; refine (cF _ hL1).mono ?_; rintro e w4 ⟨rfl, hb4⟩))
  go_ret2
  exact ⟨rfl, more hL1 hb4⟩
theorem ndel_none {w : World} {xb g cap : Nat} {a : Option Addr} {l : List Ex} (hT : Tabs w) (hX : XAt w xb g cap a l) (q : ByteArray) (hq : q.size + 2 ≤ 1099511627776) (hv : Value) (o : Int) (hI : xIdx l q = none) : Calls Tryz.prog 280 #[.pointer (some ⟨xb, 0, none⟩), hv, .int .i64 o, .agg #[.string q, .int .i64 0]] w fun e w' => e = .returned (.tuple #[.bool true, .nilIface]) ∧ Below w.heap.size w w' := by
  have cF : ∀ W, Below w.heap.size w W → Calls Tryz.prog 94 #[.pointer (some ⟨xb, 0, none⟩), .string q] W fun e w' => e = .returned (.pointer none) ∧ Below W.heap.size W w' := fun W hb => by
    have := find94 q (hT.below hb) hq (hX.next hb)
    rw [hI] at this
    exact this
  clear hT hX hq hI
  go_enter Tryz.func280, Tryz.ntmps280
  go_wp2_with (first | ((with_reducible show wpList _ _ _ (⟨_, .box 40 _, _, _, _, _⟩ :: _) _ _); refine wpList_box_blk rfl 40 _ rfl #[.string q, .int .i64 0] rfl ?_; intro w1 hK hL1 hs1; clear hs1; have hk0 := hK.cell 0; have hk1 := hK.cell 1) | (go_at_call 94; refine (cF _ hL1).mono ?_; rintro e w4 ⟨rfl, hb4⟩))
  go_ret2
  exact ⟨rfl, more hL1 hb4⟩

end Go.Proofs.YtoalboilghgalaaGreatDoor
