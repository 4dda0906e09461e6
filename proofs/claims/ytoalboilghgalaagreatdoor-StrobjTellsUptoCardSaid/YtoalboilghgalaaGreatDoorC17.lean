/- Lemmas for this claim, in parts: Heap2. -/
import Derived.Test.YtoalboilghgalaaGreatDoorC16
import Derived.Stop.Asserts
set_option maxRecDepth 100000
set_option maxHeartbeats 4000000
set_option linter.unusedVariables false
set_option linter.unusedSimpArgs false
/- The heap: lost, Check, base, Proto, callable, Callable, Callables. -/
namespace Go.Proofs.YtoalboilghgalaaGreatDoor
open Go.RowKit
open Go.Proofs.Dc (V Ds Ky)
attribute [local go_sem] run_store_float

def vArr (v : V) : Array Value := #[.int .i64 v.kind, .bool v.bool, .float .f64 v.num, .string v.str, .int .i64 v.id]
theorem Blk.cellV {W : World} {b : Nat} {v : V} (h : Blk W b (vArr v) 36) : ∀ j, W.cell? ⟨b, j, none⟩ = #[.int .i64 v.kind, .bool v.bool, .float .f64 v.num, .string v.str, .int .i64 v.id][j]? := h.cell
/-- an object that cannot be called and shows nothing of its own -/
structure KdOk (kd : Kd) : Prop where
  call : ∀ w, (Instr.typeAssert kd.mv 141 248 true).run Tryz.prog w = .ok (.tuple #[.nilIface, .bool false]) w
  shows : ∀ w, (Instr.typeAssert kd.mv 141 149 true).run Tryz.prog w = .ok (.tuple #[.nilIface, .bool false]) w
theorem kO_ok : KdOk kO where
  call := run_typeAssert_lacksB Tryz.underlying248 (by kernel_rfl) (by kernel_rfl) _ _
  shows := run_typeAssert_lacksB Tryz.underlying149 (by kernel_rfl) (by kernel_rfl) _ _

/-- the value is an object that is not there -/
def lostV (v : V) : Bool := decide (v.kind = 7 ∧ v.id ≠ 1)

theorem at_eq {n0 : Nat} {w : World} {hb : Nat} {ov : Value} {ob : Nat} {tp : Option Addr} {cap fuel deep : Int} {kd : Kd} {ext : Bool} {L : List (Ky × Ds)} (s : StX n0 w hb ov ob tp cap fuel deep kd ext L) (o : Int) (h : o = 1) : Calls Tryz.prog 84 #[.pointer (some ⟨hb, 0, none⟩), .int .i64 o] w fun e w' => e = .returned (.pointer (some ⟨ob, 0, none⟩)) ∧ w = w' := by
  subst h
  exact at_any s

theorem lost_any {n0 : Nat} {w : World} {hb : Nat} {ov : Value} {ob : Nat} {tp : Option Addr} {cap fuel deep : Int} {kd : Kd} {ext : Bool} {L : List (Ky × Ds)} (s : StX n0 w hb ov ob tp cap fuel deep kd ext L) (v : V) : Calls Tryz.prog 92 #[.pointer (some ⟨hb, 0, none⟩), vAgg v] w fun e w' => e = .returned (.bool (lostV v)) ∧ Below w.heap.size w w' := by
  by_cases h7 : v.kind = 7
  · have h7' : (v.kind == 7) = true := by simpa using h7
    by_cases h1 : v.id = 1
    · rw [show lostV v = false by simp [lostV, h1]]
      clear h7
      go_enter Tryz.func92, Tryz.ntmps92
      go_wp2_with (first | ((with_reducible show wpList _ _ _ (⟨_, .box 36 _, _, _, _, _⟩ :: _) _ _); refine wpList_box_blk rfl 36 _ rfl (vArr v) rfl ?_; intro w0 hK hL hs; have hcK := hK.cellV; have s0 := s.below hL) | (go_at_call 83; refine (has_one s0).mono ?_; rintro e w' ⟨rfl, rfl⟩))
      go_ret
      exact ⟨rfl, hL⟩
    · rw [show lostV v = true by simp [lostV, h1, h7]]
      clear h7
      have H1 := Lib.hid h1
      clear h1
      go_enter Tryz.func92, Tryz.ntmps92
      go_wp2_with (first | ((with_reducible show wpList _ _ _ (⟨_, .box 36 _, _, _, _, _⟩ :: _) _ _); refine wpList_box_blk rfl 36 _ rfl (vArr v) rfl ?_; intro w0 hK hL hs; have hcK := hK.cellV; have s0 := s.below hL) | (go_at_call 83; refine (has_not s0 _ H1.out).mono ?_; rintro e w' ⟨rfl, rfl⟩))
      go_ret
      exact ⟨rfl, hL⟩
  · rw [show lostV v = false by simp [lostV, h7]]
    have h7' : (v.kind == 7) = false := by simpa using h7
    clear h7
    go_enter Tryz.func92, Tryz.ntmps92
    go_wp2_with ((with_reducible show wpList _ _ _ (⟨_, .box 36 _, _, _, _, _⟩ :: _) _ _); refine wpList_box_blk rfl 36 _ rfl (vArr v) rfl ?_; intro w0 hK hL hs; have hcK := hK.cellV; have s0 := s.below hL)
    go_ret
    exact ⟨rfl, hL⟩

theorem hcheck_any {n0 : Nat} {w : World} {hb : Nat} {ov : Value} {ob : Nat} {tp : Option Addr} {cap fuel deep : Int} {kd : Kd} {ext : Bool} {L : List (Ky × Ds)} (s : StX n0 w hb ov ob tp cap fuel deep kd ext L) (v : V) (hx : v.num < 2 ^ 64) : Calls Tryz.prog 43 #[.pointer (some ⟨hb, 0, none⟩), vAgg v] w fun e w' => e = .returned (.int .i64 (if Dc.good uvalid v then (if lostV v then 4 else 0) else 5)) ∧ Below w.heap.size w w' := by
  cases hg : Dc.good uvalid v
  · have ck := fun W h => check_any v W h hx
    simp only [hg, Bool.false_eq_true, if_false] at ck ⊢
    clear hg
    go_enter Tryz.func43, Tryz.ntmps43
    go_wp2_with (first | ((with_reducible show wpList _ _ _ (⟨_, .box 36 _, _, _, _, _⟩ :: _) _ _); refine wpList_box_blk rfl 36 _ rfl (vArr v) rfl ?_; intro w0 hK hL hs; have hcK := hK.cellV; have s0 := s.below hL) | (go_at_call 40; refine (ck _ (s0.tabs)).mono ?_; rintro e w1 ⟨rfl, hb1⟩; have s1 := s0.below hb1; have hK1 := hK.next hb1; have hc1 := hK1.cellV; have hL1 := more hL hb1))
    go_ret
    exact ⟨rfl, hL1⟩
  · have ck := fun W h => check_any v W h hx
    simp only [hg, if_true] at ck ⊢
    clear hg
    cases hl : lostV v
    · have lo := fun {W : World} (s : StX n0 W hb ov ob tp cap fuel deep kd ext L) => lost_any s v
      simp only [hl, Bool.false_eq_true, if_false] at lo ⊢
      clear hl
      go_enter Tryz.func43, Tryz.ntmps43
      go_wp2_with (first | ((with_reducible show wpList _ _ _ (⟨_, .box 36 _, _, _, _, _⟩ :: _) _ _); refine wpList_box_blk rfl 36 _ rfl (vArr v) rfl ?_; intro w0 hK hL hs; have hcK := hK.cellV; have s0 := s.below hL) | (go_at_call 40; refine (ck _ (s0.tabs)).mono ?_; rintro e w1 ⟨rfl, hb1⟩; have s1 := s0.below hb1; have hK1 := hK.next hb1; have hc1 := hK1.cellV; have hL1 := more hL hb1) | (go_at_call 92; refine (lo s1).mono ?_; rintro e w2 ⟨rfl, hb2⟩; have hL2 := more hL1 hb2))
      go_ret
      exact ⟨rfl, hL2⟩
    · have lo := fun {W : World} (s : StX n0 W hb ov ob tp cap fuel deep kd ext L) => lost_any s v
      simp only [hl, if_true] at lo ⊢
      clear hl
      go_enter Tryz.func43, Tryz.ntmps43
      go_wp2_with (first | ((with_reducible show wpList _ _ _ (⟨_, .box 36 _, _, _, _, _⟩ :: _) _ _); refine wpList_box_blk rfl 36 _ rfl (vArr v) rfl ?_; intro w0 hK hL hs; have hcK := hK.cellV; have s0 := s.below hL) | (go_at_call 40; refine (ck _ (s0.tabs)).mono ?_; rintro e w1 ⟨rfl, hb1⟩; have s1 := s0.below hb1; have hK1 := hK.next hb1; have hc1 := hK1.cellV; have hL1 := more hL hb1) | (go_at_call 92; refine (lo s1).mono ?_; rintro e w2 ⟨rfl, hb2⟩; have hL2 := more hL1 hb2))
      go_ret
      exact ⟨rfl, hL2⟩

theorem callable_self {n0 : Nat} {w : World} {hb : Nat} {ov : Value} {ob : Nat} {tp : Option Addr} {cap fuel deep : Int} {kd : Kd} {ext : Bool} {L : List (Ky × Ds)} (s : StX n0 w hb ov ob tp cap fuel deep kd ext L) (hk : KdOk kd) (v : V) (hx : v.num < 2 ^ 64) (hg : Dc.good uvalid v = true) (h7 : v.kind = 7) (h1 : v.id = 1) : Calls Tryz.prog 169 #[.pointer (some ⟨hb, 0, none⟩), vAgg v] w fun e w' => e = .returned (.tuple #[.nilIface, .bool false]) ∧ Below w.heap.size w w' := by
  have hta := hk.call
  have hc0 := fun W (s : StX n0 W hb ov ob tp cap fuel deep kd ext L) => hcheck_any s v hx
  have hl : lostV v = false := by simp [lostV, h1]
  simp only [hg, hl, Bool.false_eq_true, if_false, if_true] at hc0
  have h7' : (v.kind == 7) = true := by simpa using h7
  have h7'' : (v.kind != 7) = false := by simpa using h7
  have H1 := Lib.hid h1
  clear hg hl h7 h1
  go_enter Tryz.func169, Tryz.ntmps169
  go_wp2_with (first | ((with_reducible show wpList _ _ _ (⟨_, .box 36 _, _, _, _, _⟩ :: _) _ _); refine wpList_box_blk rfl 36 _ rfl (vArr v) rfl ?_; intro w0 hK hL hs; have hcK := hK.cellV; have s0 := s.below hL) | (go_at_call 43; refine (hc0 _ s0).mono ?_; rintro e w1 ⟨rfl, hb1⟩; have s1 := s0.below hb1; have hK1 := hK.next hb1; have hc1 := hK1.cellV; have hL1 := more hL hb1) | (go_at_call 84; refine (at_eq s1 _ H1.out).mono ?_; rintro e w2 ⟨rfl, rfl⟩; have ho1 := s1.o.cellO))
  go_ret2
  exact ⟨rfl, hL1⟩

theorem callable_not {n0 : Nat} {w : World} {hb : Nat} {ov : Value} {ob : Nat} {tp : Option Addr} {cap fuel deep : Int} {kd : Kd} {ext : Bool} {L : List (Ky × Ds)} (s : StX n0 w hb ov ob tp cap fuel deep kd ext L) (hk : KdOk kd) (v : V) (hx : v.num < 2 ^ 64) (hg : Dc.good uvalid v = true) (h7 : v.kind = 7) (h1 : v.id = 1) : Calls Tryz.prog 140 #[.pointer (some ⟨hb, 0, none⟩), vAgg v] w fun e w' => e = .returned (.bool false) ∧ Below w.heap.size w w' := by
  have H1 := Lib.hid h1
  have HG := Lib.hid hg
  have H7 := Lib.hid h7
  clear h1 hg h7
  go_enter Tryz.func140, Tryz.ntmps140
  go_wp2_with (first | ((with_reducible show wpList _ _ _ (⟨_, .box 36 _, _, _, _, _⟩ :: _) _ _); refine wpList_box_blk rfl 36 _ rfl (vArr v) rfl ?_; intro w0 hK hL hs; have hcK := hK.cellV; have s0 := s.below hL) | (go_at_call 169; refine (callable_self s0 hk v hx HG.out H7.out H1.out).mono ?_; rintro e w1 ⟨rfl, hb1⟩))
  go_ret
  exact ⟨rfl, more hL hb1⟩

theorem callables_any {n0 : Nat} {w : World} {hb : Nat} {ov : Value} {ob : Nat} {tp : Option Addr} {cap fuel deep : Int} {kd : Kd} {ext : Bool} {L : List (Ky × Ds)} (s : StX n0 w hb ov ob tp cap fuel deep kd ext L) (hk : KdOk kd) (d : Ds) (hd : Nums d) (h1 : d.get.kind = 7 → Dc.good uvalid d.get = true ∧ d.get.id = 1) (h2 : d.set.kind = 7 → Dc.good uvalid d.set = true ∧ d.set.id = 1) : Calls Tryz.prog 105 #[.pointer (some ⟨hb, 0, none⟩), .agg (dArr d)] w fun e w' => e = .returned (.bool (decide (d.get.kind ≠ 7 ∧ d.set.kind ≠ 7))) ∧ Below w.heap.size w w' := by
  by_cases hg : d.get.kind = 7
  · rw [show decide (d.get.kind ≠ 7 ∧ d.set.kind ≠ 7) = false by simp [hg]]
    have GK := Lib.hid hg
    have G := Lib.hid (h1 hg).1
    have GI := Lib.hid (h1 hg).2
    have hg1 : (d.get.kind == 7) = true := by simpa using hg
    have hg2 : (d.get.kind != 7) = false := by simpa using hg
    clear h1 h2 hg
    have hcl := fun {W : World} (s : StX n0 W hb ov ob tp cap fuel deep kd ext L) => callable_not s hk _ hd.get G.out GK.out GI.out
    go_enter Tryz.func105, Tryz.ntmps105
    go_wp2_with (first | ((with_reducible show wpList _ _ _ (⟨_, .box 43 _, _, _, _, _⟩ :: _) _ _); refine wpList_box_blk rfl 43 _ rfl (dArr d) rfl ?_; intro w0 hK hL hs; have hcK := hK.cellD; have s0 := s.below hL) | (go_at_call 140; refine (callable_not s0 hk _ hd.get G.out GK.out GI.out).mono ?_; rintro e w1 ⟨rfl, hb1⟩; have hK1 := hK.next hb1; have hc1 := hK1.cellD; have s1 := s0.below hb1; have hL1 := more hL hb1))
    go_ret
    exact ⟨rfl, by first | exact more hL hb1 | exact hL⟩
  · by_cases hs : d.set.kind = 7
    · rw [show decide (d.get.kind ≠ 7 ∧ d.set.kind ≠ 7) = false by simp [hs]]
      have GK := Lib.hid hs
      have G := Lib.hid (h2 hs).1
      have GI := Lib.hid (h2 hs).2
      have hg1 : (d.get.kind == 7) = false := by simpa using hg
      have hg2 : (d.get.kind != 7) = true := by simpa using hg
      have hs1 : (d.set.kind == 7) = true := by simpa using hs
      have hs2 : (d.set.kind != 7) = false := by simpa using hs
      clear h1 h2 hg hs
      go_enter Tryz.func105, Tryz.ntmps105
      go_wp2_with (first | ((with_reducible show wpList _ _ _ (⟨_, .box 43 _, _, _, _, _⟩ :: _) _ _); refine wpList_box_blk rfl 43 _ rfl (dArr d) rfl ?_; intro w0 hK hL hs; have hcK := hK.cellD; have s0 := s.below hL) | (go_at_call 140; refine (callable_not s0 hk _ hd.set G.out GK.out GI.out).mono ?_; rintro e w1 ⟨rfl, hb1⟩; have hK1 := hK.next hb1; have hc1 := hK1.cellD; have s1 := s0.below hb1; have hL1 := more hL hb1))
      go_ret
      exact ⟨rfl, by first | exact more hL hb1 | exact hL⟩
    · rw [show decide (d.get.kind ≠ 7 ∧ d.set.kind ≠ 7) = true by simp [hs, hg]]
      have hg1 : (d.get.kind == 7) = false := by simpa using hg
      have hg2 : (d.get.kind != 7) = true := by simpa using hg
      have hs1 : (d.set.kind == 7) = false := by simpa using hs
      have hs2 : (d.set.kind != 7) = true := by simpa using hs
      clear h1 h2 hg hs
      go_enter Tryz.func105, Tryz.ntmps105
      go_wp2_with ((with_reducible show wpList _ _ _ (⟨_, .box 43 _, _, _, _, _⟩ :: _) _ _); refine wpList_box_blk rfl 43 _ rfl (dArr d) rfl ?_; intro w0 hK hL hs; have hcK := hK.cellD; have s0 := s.below hL)
      go_ret
      exact ⟨rfl, hL⟩


end Go.Proofs.YtoalboilghgalaaGreatDoor
