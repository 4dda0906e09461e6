/- Lemmas for this claim, in parts: Smade, Sq, Sworks. -/
import Derived.Test.YtoalboilghgalaaGreatDoorC43
import Derived.Test.YtoalboilghgalaaGreatDoorC44
import Derived.Test.YtoalboilghgalaaGreatDoorC39
import Derived.Test.YtoalboilghgalaaGreatDoorC01
set_option maxRecDepth 100000
set_option maxHeartbeats 4000000
set_option linter.unusedVariables false
set_option linter.unusedSimpArgs false
/- StrobjTells: made; num. -/
namespace Go.Proofs.YtoalboilghgalaaGreatDoor
open Go.RowKit
open Go.Proofs.Dc (V Ds Ky)
attribute [local go_sem] run_store_float

attribute [local go_sem] Oper.semAt_some
theorem uptsF_len {s : ByteArray} : ∀ (f k : Nat) (l : Int), uwalk s k l = true → k ≤ s.size → s.size - k ≤ f → ((uptsF s f k).flatMap ptU).length ≤ s.size - k
  | 0, k, l, _, _, _ => by simp [uptsF]
  | f + 1, k, l, h, hk, hf => by
    by_cases h1 : k < s.size
    · obtain ⟨q1, q2, q3, q4, q5, q6, _⟩ := upts_step h1 h
      have := uptsF_len f _ _ q3 (by omega) (by omega)
      simp only [uptsF, if_pos h1, List.flatMap_cons, List.length_append]
      omega
    · simp only [uptsF, if_neg h1]
      simp
theorem unitsL_len {s : ByteArray} (h : uvalid s = true) : (unitsL s).length ≤ s.size := uptsF_len s.size 0 0 h (Nat.zero_le _) (by omega)
theorem num9 (e0 : Int) (w : World) : Calls Tryz.prog 9 #[.int .i64 e0] w fun e w' => e = .returned (.int .i64 e0) ∧ w = w' := by
  go_enter Tryz.func9, Tryz.ntmps9
  go_wp2
  go_ret
  exact ⟨rfl, rfl⟩
theorem fld83 (n : Int) (w : World) : (Instr.field 83 (.agg (fArr n)) 0).run Tryz.prog w = .ok (.int .i64 n) w := by kernel_rfl
theorem made_bad (s : ByteArray) (w : World) (hT : Tabs w) (hs : s.size ≤ 1048576) (hv : uvalid s = false) : Calls Tryz.prog 7 #[.string s] w fun e w' => e = .returned (.bool true) ∧ Below w.heap.size w w' := by
  have HT : Hid (∀ W, Below w.heap.size w W → Tabs W) := Lib.hid fun W h => hT.below h
  have c12 : ∀ W, Below w.heap.size w W → Calls Tryz.prog 12 #[.string s] W fun e w' => e = .returned (.bool false) ∧ Below W.heap.size W w' := fun W h => by
    have := valid_any s W (hT.below h) (by omega)
    rw [hv] at this
    exact this
  have HC12 := Lib.hid c12
  have c10 : ∀ W, Below w.heap.size w W → Blk W w.heap.size (hArr 1 10 5 0 (.slice none 0 0)) 102 → Calls Tryz.prog 10 #[.pointer (some ⟨w.heap.size, 0, none⟩), .agg (vArr vN), .string s] W fun e w' => e = .returned (.tuple #[.int .i64 0, errV 5]) ∧ Below W.heap.size W w' := fun W h hH => snew_bad w.heap.size 1 10 s W (hT.below h) hs hv hH
  have HC10 := Lib.hid c10
  have hfd := fld83 5
  clear c10 c12 hT
  go_enter Tryz.func7, Tryz.ntmps7
  go_wp2_with (first | (go_at_call 8; refine (new5 1 10 _ (by decide) (by decide) (by decide)).mono ?_; rintro e w1 ⟨rfl, hH, hL⟩) | (go_at_call 9; refine (num9 _ _).mono ?_; rintro e w' ⟨rfl, rfl⟩) | (go_at_call 11; refine (null11 _).mono ?_; rintro e w2 ⟨rfl, hb2⟩; have hL2 := more hL hb2; have hH2 := hH.next hb2) | (go_at_call 10; refine (HC10.out _ hL2 hH2).mono ?_; rintro e w3 ⟨rfl, hb3⟩; have hL3 := more hL2 hb3; have hH3 := hH2.next hb3) | (go_at_call 12; refine (HC12.out _ hL3).mono ?_; rintro e w4 ⟨rfl, hb4⟩; have hL4 := more hL3 hb4; have hH4 := hH3.next hb4) | (go_at_call 37; refine (fault_any 5 _).mono ?_; rintro e w5 ⟨rfl, hb5⟩; have hL5 := more hL4 hb5; have hH5 := hH4.next hb5) | (go_at_call 42; refine (len42 hH5).mono ?_; rintro e w' ⟨rfl, rfl⟩))
  go_ret
  exact ⟨rfl, hL5⟩
theorem made_ok (s : ByteArray) (w : World) (hT : Tabs w) (htn : Tryz.lays197_ren.g 3 < w.heap.size ∧ Tryz.lays197_ren.g 4 < w.heap.size) (hs : s.size ≤ 1048576) (hv : uvalid s = true) : Calls Tryz.prog 7 #[.string s] w fun e w' => e = .returned (.bool true) ∧ Below w.heap.size w w' := by
  have c12 : ∀ W, Below w.heap.size w W → Calls Tryz.prog 12 #[.string s] W fun e w' => e = .returned (.bool true) ∧ Below W.heap.size W w' := fun W h => by
    have := valid_any s W (hT.below h) (by omega)
    rw [hv] at this
    exact this
  have HC12 := Lib.hid c12
  have hul := unitsL_len hv
  have c10 : ∀ W, Below w.heap.size w W → Blk W w.heap.size (hArr 1 10 5 0 (.slice none 0 0)) 102 → Calls Tryz.prog 10 #[.pointer (some ⟨w.heap.size, 0, none⟩), .agg (vArr vN), .string s] W fun e w' => SNewP s 10 w.heap.size W w.heap.size 1 10 e w' := fun W h hH => snew_ok w.heap.size w.heap.size 10 1 10 s W h.size (Nat.le_refl _) (hT.below h) htn (by decide) (by decide) hs hv (by omega) hH
  have HC10 := Lib.hid c10
  have hsz : ¬ (1048576 : Int) < (s.size : Int) := by omega
  have hdec : decide ((1048576 : Int) < (s.size : Int)) = false := decide_eq_false hsz
  clear c10 c12 hT hul hsz
  go_enter Tryz.func7, Tryz.ntmps7
  go_wp2_with (first | (go_at_call 8; refine (new5 1 10 _ (by decide) (by decide) (by decide)).mono ?_; rintro e w1 ⟨rfl, hH, hL⟩) | (go_at_call 9; refine (num9 _ _).mono ?_; rintro e w' ⟨rfl, rfl⟩) | (go_at_call 11; refine (null11 _).mono ?_; rintro e w2 ⟨rfl, hb2⟩; have hL2 := more hL hb2; have hH2 := hH.next hb2) | (go_at_call 10; refine (HC10.out _ hL2 hH2).mono ?_; rintro e w3 ⟨ov, ob, tp, xb, g, uc, A, rfl, s3, k3, hS3⟩; have hL3 := hL2.trans k3.below) | (go_at_call 12; refine (HC12.out _ hL3).mono ?_; rintro e w4 ⟨rfl, hb4⟩; have hL4 := more hL3 hb4; have s4 := s3.below hb4; have hS4 := hS3.below hb4) | (go_at_call 27; refine (data27 s4 hS4 rfl).mono ?_; rintro e w5 ⟨rfl, hb5⟩; have hL5 := more hL4 hb5))
  go_ret
  exact ⟨rfl, hL5⟩
theorem made_any (s : ByteArray) (w : World) (hT : Tabs w) (htn : Tryz.lays197_ren.g 3 < w.heap.size ∧ Tryz.lays197_ren.g 4 < w.heap.size) (hs : s.size ≤ 1048576) : Calls Tryz.prog 7 #[.string s] w fun e w' => e = .returned (.bool true) ∧ Below w.heap.size w w' := by
  cases hv : uvalid s with
  | false => exact made_bad s w hT hs hv
  | true => exact made_ok s w hT htn hs hv


end Go.Proofs.YtoalboilghgalaaGreatDoor

/- A String object in its heap, as the law asks and writes it. -/
namespace Go.Proofs.YtoalboilghgalaaGreatDoor
open Go.RowKit
open Go.Proofs.Dc (V Ds Ky)

theorem SInv.lgood {U : List Int} {L : List (Ky × Ds)} (h : SInv U L) : LGood L := h.ok.keys
/-- the String object in its heap -/
structure SQ (n0 : Nat) (W : World) (hb : Nat) (ov : Value) (ob xb g uc : Nat) (A : Option Addr) (s : ByteArray) (U : List Int) (b F : Int) (ext : Bool) (L : List (Ky × Ds)) : Prop where
  at_ : ∃ tp, StX n0 W hb ov ob tp 1 F 0 (kS 5 b xb) ext L
  str : SAt W xb s g uc A U
  inv : SInv U L
  fle : F ≤ 1000000
  b : b < 1000000
section
variable {n0 : Nat} {w : World} {hb : Nat} {ov : Value} {ob xb g uc : Nat} {A : Option Addr} {s : ByteArray} {U : List Int} {b F : Int} {ext : Bool} {L : List (Ky × Ds)}
theorem SQ.next {w' : World} (h : SQ n0 w hb ov ob xb g uc A s U b F ext L) (hb' : Below w.heap.size w w') : SQ n0 w' hb ov ob xb g uc A s U b F ext L := by
  obtain ⟨tp, h1⟩ := h.at_
  exact ⟨⟨tp, h1.below hb'⟩, h.str.below hb', h.inv, h.fle, h.b⟩
theorem SQ.tabs (h : SQ n0 w hb ov ob xb g uc A s U b F ext L) : Tabs w := by
  obtain ⟨tp, h1⟩ := h.at_
  exact h1.tabs
theorem SQ.sz (h : SQ n0 w hb ov ob xb g uc A s U b F ext L) : n0 ≤ w.heap.size := by
  obtain ⟨tp, h1⟩ := h.at_
  exact h1.sz
theorem tabAt_len {W : World} {tp : Option Addr} {q : Int} (h : TabAt n0 W tp L q) : (L.length : Int) ≤ q := by
  rcases h with ⟨_, rfl, h⟩ | ⟨tb, mb, ev, _, _, _, ⟨E, M, last, h1, h2, h3⟩, _⟩
  · simpa using h
  · have e1 := h1.ok.len_le
    have e2 := live_len E
    have e3 : L.length ≤ (live E).length := by rw [← h2]; simp [liveP]
    omega
theorem SQ.len (h : SQ n0 w hb ov ob xb g uc A s U b F ext L) : L.length ≤ 1000000 := by
  obtain ⟨tp, h1⟩ := h.at_
  have h2 := tabAt_len h1.tab
  have h3 := h1.bd
  have h4 : (kS 5 b xb).b = b := rfl
  rw [h4] at h2 h3
  omega
theorem SQ.can (h : SQ n0 w hb ov ob xb g uc A s U b F ext L) (hf : 0 < F) : Can F 0 (kS 5 b xb) := ⟨hf, by have := h.fle; omega, h.b, by decide, show (0 : Int) < 5 by decide, show (5 : Int) ≤ 1000 by decide⟩
theorem q_keys (h : SQ n0 w hb ov ob xb g uc A s U b F ext L) (hf : 0 < F) (hP : PowK n0 w) :
    Calls Tryz.prog 20 #[.pointer (some ⟨hb, 0, none⟩), .int .i64 1] w fun e w' => ∃ gk c r, e = .returned (.tuple #[.slice (some ⟨gk, 0, none⟩) (keysS U.length L).length c, .nilIface]) ∧ Blk w' gk (kRow (keysS U.length L) r) 40 ∧ SQ n0 w' hb ov ob xb g uc A s U b (F - 1) ext L ∧ Keeps n0 w w' := by
  obtain ⟨tp, s1⟩ := h.at_
  refine (sdkeys s1 h.str rfl (h.can hf) hP h.inv.lgood h.inv.ne h.len).mono ?_
  rintro e w' ⟨v, tp', rfl, hk, s', k'⟩
  obtain ⟨gk, c, r, rfl, _, hB⟩ := hk.cons (by
    have := sortK_ne h.inv.ne
    unfold keysS; rw [List.length_append]; omega)
  exact ⟨gk, c, r, rfl, hB, ⟨⟨tp', s'⟩, h.str.keeps k', h.inv, by have := h.fle; omega, h.b⟩, k'⟩
theorem q_val (h : SQ n0 w hb ov ob xb g uc A s U b F ext L) (hf : 0 < F) (k : Ky) (hg : kgood k = true) (d : Ds) (ho : ownS L U k = some d) (hdt : (Dc.kindB uvalid d && Dc.kindN uvalid d == 1) = true) (hnd : Nums d) :
    Calls Tryz.prog 21 #[.pointer (some ⟨hb, 0, none⟩), .int .i64 1, .agg (kArr k), .agg (vArr vN)] w fun e w' => e = .returned (.tuple #[.agg (vArr d.val), .nilIface]) ∧ SQ n0 w' hb ov ob xb g uc A s U b (F - 1) ext L ∧ Keeps n0 w w' := by
  obtain ⟨tp, s1⟩ := h.at_
  refine (sdval s1 h.str rfl (h.can hf) k hg d ho hdt hnd).mono ?_
  rintro e w' ⟨tp', rfl, s', k'⟩
  exact ⟨rfl, ⟨⟨tp', s'⟩, h.str.keeps k', h.inv, by have := h.fle; omega, h.b⟩, k'⟩
theorem q_own (h : SQ n0 w hb ov ob xb g uc A s U b F ext L) (hf : 0 < F) (k : Ky) (hg : kgood k = true) (d : Ds) (ho : ownS L U k = some d) :
    Calls Tryz.prog 23 #[.pointer (some ⟨hb, 0, none⟩), .int .i64 1, .agg (kArr k)] w fun e w' => e = .returned (.tuple #[.agg (dArr d), .bool true, .nilIface]) ∧ SQ n0 w' hb ov ob xb g uc A s U b (F - 1) ext L ∧ Keeps n0 w w' := by
  obtain ⟨tp, s1⟩ := h.at_
  refine (sdown s1 h.str rfl (h.can hf) k hg d ho).mono ?_
  rintro e w' ⟨tp', rfl, s', k'⟩
  exact ⟨rfl, ⟨⟨tp', s'⟩, h.str.keeps k', h.inv, by have := h.fle; omega, h.b⟩, k'⟩
theorem q_data (h : SQ n0 w hb ov ob xb g uc A s U b F ext L) : Calls Tryz.prog 27 #[.pointer (some ⟨hb, 0, none⟩), .int .i64 1] w fun e w' => e = .returned (.tuple #[.string s, .int .i64 0]) ∧ Below w.heap.size w w' := by
  obtain ⟨tp, s1⟩ := h.at_
  exact data27 s1 h.str rfl
/-- behind a door that writes -/
def SQw (n0 : Nat) (w : World) (hb : Nat) (ov : Value) (ob xb g uc : Nat) (A : Option Addr) (s : ByteArray) (U : List Int) (b F : Int) (e : Ending) (w' : World) : Prop :=
  ∃ v ext L F', e = .returned v ∧ SQ n0 w' hb ov ob xb g uc A s U b F' ext L ∧ F - 4 ≤ F' ∧ Keeps n0 w w'
theorem q_def (h : SQ n0 w hb ov ob xb g uc A s U b F ext L) (hf : 0 < F) (k : Ky) (d : Ds) (hd : Nums d) :
    Calls Tryz.prog 14 #[.pointer (some ⟨hb, 0, none⟩), .int .i64 1, .agg (kArr k), .agg (dArr d)] w (SQw n0 w hb ov ob xb g uc A s U b F) := by
  obtain ⟨tp, s1⟩ := h.at_
  refine (sddef s1 h.str rfl (h.can hf) k d hd h.inv.nums h.inv.ok).mono ?_
  rintro e w' ⟨v, f, L', tp', rfl, s', k', hf', hL⟩
  have hfl : f ≤ 1000000 := by
    have h1 := s'.bd
    have h2 := tabAt_len s'.tab
    have h4 : (kS 5 b xb).b = b := rfl
    rw [h4] at h1 h2
    omega
  refine ⟨v, ext, L', f, rfl, ⟨⟨tp', s'⟩, h.str.keeps k', ?_, hfl, h.b⟩, by omega, k'⟩
  rcases hL with rfl | ⟨hw, rfl⟩
  · exact h.inv
  · obtain ⟨h1, h2, h3⟩ := wrong_zero hw
    exact h.inv.def h1 h2 hd h3
theorem q_set (h : SQ n0 w hb ov ob xb g uc A s U b F ext L) (hf : 3 < F) (k : Ky) (v : V) (hg : kgood k = true) (hv : v.num < 2 ^ 64) :
    Calls Tryz.prog 15 #[.pointer (some ⟨hb, 0, none⟩), .int .i64 1, .agg (kArr k), .agg (vArr v), .agg (vArr vR1)] w (SQw n0 w hb ov ob xb g uc A s U b F) := by
  obtain ⟨tp, s1⟩ := h.at_
  refine (sdset s1 h.str rfl (h.can (by omega)) k v rfl (show (0 : Int) + 1 < 5 by decide) hf hg hv h.inv.nums h.inv.ok h.inv.noref).mono ?_
  rintro e w' ⟨v', f, L', tp', rfl, s', k', hf', hL⟩
  have hfl : f ≤ 1000000 := by
    have h1 := s'.bd
    have h2 := tabAt_len s'.tab
    have h4 : (kS 5 b xb).b = b := rfl
    rw [h4] at h1 h2
    omega
  refine ⟨v', ext, L', f, rfl, ⟨⟨tp', s'⟩, h.str.keeps k', ?_, hfl, h.b⟩, by omega, k'⟩
  rcases hL with rfl | ⟨hw, rfl | rfl⟩
  · exact h.inv
  · exact h.inv.def hg (newD_ok hw) (newD_nums hv) ⟨show ¬ (0 : Int) = 7 by decide, show ¬ (0 : Int) = 7 by decide⟩
  · exact h.inv.def hg (oldD_ok hw) (oldD_nums hv) ⟨show ¬ (0 : Int) = 7 by decide, show ¬ (0 : Int) = 7 by decide⟩
theorem q_del (h : SQ n0 w hb ov ob xb g uc A s U b F ext L) (hf : 0 < F) (k : Ky) (hg : kgood k = true) :
    Calls Tryz.prog 17 #[.pointer (some ⟨hb, 0, none⟩), .int .i64 1, .agg (kArr k)] w (SQw n0 w hb ov ob xb g uc A s U b F) := by
  obtain ⟨tp, s1⟩ := h.at_
  refine (sddel s1 h.str rfl (h.can hf) k hg (h.inv.del k).ne).mono ?_
  rintro e w' ⟨tp', rfl, s', k'⟩
  exact ⟨_, ext, _, _, rfl, ⟨⟨tp', s'⟩, h.str.keeps k', h.inv.del k, by have := h.fle; omega, h.b⟩, by omega, k'⟩
theorem q_prev (h : SQ n0 w hb ov ob xb g uc A s U b F ext L) (hf : 0 < F) :
    Calls Tryz.prog 18 #[.pointer (some ⟨hb, 0, none⟩), .int .i64 1] w (SQw n0 w hb ov ob xb g uc A s U b F) := by
  obtain ⟨tp, s1⟩ := h.at_
  refine (sdprev s1 h.str rfl (h.can hf)).mono ?_
  rintro e w' ⟨tp', rfl, s', k'⟩
  exact ⟨_, false, _, _, rfl, ⟨⟨tp', s'⟩, h.str.keeps k', h.inv, by have := h.fle; omega, h.b⟩, by omega, k'⟩
end

end Go.Proofs.YtoalboilghgalaaGreatDoor

/- StrobjTells: works, the chapter's example. -/
namespace Go.Proofs.YtoalboilghgalaaGreatDoor
open Go.RowKit
open Go.Proofs.Dc (V Ds Ky)
attribute [local go_sem] run_store_float

attribute [local go_sem] Oper.semAt_some
def sAB : ByteArray := ⟨#[97, 98]⟩
theorem sAB_v : uvalid sAB = true := ascii_valid [97, 98] (by decide)
theorem sAB_u : unitsL sAB = [97, 98] := by kernel_rfl
theorem flN_at {n : Nat} (h : n ≤ 500) : flN n < 2 ^ 64 ∧ Fl.fnan (flN n) = false := by
  have := List.all_eq_true.1 flN_ok n (List.mem_range.2 (by omega))
  simpa using this
theorem ab_key0 : idxK 0 = ⟨⟨#[48]⟩, 0⟩ := by unfold idxK; rw [dec_small (by decide)]; rfl
theorem ab_key1 : idxK 1 = ⟨⟨#[49]⟩, 0⟩ := by unfold idxK; rw [dec_small (by decide)]; rfl
def vStr (q : ByteArray) : V := ⟨5, false, 0, q, 0⟩
def dC : Ds := { Dc.d0 with val := vStr ⟨#[99]⟩ }
theorem ofU_b : ofU [98] = ⟨#[98]⟩ := by kernel_rfl
theorem good_c (q : ByteArray) (h : uvalid q = true) (h2 : q.size ≤ 1048576) : Dc.good uvalid (vStr q) = true := by
  simp [Dc.good, Dc.vin, Dc.plain, vStr, h, h2]
theorem dC_good : Dc.good uvalid (vStr ⟨#[99]⟩) = true := good_c _ (ascii_valid [99] (by decide)) (by decide)
theorem dB_good : Dc.good uvalid (vStr ⟨#[98]⟩) = true := good_c _ (ascii_valid [98] (by decide)) (by decide)
theorem eqB (w : World) : (binOp .eql 36 (.agg #[.int .i64 5, .bool false, .float .f64 0, .string ⟨#[98]⟩, .int .i64 0]) (.agg #[.int .i64 5, .bool false, .float .f64 0, .string ⟨#[98]⟩, .int .i64 0])).run Tryz.prog w = .ok (.bool true) w := by kernel_rfl
theorem dC_kind : Dc.kindB uvalid dC = true := by kernel_rfl
theorem kgood_idx1 : kgood (idxK 1) = true := idx_good (by decide)
theorem ab_no (ext : Bool) (L : List (Ky × Ds)) : defBS ext L [97, 98] (idxK 1) dC = false := by
  unfold defBS
  rw [unitD_some (unitI_idx (n := [(97 : Int), 98].length) (u := 1) (by decide) (by decide))]
  show (Dc.apply uvalid ext (unitQ (ofU [98])) dC).2 = false
  rw [ofU_b]
  cases ext <;> kernel_rfl
theorem dC_wrong : wrongD (idxK 1) dC = 0 := by
  unfold wrongD
  rw [kgood_idx1, dC_kind]
  rfl
theorem sort_one (k : Ky) (d : Ds) : sortK [(k, d)] = [k] := by
  have h := Srt.stable_perm (lt := ltK) [k]
  exact List.perm_singleton.1 h
theorem ab_keys (d : Ds) : keysS [(97 : Int), 98].length [(kLen, d)] = [⟨⟨#[48]⟩, 0⟩, ⟨⟨#[49]⟩, 0⟩, kLen] := by
  unfold keysS
  rw [sort_one]
  show [idxK 0, idxK 1] ++ [kLen] = _
  rw [ab_key0, ab_key1]
  rfl
theorem works_any (w : World) (hT : Tabs w) (htn : Tryz.lays197_ren.g 3 < w.heap.size ∧ Tryz.lays197_ren.g 4 < w.heap.size) (hP : ∀ W, Below w.heap.size w W → PowT W) : Calls Tryz.prog 6 #[] w fun e w' => e = .returned (.bool true) ∧ Below w.heap.size w w' := by
  have c10 : ∀ W, Below w.heap.size w W → Blk W w.heap.size (hArr 1 50 5 0 (.slice none 0 0)) 102 → Calls Tryz.prog 10 #[.pointer (some ⟨w.heap.size, 0, none⟩), .agg (vArr vN), .string ⟨#[97, 98]⟩] W fun e w' => ∃ ov ob xb g uc A L, e = .returned (.tuple #[.int .i64 1, .nilIface]) ∧ SQ w.heap.size w' w.heap.size ov ob xb g uc A sAB [97, 98] 51 50 true L ∧ keysS [(97 : Int), 98].length L = [⟨⟨#[48]⟩, 0⟩, ⟨⟨#[49]⟩, 0⟩, kLen] ∧ Below w.heap.size w w' := fun W h hH => by
    have hu : unitsL ⟨#[97, 98]⟩ = [97, 98] := sAB_u
    have hf := flN_at (n := 2) (by decide)
    refine (snew_ok w.heap.size w.heap.size 50 1 50 sAB W h.size (Nat.le_refl _) (hT.below h) htn (by decide) (by decide) (by decide) sAB_v (by rw [sAB_u]; decide) hH).mono ?_
    rintro e w' ⟨ov, ob, tp, xb, g, uc, A, rfl, s3, k3, hS3⟩
    rw [sAB_u] at s3 hS3
    exact ⟨ov, ob, xb, g, uc, A, _, rfl, ⟨⟨tp, s3⟩, hS3, SInv.start (U := [97, 98]) hf.2 hf.1, by decide, by decide⟩, ab_keys _, h.trans k3.below⟩
  have HC10 := Lib.hid c10
  have HP := Lib.hid hP
  have HT : Hid (∀ W, Below w.heap.size w W → Tabs W) := Lib.hid fun W h => hT.below h
  have HS : Hid (∀ W, Tabs W → Calls Tryz.prog 24 #[.string ⟨#[99]⟩] W fun e w' => e = .returned (.agg #[.int .i64 5, .bool false, .float .f64 0, .string ⟨#[99]⟩, .int .i64 0]) ∧ Below W.heap.size W w') := Lib.hid fun W h => str24 _ dC_good W h
  have HSB : Hid (∀ W, Tabs W → Calls Tryz.prog 24 #[.string ⟨#[98]⟩] W fun e w' => e = .returned (.agg #[.int .i64 5, .bool false, .float .f64 0, .string ⟨#[98]⟩, .int .i64 0]) ∧ Below W.heap.size W w') := Lib.hid fun W h => str24 _ dB_good W h
  clear c10 hT hP htn
  go_enter Tryz.func6, Tryz.ntmps6
  go_upto_region 5 with (first | (go_at_call 8; refine (new5 1 50 _ (by decide) (by decide) (by decide)).mono ?_; rintro e w1 ⟨rfl, hH, hL⟩) | (go_at_call 9; refine (num9 _ _).mono ?_; rintro e w' ⟨rfl, rfl⟩) | (go_at_call 11; refine (null11 _).mono ?_; rintro e w2 ⟨rfl, hb2⟩; have hL2 := more hL hb2; have hH2 := hH.next hb2) | (go_at_call 10; refine (HC10.out _ hL2 hH2).mono ?_; rintro e w3 ⟨ov, ob, xb, g, uc, A, L, rfl, hN3, hkl, hL3⟩))
  have HK : Hid (∀ W (F : Int), SQ w.heap.size W w.heap.size ov ob xb g uc A sAB [97, 98] 51 F true L → 0 < F → Below w.heap.size w W → Calls Tryz.prog 20 #[.pointer (some ⟨w.heap.size, 0, none⟩), .int .i64 1] W fun e w' => ∃ gk c r, e = .returned (.tuple #[.slice (some ⟨gk, 0, none⟩) 3 c, .nilIface]) ∧ Blk w' gk (kRow [⟨⟨#[48]⟩, 0⟩, ⟨⟨#[49]⟩, 0⟩, kLen] r) 40 ∧ SQ w.heap.size w' w.heap.size ov ob xb g uc A sAB [97, 98] 51 (F - 1) true L ∧ Keeps w.heap.size W w') := Lib.hid fun W F h hf hB => by
    have := q_keys h hf (fun W' k' => HP.out _ (hB.trans k'.below))
    rw [hkl] at this
    exact this
  have HG : Hid (∀ W (F : Int), SQ w.heap.size W w.heap.size ov ob xb g uc A sAB [97, 98] 51 F true L → 0 < F → Calls Tryz.prog 21 #[.pointer (some ⟨w.heap.size, 0, none⟩), .int .i64 1, .agg #[.string ⟨#[49]⟩, .int .i64 0], .agg (vArr vN)] W fun e w' => e = .returned (.tuple #[.agg (vArr (vStr ⟨#[98]⟩)), .nilIface]) ∧ SQ w.heap.size w' w.heap.size ov ob xb g uc A sAB [97, 98] 51 (F - 1) true L ∧ Keeps w.heap.size W w') := Lib.hid fun W F h hf => by
    have ho := h.inv.unit (i := 1) (by decide) (by decide)
    have := q_val h hf (idxK 1) kgood_idx1 _ ho (unit_data (h.str.units _ (by simp))) ⟨by decide, by decide, by decide⟩
    rw [ab_key1] at this
    exact this
  have HD : Hid (∀ W (F : Int), SQ w.heap.size W w.heap.size ov ob xb g uc A sAB [97, 98] 51 F true L → 0 < F → Calls Tryz.prog 14 #[.pointer (some ⟨w.heap.size, 0, none⟩), .int .i64 1, .agg #[.string ⟨#[49]⟩, .int .i64 0], .agg #[.int .i64 5, .bool false, .float .f64 0, .string ⟨#[99]⟩, .int .i64 0, .int .i64 0, .bool false, .float .f64 0, .string ByteArray.empty, .int .i64 0, .int .i64 0, .bool false, .float .f64 0, .string ByteArray.empty, .int .i64 0, .int .i64 0, .int .i64 0, .int .i64 0]] W fun e w' => ∃ tp : Option Addr, e = .returned (.tuple #[.bool false, .nilIface]) ∧ Keeps w.heap.size W w') := Lib.hid fun W F h hf => by
    obtain ⟨tp, s1⟩ := h.at_
    have := sddef_in s1 h.str rfl (h.can hf) (idxK 1) dC ⟨by decide, by decide, by decide⟩ dC_wrong h.inv.nums h.inv.ok
    rw [ab_no, ab_key1] at this
    refine Calls.mono (show Calls Tryz.prog 14 #[.pointer (some ⟨w.heap.size, 0, none⟩), .int .i64 1, .agg #[.string ⟨#[49]⟩, .int .i64 0], .agg #[.int .i64 5, .bool false, .float .f64 0, .string ⟨#[99]⟩, .int .i64 0, .int .i64 0, .bool false, .float .f64 0, .string ByteArray.empty, .int .i64 0, .int .i64 0, .bool false, .float .f64 0, .string ByteArray.empty, .int .i64 0, .int .i64 0, .int .i64 0, .int .i64 0]] W _ from this) ?_
    rintro e w' ⟨tp', rfl, _, k'⟩
    exact ⟨tp', rfl, k'⟩
  clear hkl
  go_upto_region 8 with (first | (go_at_call 20; refine (HK.out _ _ hN3 (by decide) hL3).mono ?_; rintro e w4 ⟨gk, c, r, rfl, hR4, hN4, k4⟩; have hL4 := hL3.trans k4.below) | (go_at_call 11; refine (null11 _).mono ?_; rintro e w5 ⟨rfl, hb5⟩; have hL5 := more hL4 hb5; have hN5 := hN4.next hb5; have hR5 := hR4.next hb5) | (go_at_call 21; refine (HG.out _ _ hN5 (by decide)).mono ?_; rintro e w6 ⟨rfl, hN6, k6⟩; have hL6 := hL5.trans k6.below; have hR6 := hR5.keeps k6 rfl) | ((with_reducible show wpList _ _ _ (⟨some 7, .alloc 36, _, _, _, _⟩ :: _) _ _); refine wpList_alloc_blk rfl 36 rfl _ zero36 ?_; intro wA hA7 hLA7 hsA7; clear hsA7) | ((with_reducible show wpList _ _ _ (⟨_, .store 36 (.tmp 7) _, _, _, _, _⟩ :: _) _ _); refine wpList_store_blk rfl 36 _ _ rfl _ (vArr (vStr ⟨#[98]⟩)) _ 36 rfl rfl hA7 Tryz.size36 rfl (vArr_one _) ?_; intro w8 hB8 hO8; have hb68 : Below w6.heap.size w6 w8 := hLA7.trans (hO8.below _ hLA7.size (by simp)); have hN8 := hN6.next hb68; have hR8 := hR6.next hb68; have hL8 := more hL6 hb68) | (go_at_call 24; refine (HS.out _ hN8.tabs).mono ?_; rintro e w9 ⟨rfl, hb9⟩; have hN9 := hN8.next hb9; have hR9 := hR8.next hb9; have hL9 := more hL8 hb9; have hB9 := hB8.next hb9) | (go_at_call 14; refine (HD.out _ _ hN9 (by decide)).mono ?_; rintro e w10 ⟨tp, rfl, k10⟩; have hL10 := hL9.trans k10.below; have hR10 := hR9.keeps k10 rfl; have hB10 := hB9.keeps k10 rfl))
  have HC0 : Hid (∀ W, Blk W gk (kRow [⟨⟨#[48]⟩, 0⟩, ⟨⟨#[49]⟩, 0⟩, kLen] r) 40 → W.cell? ⟨gk, 4, none⟩ = some (.string ⟨#[108, 101, 110, 103, 116, 104]⟩)) := Lib.hid fun W h => kRow_range h 2 kLen rfl 0 _ rfl
  have hq1 := eqB
  have hTz := HT.out _ hL10
  clear hN3 hN4 hN5 hN6 hN8 hN9 hB8 hB9 hR4 hR5 hR6 hR8 hR9
  refine Ord.region (fun W => W.cell? ⟨gk, 4, none⟩ = some (.string ⟨#[108, 101, 110, 103, 116, 104]⟩) ∧ Blk W w6.heap.size (vArr (vStr ⟨#[98]⟩)) 36) [34, 35, 36, 37, 38, 39] (by kernel_rfl) ⟨HC0.out _ (hR10.next (Below.refl _ _).drew), hB10.next (Below.refl _ _).drew⟩ ?_
  intro hS
  replace hTz := hTz.below (Below.refl _ _).drew
  replace hR10 := hR10.next (Below.refl _ _).drew
  replace hB10 := hB10.next (Below.refl _ _).drew
  replace hL10 := more hL10 (Below.refl _ _).drew
  refine Ord.tp 0 48 rfl rfl ?_
  refine Ord.tp 1 49 rfl rfl ?_
  refine Ord.tp 2 50 rfl rfl ?_
  refine Ord.tp 3 51 rfl rfl ?_
  refine Ord.tp 4 52 rfl rfl ?_
  refine Ord.tp 5 53 rfl rfl ?_
  refine Ord.tp 6 54 rfl rfl ?_
  refine Ord.tp 7 55 rfl rfl ?_
  refine Ord.tp 8 56 rfl rfl ?_
  refine Ord.tp 9 57 rfl rfl ?_
  refine Ord.tp 10 58 rfl rfl ?_
  refine Ord.tp 11 59 rfl rfl ?_
  refine Ord.tp 12 60 rfl rfl ?_
  refine Ord.tp 13 61 rfl rfl ?_
  refine Ord.tp 14 62 rfl rfl ?_
  refine Ord.tp 15 63 rfl rfl ?_
  refine Ord.tp 16 64 rfl rfl ?_
  refine Ord.tp 17 65 rfl rfl ?_
  refine Ord.tp 18 66 rfl rfl ?_
  refine Ord.tp 19 67 rfl rfl ?_
  refine Ord.tp 20 68 rfl rfl ?_
  refine Ord.tp 21 69 rfl rfl ?_
  refine Ord.tp 22 70 rfl rfl ?_
  refine Ord.tp 23 71 rfl rfl ?_
  refine Ord.tp 24 72 rfl rfl ?_
  refine Ord.tp 25 73 rfl rfl ?_
  refine Ord.tp 26 74 rfl rfl ?_
  refine Ord.tk 27 75 rfl rfl (yields_load1 (by rfl) 9 _ rfl gk 4 rfl (.string ⟨#[108, 101, 110, 103, 116, 104]⟩) Tryz.isAgg9 (fun W hSW => hSW.1)) ?_
  refine Ord.tp 28 76 rfl rfl ?_
  refine Ord.tp 29 77 rfl rfl ?_
  refine Ord.tp 30 78 rfl rfl ?_
  refine Ord.tk 31 79 rfl rfl (yieldsIf_load_mid (by rfl) 36 _ rfl w6.heap.size 0 rfl ([.int .i64 5, .bool false, .float .f64 0, .string ⟨#[98]⟩, .int .i64 0]) _ (fun W hSW => range_all hSW.2) Tryz.underlying36 rfl Tryz.size36) ?_
  refine Ord.step (i := 32) rfl (by kernel_rfl) (by rfl) ?_
  intro K HK
  go_simp
  go_at_call 24
  refine (HSB.out _ hTz).mono ?_
  rintro e wF ⟨rfl, hbF⟩
  replace hR10 := hR10.next hbF
  replace hB10 := hB10.next hbF
  replace hL10 := more hL10 hbF
  replace hTz := hTz.below hbF
  refine HK.out _ _ ?_
  clear HK
  refine Ord.kp ?_ ?_
  · exact ⟨HC0.out _ hR10, hB10⟩
  clear hS
  intro hS
  try simp only [List.setIfInBounds_toArray, List.set_cons_zero, List.set_cons_succ]
  refine Ord.step (i := 33) rfl (by kernel_rfl) (by rfl) ?_
  intro K HK
  go_simp
  refine HK.out _ _ ?_
  clear HK
  refine ⟨Ord.np (by kernel_rfl), ?_⟩
  try simp only [List.setIfInBounds_toArray, List.set_cons_zero, List.set_cons_succ]
  refine Ord.tf 34 82 rfl rfl ?_
  refine Ord.tf 35 83 rfl rfl ?_
  refine Ord.tf 36 84 rfl rfl ?_
  refine Ord.tf 37 85 rfl rfl ?_
  refine Ord.tf 38 86 rfl rfl ?_
  refine Ord.tf 39 0 rfl rfl ?_
  refine Ord.done (by kernel_rfl) ?_ _
  clear hS
  go_wp2
  go_ret
  exact ⟨rfl, hL10⟩


end Go.Proofs.YtoalboilghgalaaGreatDoor
