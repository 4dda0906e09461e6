/- Lemmas for this claim, in parts: Srow, Rot, Ins, Sm1, Sm2, Sm3, Stab. -/
import Derived.Test.YtoalboilghgalaaGreatDoorC01
import Derived.Test.YtoalboilghgalaaGreatDoorC32
import Derived.Test.YtoalboilghgalaaGreatDoorC18
import Derived.Test.YtoalboilghgalaaGreatDoorC13
import Derived.Test.YtoalboilghgalaaGreatDoorC25
import Derived.Deep.DeepCutAuto
set_option maxRecDepth 100000
set_option maxHeartbeats 4000000
set_option linter.unusedVariables false
set_option linter.unusedSimpArgs false
/- Keys in a row; slices.swapRange of keys. -/
namespace Go.Proofs.YtoalboilghgalaaGreatDoor
open Go.RowKit
open Go.Proofs.Dc (V Ds Ky)
attribute [local go_sem] run_store_float

/-- keys in a row, one behind the other -/
def kAll : List Ky → List Value
  | [] => []
  | k :: r => .string k.str :: .int .i64 k.sym :: kAll r
theorem kAll_length : ∀ l, (kAll l).length = l.length * 2
  | [] => rfl
  | _ :: r => by rw [kAll, List.length_cons, List.length_cons, List.length_cons, kAll_length r]; omega
theorem kAll_app : ∀ l m, kAll (l ++ m) = kAll l ++ kAll m
  | [], _ => rfl
  | _ :: r, m => by rw [List.cons_append, kAll, kAll, kAll_app r m]; rfl
theorem kAll_get : ∀ (l : List Ky) (i : Nat) (k : Ky), l[i]? = some k → (kAll l)[i * 2]? = some (.string k.str) ∧ (kAll l)[i * 2 + 1]? = some (.int .i64 k.sym)
  | [], i, k, h => by simp at h
  | x :: r, 0, k, h => by
    obtain rfl : x = k := by simpa using h
    exact ⟨rfl, rfl⟩
  | x :: r, i + 1, k, h => by
    have h2 : r[i]? = some k := by simpa using h
    have := kAll_get r i k h2
    rw [kAll, show (i + 1) * 2 = i * 2 + 1 + 1 by omega, List.getElem?_cons_succ, List.getElem?_cons_succ, show i * 2 + 1 + 1 + 1 = (i * 2 + 1) + 1 + 1 by omega, List.getElem?_cons_succ, List.getElem?_cons_succ]
    exact this
theorem kAll_set : ∀ (l : List Ky) (i : Nat) (k : Ky), kAll (l.set i k) = ((kAll l).set (i * 2) (.string k.str)).set (i * 2 + 1) (.int .i64 k.sym)
  | [], i, k => rfl
  | x :: r, 0, k => rfl
  | x :: r, i + 1, k => by
    have h1 : (i + 1) * 2 = i * 2 + 1 + 1 := by omega
    rw [List.set_cons_succ]
    simp only [kAll]
    rw [kAll_set r i k, h1]
    rfl
/-- the cells of a row of keys, and what lies behind -/
def kRow (l : List Ky) (r : List Value) : Array Value := (kAll l ++ r).toArray
theorem kRow_range {W : World} {g : Nat} {l : List Ky} {r : List Value} (h : Blk W g (kRow l r) 40) (i : Nat) (k : Ky) (hi : l[i]? = some k) : W.rangeAt g (i * 2) [.string k.str, .int .i64 k.sym] := fun j v hv => by
  have hg := kAll_get l i k hi
  have hlt : i < l.length := (List.getElem?_eq_some_iff.1 hi).1
  have hlen := kAll_length l
  have hj : j < 2 := (List.getElem?_eq_some_iff.1 hv).1
  rw [h.cell]
  unfold kRow
  rw [List.getElem?_toArray, List.getElem?_append_left (by omega)]
  match j, hj with
  | 0, _ => rw [← hv]; exact hg.1
  | 1, _ => rw [← hv]; exact hg.2
theorem kRow_size (l : List Ky) (r : List Value) : (kRow l r).size = l.length * 2 + r.length := by unfold kRow; rw [List.size_toArray, List.length_append, kAll_length]
theorem kRow_laid (l : List Ky) (r : List Value) (i : Nat) (k : Ky) (hi : i < l.length) : laid (kRow l r) (i * 2) (kArr k).toList = kRow (l.set i k) r := by
  have hlen := kAll_length l
  show ((kRow l r).setIfInBounds (i * 2) (.string k.str)).setIfInBounds (i * 2 + 1) (.int .i64 k.sym) = _
  unfold kRow
  rw [List.setIfInBounds_toArray, List.setIfInBounds_toArray, kAll_set, List.set_append_left _ _ (by omega), List.set_append_left _ _ (by rw [List.length_set]; omega)]
theorem swp_eq (l : List Ky) (i j : Nat) (a b : Ky) (hi : l[i]? = some a) (hj : l[j]? = some b) : Srt.swp l i j = (l.set i b).set j a := by unfold Srt.swp; rw [hi, hj]
theorem kArr_is1 (k : Ky) : (kArr k).all (·.oneCell') = true := by simp [kArr, Value.oneCell']
theorem wrap_nat (n : Nat) (h : n < 4611686018427387904) : IntKind.i64.wrap (n : Int) = n := by unfold IntKind.wrap; simp [IntKind.signed, IntKind.bits]; omega
attribute [local go_sem] Oper.semAt_some
theorem swapRange_any (g cap N n a b : Nat) (fv : Value) (r : List Value) (l : List Ky) (w : World) (hN : l.length = N) (hNm : N < 4611686018427387904) (ha : a + n ≤ N) (hb : b + n ≤ N) (hB : Blk w g (kRow l r) 40) :
    Calls Tryz.prog 275 #[.slice (some ⟨g, 0, none⟩) N cap, .int .i64 a, .int .i64 b, .int .i64 n, fv] w fun e w' => e = .returned (.tuple #[]) ∧ Blk w' g (kRow (Srt.swR n a b l) r) 40 ∧ Only [g] w w' := by
  go_enter Tryz.func275, Tryz.ntmps275
  go_wp2
  go_loopg [10] n (fun fu s10 wr => ∃ (k : Nat) (m : List Ky), k + fu = n ∧ s10 = .int .i64 k ∧ m.length = N ∧ Srt.swR fu (a + k) (b + k) m = Srt.swR n a b l ∧ Blk wr g (kRow m r) 40 ∧ Only [g] w wr)
  case atStart => exact ⟨0, l, by omega, rfl, hN, rfl, hB, Only.refl _ _⟩
  case round =>
    obtain ⟨k, m, hk, rfl, hm, hs, hrow, ho⟩ := hrel
    by_cases hlt : k < n
    · obtain ⟨p, hp⟩ : ∃ p, a + k = p := ⟨_, rfl⟩
      obtain ⟨q, hq⟩ : ∃ q, b + k = q := ⟨_, rfl⟩
      have hpi : (a : Int) + (k : Int) = (p : Int) := by omega
      have hqi : (b : Int) + (k : Int) = (q : Int) := by omega
      have hp0 : (0 : Int) ≤ (p : Int) := by omega
      have hp1 : (p : Int) < (N : Int) := by omega
      have hq0 : (0 : Int) ≤ (q : Int) := by omega
      have hq1 : (q : Int) < (N : Int) := by omega
      have hpw := wrap_nat p (by omega)
      have hqw := wrap_nat q (by omega)
      obtain ⟨fu, rfl⟩ : ∃ fu, gk = fu + 1 := ⟨gk - 1, by omega⟩
      have HS := Lib.hid hs
      clear hs
      obtain ⟨x, hx⟩ : ∃ x, m[p]? = some x := ⟨_, List.getElem?_eq_getElem (by omega)⟩
      obtain ⟨y, hy⟩ : ∃ y, m[q]? = some y := ⟨_, List.getElem?_eq_getElem (by omega)⟩
      go_wp2
      refine Ord.region (fun W => Blk W g (kRow m r) 40) [4, 5, 6, 7, 22, 23] (by kernel_rfl) hrow ?_
      intro hS
      refine Ord.tp 0 16 rfl rfl ?_
      refine Ord.tp 1 17 rfl rfl ?_
      refine Ord.tp 2 18 rfl rfl ?_
      refine Ord.tp 3 19 rfl rfl ?_
      refine Ord.tf 4 20 rfl rfl ?_
      refine Ord.tf 5 21 rfl rfl ?_
      refine Ord.tf 6 22 rfl rfl ?_
      refine Ord.tf 7 23 rfl rfl ?_
      refine Ord.tp 8 24 rfl rfl ?_
      refine Ord.tp 9 25 rfl rfl ?_
      refine Ord.tp 10 26 rfl rfl ?_
      refine Ord.tp 11 27 rfl rfl ?_
      refine Ord.tp 12 28 rfl rfl ?_
      refine Ord.tk 13 29 rfl rfl (yieldsIf_load_mid (by rfl) 40 _ rfl g (q * 2) rfl [.string y.str, .int .i64 y.sym] _ (fun W hSW => kRow_range hSW q y hy) Tryz.underlying40 rfl Tryz.size40) ?_
      refine Ord.tp 14 30 rfl rfl ?_
      refine Ord.tp 15 31 rfl rfl ?_
      refine Ord.tp 16 32 rfl rfl ?_
      refine Ord.tp 17 33 rfl rfl ?_
      refine Ord.tp 18 34 rfl rfl ?_
      refine Ord.tk 19 35 rfl rfl (yieldsIf_load_mid (by rfl) 40 _ rfl g (p * 2) rfl [.string x.str, .int .i64 x.sym] _ (fun W hSW => kRow_range hSW p x hx) Tryz.underlying40 rfl Tryz.size40) ?_
      refine Ord.tp 20 36 rfl rfl ?_
      refine Ord.step (i := 21) rfl (by kernel_rfl) (by rfl) ?_
      intro K HK
      refine store_part_op 40 (.tmp 36) (.tmp 29) rfl g (p * 2) (kArr y) _ 40 rfl rfl (show Blk _ g (kRow m r) 40 from hS) Tryz.size40 (by rw [kRow_size, show (kArr y).size = 2 from rfl]; (try simp only [List.length_set]); omega) (kArr_is1 _) ?_
      intro w1 hXw1 hOw1
      rw [kRow_laid _ _ _ _ (by (try simp only [List.length_set]); omega)] at hXw1
      refine HK.out _ _ ?_
      clear HK
      refine ⟨Ord.np (by kernel_rfl), ?_⟩
      try simp only [List.setIfInBounds_toArray, List.set_cons_zero, List.set_cons_succ]
      refine Ord.take_free (i := 22) (v := ?_) 37 rfl rfl (by kernel_rfl) (by kernel_rfl) (by kernel_rfl) (by kernel_rfl) (fun _ _ _ h => h) (Ord.no_pend (S := fun W => Blk W g (kRow m r) 40) (by kernel_rfl)) (Or.inl ⟨by rfl, ?_⟩) ?_
      rotate_left
      · (intro W hSW; first | (with_reducible rfl) | (go_simp; done) | (go_simp; with_reducible rfl))
      try simp only [List.setIfInBounds_toArray, List.set_cons_zero, List.set_cons_succ]
      refine Ord.step (i := 23) rfl (by kernel_rfl) (by rfl) ?_
      intro K HK
      refine store_part_op 40 (.tmp 37) (.tmp 35) rfl g (q * 2) (kArr x) _ 40 rfl rfl hXw1 Tryz.size40 (by rw [kRow_size, show (kArr x).size = 2 from rfl]; (try simp only [List.length_set]); omega) (kArr_is1 _) ?_
      intro w2 hXw2 hOw2
      rw [kRow_laid _ _ _ _ (by (try simp only [List.length_set]); omega)] at hXw2
      refine HK.out _ _ ?_
      clear HK
      refine ⟨Ord.np (by kernel_rfl), ?_⟩
      try simp only [List.setIfInBounds_toArray, List.set_cons_zero, List.set_cons_succ]
      refine Ord.done (by kernel_rfl) ?_ _
      go_wp2
      go_roundg fu
      case measure => omega
      case rel =>
        refine ⟨k + 1, (m.set p y).set q x, by omega, by go_num, by simpa using hm, ?_, hXw2, (ho.trans (Only.of_below (Below.refl _ _).drew)).trans (hOw1.trans hOw2)⟩
        have := HS.out
        rw [Srt.swR, hp, hq, swp_eq m p q x y hx hy] at this
        rw [← this, ← hp, ← hq]
        rfl
    · go_wp2
      obtain rfl : gk = 0 := by omega
      rw [← hs]
      go_end0
      exact ⟨rfl, hrow, ho⟩

end Go.Proofs.YtoalboilghgalaaGreatDoor

/- slices.rotate of keys. -/
namespace Go.Proofs.YtoalboilghgalaaGreatDoor
open Go.RowKit
open Go.Proofs.Dc (V Ds Ky)
attribute [local go_sem] run_store_float

attribute [local go_sem] Oper.semAt_some
theorem swR_length : ∀ (n a b : Nat) (l : List Ky), (Srt.swR n a b l).length = l.length := fun n a b l => (Srt.swR_perm n a b l).length_eq
theorem rotate_any (g cap N a m b : Nat) (fv : Value) (r : List Value) (l : List Ky) (w : World) (hN : l.length = N) (hNm : N < 4611686018427387904) (ha : a < m) (hmb : m < b) (hb : b ≤ N) (hB : Blk w g (kRow l r) 40) :
    Calls Tryz.prog 274 #[.slice (some ⟨g, 0, none⟩) N cap, .int .i64 a, .int .i64 m, .int .i64 b, fv] w fun e w' => e = .returned (.tuple #[]) ∧ Blk w' g (kRow (Srt.rotate a m b l) r) 40 ∧ Only [g] w w' := by
  have h1 : (m : Int) - (a : Int) = ((m - a : Nat) : Int) := by omega
  have h2 : (b : Int) - (m : Int) = ((b - m : Nat) : Int) := by omega
  have h3 := wrap_nat (m - a) (by omega)
  have h4 := wrap_nat (b - m) (by omega)
  obtain ⟨R, hR⟩ : ∃ R, Srt.rotate a m b l = R := ⟨_, rfl⟩
  rw [hR]
  have hr0 : Srt.rot m (b - a) (m - a) (b - m) l = R := hR
  clear hR
  go_enter Tryz.func274, Tryz.ntmps274
  go_wp2
  clear h1 h2 h3 h4
  go_loopg [10, 11] (b - a) (fun fu s10 s11 wr => ∃ (i j : Nat) (mm : List Ky), s10 = .int .i64 i ∧ s11 = .int .i64 j ∧ 1 ≤ i ∧ 1 ≤ j ∧ i ≤ m ∧ m + j ≤ N ∧ i + j ≤ fu ∧ mm.length = N ∧ Srt.rot m fu i j mm = R ∧ Blk wr g (kRow mm r) 40 ∧ Only [g] w wr)
  case atStart => exact ⟨m - a, b - m, l, rfl, rfl, by omega, by omega, by omega, by omega, by omega, hN, hr0, hB, Only.refl _ _⟩
  case round =>
    obtain ⟨i, j, mm, rfl, rfl, hi1, hj1, him, hjb, hij, hmm, hs, hrow, ho⟩ := hrel
    obtain ⟨fu, rfl⟩ : ∃ fu, gk = fu + 1 := ⟨gk - 1, by omega⟩
    rw [Srt.rot] at hs
    have hmi : (m : Int) - (i : Int) = ((m - i : Nat) : Int) := by omega
    have hmw := wrap_nat (m - i) (by omega)
    clear hB
    by_cases he : i = j
    · subst he
      rw [if_pos rfl] at hs
      have HS := Lib.hid hs
      clear hs
      go_wp2_with (go_at_call 275; refine (swapRange_any g cap N i (m - i) m fv r mm _ hmm hNm (by omega) (by omega) hrow).mono ?_; rintro e w9 ⟨rfl, hr9, ho9⟩)
      go_end0
      exact ⟨rfl, by rw [← HS.out]; exact hr9, ho.trans ho9⟩
    · rw [if_neg he] at hs
      by_cases hlt : j < i
      · rw [if_pos hlt] at hs
        have HS := Lib.hid hs
        have hd : (i : Int) - (j : Int) = ((i - j : Nat) : Int) := by omega
        have hdw := wrap_nat (i - j) (by omega)
        have hlt2 : (j : Int) < (i : Int) := by omega
        clear hs
        go_wp2_with (go_at_call 275; refine (swapRange_any g cap N j (m - i) m fv r mm _ hmm hNm (by omega) (by omega) hrow).mono ?_; rintro e w9 ⟨rfl, hr9, ho9⟩)
        go_roundg fu
        case measure => omega
        case rel =>
          exact ⟨(i - j), j, _, by go_num, by go_num, by omega, by omega, by omega, by omega, by omega, by rw [swR_length]; exact hmm, HS.out, hr9, ho.trans ho9⟩
      · rw [if_neg hlt] at hs
        have HS := Lib.hid hs
        have hd : (j : Int) - (i : Int) = ((j - i : Nat) : Int) := by omega
        have hdw := wrap_nat (j - i) (by omega)
        obtain ⟨q, hq⟩ : ∃ q, q = m + j := ⟨_, rfl⟩
        obtain ⟨q2, hqq⟩ : ∃ q2, q2 = m + j - i := ⟨_, rfl⟩
        have hq1 : (m : Int) + (j : Int) = (q : Int) := by omega
        have hq1w := wrap_nat q (by omega)
        have hq2 : (q : Int) - (i : Int) = (q2 : Int) := by omega
        have hq2w := wrap_nat q2 (by omega)
        rw [← hqq] at HS
        have hqb : q2 + i ≤ N := by omega
        replace hqq := Lib.hid hqq
        replace hq := Lib.hid hq
        have hge : ¬ (j : Int) < (i : Int) := by omega
        clear hs
        go_wp2_with (go_at_call 275; refine (swapRange_any g cap N i (m - i) q2 fv r mm _ hmm hNm (by omega) (by omega) hrow).mono ?_; rintro e w9 ⟨rfl, hr9, ho9⟩)
        go_roundg fu
        case measure => omega
        case rel =>
          exact ⟨i, (j - i), _, by go_num, by go_num, by omega, by omega, by omega, by omega, by omega, by rw [swR_length]; exact hmm, HS.out, hr9, ho.trans ho9⟩

end Go.Proofs.YtoalboilghgalaaGreatDoor

/- slices.insertionSort of keys. -/
namespace Go.Proofs.YtoalboilghgalaaGreatDoor
open Go.RowKit
open Go.Proofs.Dc (V Ds Ky)
attribute [local go_sem] run_store_float

attribute [local go_sem] Oper.semAt_some
/-- the one key lies ahead of the other -/
def ltK (a b : Ky) : Bool := decide (cmpK a b < 0)
theorem lss_eq (l : List Ky) (i j : Nat) (x y : Ky) (hi : l[i]? = some x) (hj : l[j]? = some y) : Srt.lss ltK l i j = ltK x y := by unfold Srt.lss; rw [hi, hj]
theorem insertion_any (g cap N a b : Nat) (r : List Value) (l : List Ky) (w : World) (hN : l.length = N) (hNm : N < 2305843009213693952) (ha : a ≤ N) (hb : b ≤ N) (hB : Blk w g (kRow l r) 40) :
    Calls Tryz.prog 272 #[.slice (some ⟨g, 0, none⟩) N cap, .int .i64 a, .int .i64 b, .func (.func 262) #[] #[]] w fun e w' => e = .returned (.tuple #[]) ∧ Blk w' g (kRow (Srt.insertion ltK a b l) r) 40 ∧ Only [g] w w' := by
  obtain ⟨R, hR⟩ : ∃ R, Srt.insertion ltK a b l = R := ⟨_, rfl⟩
  rw [hR]
  have hr0 : Srt.insO ltK a (b - (a + 1)) (a + 1) l = R := hR
  clear hR
  have ha1 := wrap_nat (a + 1) (by omega)
  go_enter Tryz.func272, Tryz.ntmps272
  go_wp2
  clear ha1
  go_loopg [8, 9] (b - (a + 1)) (fun fu s8 s9 wr => ∃ (i : Nat) (mm : List Ky), s8 = .int .i64 i ∧ mm.length = N ∧ a + 1 ≤ i ∧ fu = b - i ∧ Srt.insO ltK a fu i mm = R ∧ Blk wr g (kRow mm r) 40 ∧ Only [g] w wr)
  case atStart => exact ⟨a + 1, l, by go_num, hN, by omega, rfl, hr0, hB, Only.refl _ _⟩
  case round =>
    obtain ⟨i, m0, rfl, hm0, hia, hfu, hs0, hrow0, ho0⟩ := hrel
    clear hB hr0
    by_cases hib : i < b
    · have hfu1 : gk = (b - (i + 1)) + 1 := by omega
      rw [hfu1, Srt.insO] at hs0
      obtain ⟨M, hM⟩ : ∃ M, Srt.insJ ltK a i m0 = M := ⟨_, rfl⟩
      rw [hM] at hs0
      have hML : M.length = N := by rw [← hM, ← hm0]; exact (Srt.insJ_perm a i m0).length_eq
      have HR := Lib.hid hs0
      have HM := Lib.hid hM
      clear hs0 hM
      go_wp2
      go_loopg [9] i (fun fu s9 wr => ∃ (j : Nat) (mm : List Ky), fu = j ∧ s9 = .int .i64 j ∧ j < N ∧ mm.length = N ∧ Srt.insJ ltK a j mm = M ∧ Blk wr g (kRow mm r) 40 ∧ Only [g] w wr)
      case atStart => exact ⟨i, m0, rfl, rfl, by omega, hm0, HM.out, hrow0, ho0⟩
      case round =>
        obtain ⟨j, mm, hfj, rfl, hj, hmm, hs, hrow, ho⟩ := hrel
        clear hrow0 ho0
        by_cases haj : a < j
        · obtain ⟨p, hp⟩ : ∃ p, j = p + 1 := ⟨j - 1, by omega⟩
          obtain ⟨x, hx⟩ : ∃ x, mm[j]? = some x := ⟨_, List.getElem?_eq_getElem (by omega)⟩
          obtain ⟨y, hy⟩ : ∃ y, mm[p]? = some y := ⟨_, List.getElem?_eq_getElem (by omega)⟩
          obtain ⟨c, hc⟩ : ∃ c, cmpK x y = c := ⟨_, rfl⟩
          have hcall := fun W => ord1_any x y W
          rw [hc] at hcall
          have HC := Lib.hid hcall
          have hs2 : (if c < 0 then Srt.insJ ltK a p (Srt.swp mm j p) else mm) = M := by
            rw [← hs, hp, Srt.insJ, ← hp, lss_eq mm j p x y hx hy, ltK, hc]
            simp only [haj, decide_eq_true_eq, true_and]
          have HX := Lib.hid (And.intro hx hy)
          have hjp : (j : Int) - 1 = (p : Int) := by omega
          have hpw := wrap_nat p (by omega)
          have haj2 : (a : Int) < (j : Int) := by omega
          have hj0 : (0 : Int) ≤ (j : Int) := by omega
          have hj1 : (j : Int) < (N : Int) := by omega
          have hp0 : (0 : Int) ≤ (p : Int) := by omega
          have hp1 : (p : Int) < (N : Int) := by omega
          have HP := Lib.hid hp
          have hpj : p < j := by omega
          clear hcall hc hs hx hy hp
          by_cases hlt : c < 0
          · rw [if_pos hlt] at hs2
            have HS := Lib.hid hs2
            clear hs2
            go_wp2
            refine Ord.region (fun W => Blk W g (kRow mm r) 40) [0, 1, 2, 3, 15, 16] (by kernel_rfl) hrow ?_
            intro hS
            refine Ord.tf 0 18 rfl rfl ?_
            refine Ord.tf 1 19 rfl rfl ?_
            refine Ord.tf 2 20 rfl rfl ?_
            refine Ord.tf 3 21 rfl rfl ?_
            refine Ord.tp 4 22 rfl rfl ?_
            refine Ord.tp 5 23 rfl rfl ?_
            refine Ord.tp 6 24 rfl rfl ?_
            refine Ord.tp 7 25 rfl rfl ?_
            refine Ord.tk 8 26 rfl rfl (yieldsIf_load_mid (by rfl) 40 _ rfl g (j * 2) rfl [.string x.str, .int .i64 x.sym] _ (fun W hSW => kRow_range hSW j x HX.out.1) Tryz.underlying40 rfl Tryz.size40) ?_
            refine Ord.tp 9 27 rfl rfl ?_
            refine Ord.tp 10 28 rfl rfl ?_
            refine Ord.tp 11 29 rfl rfl ?_
            refine Ord.tp 12 30 rfl rfl ?_
            refine Ord.tk 13 31 rfl rfl (yieldsIf_load_mid (by rfl) 40 _ rfl g (p * 2) rfl [.string y.str, .int .i64 y.sym] _ (fun W hSW => kRow_range hSW p y HX.out.2) Tryz.underlying40 rfl Tryz.size40) ?_
            refine Ord.step (i := 14) rfl (by kernel_rfl) (by rfl) ?_
            intro K HK
            go_simp
            go_at_call 262; refine (HC.out _).mono ?_; rintro e w3 ⟨rfl, hb1⟩
            refine HK.out _ _ ?_
            clear HK
            refine ⟨Ord.np (by kernel_rfl), ?_⟩
            try simp only [List.setIfInBounds_toArray, List.set_cons_zero, List.set_cons_succ]
            refine Ord.tf 15 33 rfl rfl ?_
            refine Ord.tf 16 34 rfl rfl ?_
            refine Ord.done (by kernel_rfl) ?_ _
            have hrow2 := (show Blk _ g (kRow mm r) 40 from hS).next hb1
            have ho2 := (ho.trans (Only.of_below (Below.refl _ _).drew)).trans (Only.of_below hb1)
            clear hS
            go_wp2
            refine Ord.region (fun W => Blk W g (kRow mm r) 40) [2, 3, 4, 16, 17] (by kernel_rfl) hrow2 ?_
            intro hS
            refine Ord.tp 0 37 rfl rfl ?_
            refine Ord.tp 1 38 rfl rfl ?_
            refine Ord.tf 2 39 rfl rfl ?_
            refine Ord.tf 3 40 rfl rfl ?_
            refine Ord.tf 4 41 rfl rfl ?_
            refine Ord.tp 5 42 rfl rfl ?_
            refine Ord.tp 6 43 rfl rfl ?_
            refine Ord.tp 7 44 rfl rfl ?_
            refine Ord.tp 8 45 rfl rfl ?_
            refine Ord.tk 9 46 rfl rfl (yieldsIf_load_mid (by rfl) 40 _ rfl g (p * 2) rfl [.string y.str, .int .i64 y.sym] _ (fun W hSW => kRow_range hSW p y HX.out.2) Tryz.underlying40 rfl Tryz.size40) ?_
            refine Ord.tp 10 47 rfl rfl ?_
            refine Ord.tp 11 48 rfl rfl ?_
            refine Ord.tp 12 49 rfl rfl ?_
            refine Ord.tk 13 50 rfl rfl (yieldsIf_load_mid (by rfl) 40 _ rfl g (j * 2) rfl [.string x.str, .int .i64 x.sym] _ (fun W hSW => kRow_range hSW j x HX.out.1) Tryz.underlying40 rfl Tryz.size40) ?_
            refine Ord.tp 14 51 rfl rfl ?_
            refine Ord.step (i := 15) rfl (by kernel_rfl) (by rfl) ?_
            intro K HK
            refine store_part_op 40 (.tmp 51) (.tmp 46) rfl g (j * 2) (kArr y) _ 40 rfl rfl (show Blk _ g (kRow mm r) 40 from hS) Tryz.size40 (by rw [kRow_size, show (kArr y).size = 2 from rfl]; (try simp only [List.length_set]); omega) (kArr_is1 _) ?_
            intro w1 hXw1 hOw1
            rw [kRow_laid _ _ _ _ (by (try simp only [List.length_set]); omega)] at hXw1
            refine HK.out _ _ ?_
            clear HK
            refine ⟨Ord.np (by kernel_rfl), ?_⟩
            try simp only [List.setIfInBounds_toArray, List.set_cons_zero, List.set_cons_succ]
            refine Ord.take_free (i := 16) (v := ?_) 52 rfl rfl (by kernel_rfl) (by kernel_rfl) (by kernel_rfl) (by kernel_rfl) (fun _ _ _ h => h) (Ord.no_pend (S := fun W => Blk W g (kRow mm r) 40) (by kernel_rfl)) (Or.inl ⟨by rfl, ?_⟩) ?_
            rotate_left
            · (intro W hSW; first | (with_reducible rfl) | (go_simp; done) | (go_simp; with_reducible rfl))
            try simp only [List.setIfInBounds_toArray, List.set_cons_zero, List.set_cons_succ]
            refine Ord.step (i := 17) rfl (by kernel_rfl) (by rfl) ?_
            intro K HK
            refine store_part_op 40 (.tmp 52) (.tmp 50) rfl g (p * 2) (kArr x) _ 40 rfl rfl hXw1 Tryz.size40 (by rw [kRow_size, show (kArr x).size = 2 from rfl]; (try simp only [List.length_set]); omega) (kArr_is1 _) ?_
            intro w2 hXw2 hOw2
            rw [kRow_laid _ _ _ _ (by (try simp only [List.length_set]); omega)] at hXw2
            refine HK.out _ _ ?_
            clear HK
            refine ⟨Ord.np (by kernel_rfl), ?_⟩
            try simp only [List.setIfInBounds_toArray, List.set_cons_zero, List.set_cons_succ]
            refine Ord.done (by kernel_rfl) ?_ _
            go_wp2
            go_roundg p
            case measure => omega
            case rel =>
              have e : Srt.insJ ltK a p ((mm.set j y).set p x) = M := by rw [← swp_eq mm j p x y HX.out.1 HX.out.2]; exact HS.out
              exact ⟨p, (mm.set j y).set p x, rfl, by go_num, by omega, by simpa using hmm, e, hXw2, (ho2.trans (Only.of_below (Below.refl _ _).drew)).trans (hOw1.trans hOw2)⟩
          · rw [if_neg hlt] at hs2
            obtain rfl : mm = M := hs2
            go_wp2
            refine Ord.region (fun W => Blk W g (kRow mm r) 40) [0, 1, 2, 3, 15, 16] (by kernel_rfl) hrow ?_
            intro hS
            refine Ord.tf 0 18 rfl rfl ?_
            refine Ord.tf 1 19 rfl rfl ?_
            refine Ord.tf 2 20 rfl rfl ?_
            refine Ord.tf 3 21 rfl rfl ?_
            refine Ord.tp 4 22 rfl rfl ?_
            refine Ord.tp 5 23 rfl rfl ?_
            refine Ord.tp 6 24 rfl rfl ?_
            refine Ord.tp 7 25 rfl rfl ?_
            refine Ord.tk 8 26 rfl rfl (yieldsIf_load_mid (by rfl) 40 _ rfl g (j * 2) rfl [.string x.str, .int .i64 x.sym] _ (fun W hSW => kRow_range hSW j x HX.out.1) Tryz.underlying40 rfl Tryz.size40) ?_
            refine Ord.tp 9 27 rfl rfl ?_
            refine Ord.tp 10 28 rfl rfl ?_
            refine Ord.tp 11 29 rfl rfl ?_
            refine Ord.tp 12 30 rfl rfl ?_
            refine Ord.tk 13 31 rfl rfl (yieldsIf_load_mid (by rfl) 40 _ rfl g (p * 2) rfl [.string y.str, .int .i64 y.sym] _ (fun W hSW => kRow_range hSW p y HX.out.2) Tryz.underlying40 rfl Tryz.size40) ?_
            refine Ord.step (i := 14) rfl (by kernel_rfl) (by rfl) ?_
            intro K HK
            go_simp
            go_at_call 262; refine (HC.out _).mono ?_; rintro e w3 ⟨rfl, hb1⟩
            refine HK.out _ _ ?_
            clear HK
            refine ⟨Ord.np (by kernel_rfl), ?_⟩
            try simp only [List.setIfInBounds_toArray, List.set_cons_zero, List.set_cons_succ]
            refine Ord.tf 15 33 rfl rfl ?_
            refine Ord.tf 16 34 rfl rfl ?_
            refine Ord.done (by kernel_rfl) ?_ _
            have hrow2 := (show Blk _ g (kRow mm r) 40 from hS).next hb1
            have ho2 := (ho.trans (Only.of_below (Below.refl _ _).drew)).trans (Only.of_below hb1)
            clear hS
            go_wp2
            go_roundg (b - (i + 1))
            case measure => omega
            case rel => exact ⟨i + 1, mm, by go_num, hmm, by omega, rfl, HR.out, hrow2, ho2⟩
        · obtain rfl : mm = M := by
            rw [← hs]
            cases j with
            | zero => rfl
            | succ p => rw [Srt.insJ, if_neg (fun h => haj h.1)]
          have haj2 : ¬ (a : Int) < (j : Int) := by omega
          go_wp2
          refine Ord.region (fun W => Blk W g (kRow mm r) 40) [0, 1, 2, 3, 4, 5, 6, 7, 8, 9, 10, 11, 12, 13, 14, 15, 16] (by kernel_rfl) hrow ?_
          intro hS
          refine Ord.tf 0 18 rfl rfl ?_
          refine Ord.tf 1 19 rfl rfl ?_
          refine Ord.tf 2 20 rfl rfl ?_
          refine Ord.tf 3 21 rfl rfl ?_
          refine Ord.take_free (i := 4) (v := undef) 22 rfl rfl (by kernel_rfl) (by kernel_rfl) (by kernel_rfl) (by kernel_rfl) (fun _ _ _ h => h) (by first | (intro _; assumption) | exact Ord.no_pend (S := fun W => Blk W g (kRow mm r) 40) (by kernel_rfl)) (Or.inr ⟨by rfl, rfl⟩) ?_
          try simp only [List.setIfInBounds_toArray, List.set_cons_zero, List.set_cons_succ]
          refine Ord.take_free (i := 5) (v := undef) 23 rfl rfl (by kernel_rfl) (by kernel_rfl) (by kernel_rfl) (by kernel_rfl) (fun _ _ _ h => h) (by first | (intro _; assumption) | exact Ord.no_pend (S := fun W => Blk W g (kRow mm r) 40) (by kernel_rfl)) (Or.inr ⟨by rfl, rfl⟩) ?_
          try simp only [List.setIfInBounds_toArray, List.set_cons_zero, List.set_cons_succ]
          refine Ord.take_free (i := 6) (v := undef) 24 rfl rfl (by kernel_rfl) (by kernel_rfl) (by kernel_rfl) (by kernel_rfl) (fun _ _ _ h => h) (by first | (intro _; assumption) | exact Ord.no_pend (S := fun W => Blk W g (kRow mm r) 40) (by kernel_rfl)) (Or.inr ⟨by rfl, rfl⟩) ?_
          try simp only [List.setIfInBounds_toArray, List.set_cons_zero, List.set_cons_succ]
          refine Ord.take_free (i := 7) (v := undef) 25 rfl rfl (by kernel_rfl) (by kernel_rfl) (by kernel_rfl) (by kernel_rfl) (fun _ _ _ h => h) (by first | (intro _; assumption) | exact Ord.no_pend (S := fun W => Blk W g (kRow mm r) 40) (by kernel_rfl)) (Or.inr ⟨by rfl, rfl⟩) ?_
          try simp only [List.setIfInBounds_toArray, List.set_cons_zero, List.set_cons_succ]
          refine Ord.take_free (i := 8) (v := undef) 26 rfl rfl (by kernel_rfl) (by kernel_rfl) (by kernel_rfl) (by kernel_rfl) (fun _ _ _ h => h) (by first | (intro _; assumption) | exact Ord.no_pend (S := fun W => Blk W g (kRow mm r) 40) (by kernel_rfl)) (Or.inr ⟨by rfl, rfl⟩) ?_
          try simp only [List.setIfInBounds_toArray, List.set_cons_zero, List.set_cons_succ]
          refine Ord.take_free (i := 9) (v := undef) 27 rfl rfl (by kernel_rfl) (by kernel_rfl) (by kernel_rfl) (by kernel_rfl) (fun _ _ _ h => h) (by first | (intro _; assumption) | exact Ord.no_pend (S := fun W => Blk W g (kRow mm r) 40) (by kernel_rfl)) (Or.inr ⟨by rfl, rfl⟩) ?_
          try simp only [List.setIfInBounds_toArray, List.set_cons_zero, List.set_cons_succ]
          refine Ord.take_free (i := 10) (v := undef) 28 rfl rfl (by kernel_rfl) (by kernel_rfl) (by kernel_rfl) (by kernel_rfl) (fun _ _ _ h => h) (by first | (intro _; assumption) | exact Ord.no_pend (S := fun W => Blk W g (kRow mm r) 40) (by kernel_rfl)) (Or.inr ⟨by rfl, rfl⟩) ?_
          try simp only [List.setIfInBounds_toArray, List.set_cons_zero, List.set_cons_succ]
          refine Ord.take_free (i := 11) (v := undef) 29 rfl rfl (by kernel_rfl) (by kernel_rfl) (by kernel_rfl) (by kernel_rfl) (fun _ _ _ h => h) (by first | (intro _; assumption) | exact Ord.no_pend (S := fun W => Blk W g (kRow mm r) 40) (by kernel_rfl)) (Or.inr ⟨by rfl, rfl⟩) ?_
          try simp only [List.setIfInBounds_toArray, List.set_cons_zero, List.set_cons_succ]
          refine Ord.take_free (i := 12) (v := undef) 30 rfl rfl (by kernel_rfl) (by kernel_rfl) (by kernel_rfl) (by kernel_rfl) (fun _ _ _ h => h) (by first | (intro _; assumption) | exact Ord.no_pend (S := fun W => Blk W g (kRow mm r) 40) (by kernel_rfl)) (Or.inr ⟨by rfl, rfl⟩) ?_
          try simp only [List.setIfInBounds_toArray, List.set_cons_zero, List.set_cons_succ]
          refine Ord.take_free (i := 13) (v := undef) 31 rfl rfl (by kernel_rfl) (by kernel_rfl) (by kernel_rfl) (by kernel_rfl) (fun _ _ _ h => h) (by first | (intro _; assumption) | exact Ord.no_pend (S := fun W => Blk W g (kRow mm r) 40) (by kernel_rfl)) (Or.inr ⟨by rfl, rfl⟩) ?_
          try simp only [List.setIfInBounds_toArray, List.set_cons_zero, List.set_cons_succ]
          refine Ord.take_free (i := 14) (v := undef) 32 rfl rfl (by kernel_rfl) (by kernel_rfl) (by kernel_rfl) (by kernel_rfl) (fun _ _ _ h => h) (by first | (intro _; assumption) | exact Ord.no_pend (S := fun W => Blk W g (kRow mm r) 40) (by kernel_rfl)) (Or.inr ⟨by rfl, rfl⟩) ?_
          try simp only [List.setIfInBounds_toArray, List.set_cons_zero, List.set_cons_succ]
          refine Ord.take_free (i := 15) (v := undef) 33 rfl rfl (by kernel_rfl) (by kernel_rfl) (by kernel_rfl) (by kernel_rfl) (fun _ _ _ h => h) (by first | (intro _; assumption) | exact Ord.no_pend (S := fun W => Blk W g (kRow mm r) 40) (by kernel_rfl)) (Or.inr ⟨by rfl, rfl⟩) ?_
          try simp only [List.setIfInBounds_toArray, List.set_cons_zero, List.set_cons_succ]
          refine Ord.tf 16 34 rfl rfl ?_
          refine Ord.done (by kernel_rfl) ?_ _
          go_wp2
          go_roundg (b - (i + 1))
          case measure => omega
          case rel => exact ⟨i + 1, mm, by go_num, hmm, by omega, rfl, HR.out, (show Blk _ g (kRow mm r) 40 from hrow), (ho.trans (Only.of_below (Below.refl _ _).drew))⟩
    · obtain rfl : gk = 0 := by omega
      obtain rfl : m0 = R := hs0
      go_wp2
      go_end0
      exact ⟨rfl, hrow0, ho0⟩

end Go.Proofs.YtoalboilghgalaaGreatDoor

/- slices.symMerge of keys: one element ahead. -/
namespace Go.Proofs.YtoalboilghgalaaGreatDoor
open Go.RowKit
open Go.Proofs.Dc (V Ds Ky)
attribute [local go_sem] run_store_float

attribute [local go_sem] Oper.semAt_some
theorem wrap_u64 (n : Nat) (h : n < 9223372036854775808) : IntKind.u64.wrap (n : Int) = n := by unfold IntKind.wrap; simp [IntKind.signed, IntKind.bits]; omega
theorem bs_same (p : Nat → Bool) : ∀ (f i : Nat), Srt.bs p f i i = i
  | 0, _ => rfl
  | f + 1, i => by unfold Srt.bs; rw [if_neg (Nat.lt_irrefl i)]
theorem sm1_any (g cap N f a m b : Nat) (r : List Value) (l : List Ky) (w : World) (hN : l.length = N) (hNm : N < 2305843009213693952) (ha : a < m) (hmb : m < b) (hb : b ≤ N) (h1 : m - a = 1) (hB : Blk w g (kRow l r) 40) :
    Calls Tryz.prog 273 #[.slice (some ⟨g, 0, none⟩) N cap, .int .i64 a, .int .i64 m, .int .i64 b, .func (.func 262) #[] #[]] w fun e w' => e = .returned (.tuple #[]) ∧ Blk w' g (kRow (Srt.symMerge ltK (f + 1) a m b l) r) 40 ∧ Only [g] w w' := by
  rw [Srt.symMerge, if_pos h1]
  obtain ⟨p, hp⟩ : ∃ p, p = (fun h => Srt.lss ltK l h a) := ⟨_, rfl⟩
  rw [← hp]
  obtain ⟨I, hI⟩ : ∃ I, Srt.bs p (b - m) m b = I := ⟨_, rfl⟩
  rw [hI]
  obtain ⟨R, hR⟩ : ∃ R, Srt.ups (I - 1 - a) a l = R := ⟨_, rfl⟩
  rw [hR]
  have hle := Srt.bs_le p (b - m) m b (by omega)
  rw [hI] at hle
  have hd : (m : Int) - (a : Int) = 1 := by omega
  have HI := Lib.hid hI
  have HRR := Lib.hid hR
  have HPP := Lib.hid hp
  clear hI hR hp
  go_enter Tryz.func273, Tryz.ntmps273
  go_wp2
  go_loopg [10, 11] (b - m) (fun fu s10 s11 wr => ∃ lo hi : Nat, s10 = .int .i64 lo ∧ s11 = .int .i64 hi ∧ m ≤ lo ∧ lo ≤ hi ∧ hi ≤ b ∧ hi - lo ≤ fu ∧ Srt.bs p fu lo hi = I ∧ Blk wr g (kRow l r) 40 ∧ Only [g] w wr)
  case atStart => exact ⟨m, b, rfl, rfl, Nat.le_refl _, by omega, Nat.le_refl _, Nat.le_refl _, HI.out, hB, Only.refl _ _⟩
  case round =>
    obtain ⟨lo, hi, rfl, rfl, hlo, hlohi, hhi, hfu, hbs, hrow, ho⟩ := hrel
    clear hB
    by_cases hlt : lo < hi
    · obtain ⟨fu, rfl⟩ : ∃ fu, gk = fu + 1 := ⟨gk - 1, by omega⟩
      obtain ⟨su, hsu⟩ : ∃ su, lo + hi = su := ⟨_, rfl⟩
      obtain ⟨h, hh⟩ : ∃ h, h = (lo + hi) / 2 := ⟨_, rfl⟩
      have e1 : (lo : Int) + (hi : Int) = (su : Int) := by omega
      have e2 := wrap_nat su (by omega)
      have e3 := wrap_u64 su (by omega)
      have e4 : (su : Int) / 2 = (h : Int) := by omega
      have e5 := wrap_nat h (by omega)
      have e6 := wrap_u64 h (by omega)
      have hlh : lo ≤ h := by omega
      have hhh : h < hi := by omega
      have hh0 : (0 : Int) ≤ (h : Int) := by omega
      have hh1 : (h : Int) < (N : Int) := by omega
      have hlt2 : (lo : Int) < (hi : Int) := by omega
      have HSU := Lib.hid hsu
      have HH := Lib.hid hh
      clear hsu hh
      obtain ⟨x, hx⟩ : ∃ x, l[h]? = some x := ⟨_, List.getElem?_eq_getElem (by omega)⟩
      obtain ⟨y, hy⟩ : ∃ y, l[a]? = some y := ⟨_, List.getElem?_eq_getElem (by omega)⟩
      have ha0 : (0 : Int) ≤ (a : Int) := by omega
      have ha1 : (a : Int) < (N : Int) := by omega
      have haw := wrap_nat a (by omega)
      obtain ⟨c, hc⟩ : ∃ c, cmpK x y = c := ⟨_, rfl⟩
      have hcall := fun W => ord1_any x y W
      rw [hc] at hcall
      have HC := Lib.hid hcall
      have hbs2 : (if c < 0 then Srt.bs p fu (h + 1) hi else Srt.bs p fu lo h) = I := by
        rw [Srt.bs, if_pos hlt, ← HH.out, HPP.out] at hbs
        simp only [lss_eq l h a x y hx hy, ltK, hc, decide_eq_true_eq] at hbs
        rw [HPP.out]
        exact hbs
      have HX := Lib.hid (And.intro hx hy)
      clear hcall hc hx hy hbs
      by_cases hlt3 : c < 0
      · rw [if_pos hlt3] at hbs2
        have HB := Lib.hid hbs2
        clear hbs2
        obtain ⟨h2, hh2⟩ : ∃ h2, h2 = h + 1 := ⟨_, rfl⟩
        have e7 : (h : Int) + 1 = (h2 : Int) := by omega
        have e8 := wrap_nat h2 (by omega)
        rw [← hh2] at HB
        replace hh2 := And.intro (show h < h2 by omega) (show h2 ≤ hi by omega)
        · skip
          go_wp2
          refine Ord.region (fun W => Blk W g (kRow l r) 40) [10] (by kernel_rfl) hrow ?_
          intro hS
          refine Ord.tp 0 40 rfl rfl ?_
          refine Ord.tp 1 41 rfl rfl ?_
          refine Ord.tp 2 42 rfl rfl ?_
          refine Ord.tp 3 43 rfl rfl ?_
          refine Ord.tk 4 44 rfl rfl (yieldsIf_load_mid (by rfl) 40 _ rfl g (h * 2) rfl [.string x.str, .int .i64 x.sym] _ (fun W hSW => kRow_range hSW h x HX.out.1) Tryz.underlying40 rfl Tryz.size40) ?_
          refine Ord.tp 5 45 rfl rfl ?_
          refine Ord.tp 6 46 rfl rfl ?_
          refine Ord.tp 7 47 rfl rfl ?_
          refine Ord.tk 8 48 rfl rfl (yieldsIf_load_mid (by rfl) 40 _ rfl g (a * 2) rfl [.string y.str, .int .i64 y.sym] _ (fun W hSW => kRow_range hSW a y HX.out.2) Tryz.underlying40 rfl Tryz.size40) ?_
          refine Ord.step (i := 9) rfl (by kernel_rfl) (by rfl) ?_
          intro K HK
          go_simp
          go_at_call 262; refine (HC.out _).mono ?_; rintro e w3 ⟨rfl, hb1⟩
          refine HK.out _ _ ?_
          clear HK
          refine ⟨Ord.np (by kernel_rfl), ?_⟩
          try simp only [List.setIfInBounds_toArray, List.set_cons_zero, List.set_cons_succ]
          refine Ord.tf 10 50 rfl rfl ?_
          refine Ord.done (by kernel_rfl) ?_ _
          have hrow2 := (show Blk _ g (kRow l r) 40 from hS).next hb1
          have ho2 := (ho.trans (Only.of_below (Below.refl _ _).drew)).trans (Only.of_below hb1)
          clear hS
          go_wp2
          go_roundg fu
          case measure => omega
          case rel => exact ⟨h2, hi, by go_num, by go_num, by omega, by omega, by omega, by omega, HB.out, hrow2, ho2⟩
      · rw [if_neg hlt3] at hbs2
        have HB := Lib.hid hbs2
        clear hbs2
        · skip
          go_wp2
          refine Ord.region (fun W => Blk W g (kRow l r) 40) [10] (by kernel_rfl) hrow ?_
          intro hS
          refine Ord.tp 0 40 rfl rfl ?_
          refine Ord.tp 1 41 rfl rfl ?_
          refine Ord.tp 2 42 rfl rfl ?_
          refine Ord.tp 3 43 rfl rfl ?_
          refine Ord.tk 4 44 rfl rfl (yieldsIf_load_mid (by rfl) 40 _ rfl g (h * 2) rfl [.string x.str, .int .i64 x.sym] _ (fun W hSW => kRow_range hSW h x HX.out.1) Tryz.underlying40 rfl Tryz.size40) ?_
          refine Ord.tp 5 45 rfl rfl ?_
          refine Ord.tp 6 46 rfl rfl ?_
          refine Ord.tp 7 47 rfl rfl ?_
          refine Ord.tk 8 48 rfl rfl (yieldsIf_load_mid (by rfl) 40 _ rfl g (a * 2) rfl [.string y.str, .int .i64 y.sym] _ (fun W hSW => kRow_range hSW a y HX.out.2) Tryz.underlying40 rfl Tryz.size40) ?_
          refine Ord.step (i := 9) rfl (by kernel_rfl) (by rfl) ?_
          intro K HK
          go_simp
          go_at_call 262; refine (HC.out _).mono ?_; rintro e w3 ⟨rfl, hb1⟩
          refine HK.out _ _ ?_
          clear HK
          refine ⟨Ord.np (by kernel_rfl), ?_⟩
          try simp only [List.setIfInBounds_toArray, List.set_cons_zero, List.set_cons_succ]
          refine Ord.tf 10 50 rfl rfl ?_
          refine Ord.done (by kernel_rfl) ?_ _
          have hrow2 := (show Blk _ g (kRow l r) 40 from hS).next hb1
          have ho2 := (ho.trans (Only.of_below (Below.refl _ _).drew)).trans (Only.of_below hb1)
          clear hS
          go_wp2
          go_roundg fu
          case measure => omega
          case rel => exact ⟨lo, h, by go_num, by go_num, by omega, by omega, by omega, by omega, HB.out, hrow2, ho2⟩
    · obtain rfl : lo = hi := by omega
      rw [bs_same] at hbs
      obtain rfl : lo = I := hbs
      have hl1 : (lo : Int) - 1 = ((lo - 1 : Nat) : Int) := by omega
      obtain ⟨E, hE⟩ : ∃ E, lo - 1 = E := ⟨_, rfl⟩
      rw [hE] at hl1
      have hEw := wrap_nat E (by omega)
      have HE := Lib.hid hE
      have HRRR : Hid (Srt.ups (E - a) a l = R) := Lib.hid (by rw [← HE.out]; exact HRR.out)
      have haE : a ≤ E := by omega
      have hEb : E < b := by omega
      clear hE
      go_wp2
      go_loopg [13] (E - a) (fun fu s13 wr => ∃ (k : Nat) (mm : List Ky), s13 = .int .i64 k ∧ k + fu = E ∧ mm.length = N ∧ Srt.ups fu k mm = R ∧ Blk wr g (kRow mm r) 40 ∧ Only [g] w wr)
      case atStart => exact ⟨a, l, rfl, by omega, hN, HRRR.out, hrow, ho⟩
      case round =>
        obtain ⟨k, mm, rfl, hk, hmm, hs, hrow, ho⟩ := hrel
        by_cases hlt : k < E
        · obtain ⟨fu, rfl⟩ : ∃ fu, gk = fu + 1 := ⟨gk - 1, by omega⟩
          have HS := Lib.hid hs
          clear hs
          obtain ⟨p, hp⟩ : ∃ p, k + 1 = p := ⟨_, rfl⟩
          have HP := Lib.hid hp
          obtain ⟨x, hx⟩ : ∃ x, mm[k]? = some x := ⟨_, List.getElem?_eq_getElem (by omega)⟩
          obtain ⟨y, hy⟩ : ∃ y, mm[p]? = some y := ⟨_, List.getElem?_eq_getElem (by omega)⟩
          have HX := Lib.hid (And.intro hx hy)
          have e1 : (k : Int) + 1 = (p : Int) := by omega
          have e2 := wrap_nat p (by omega)
          have hk0 : (0 : Int) ≤ (k : Int) := by omega
          have hk1 : (k : Int) < (N : Int) := by omega
          have hp0 : (0 : Int) ≤ (p : Int) := by omega
          have hp1 : (p : Int) < (N : Int) := by omega
          have hkE : (k : Int) < (E : Int) := by omega
          have hpn : p < N := by omega
          have hkp : p + fu = E := by omega
          clear hx hy hp
          go_wp2
          refine Ord.region (fun W => Blk W g (kRow mm r) 40) [2, 3, 4, 16, 17] (by kernel_rfl) hrow ?_
          intro hS
          refine Ord.tp 0 61 rfl rfl ?_
          refine Ord.tp 1 62 rfl rfl ?_
          refine Ord.tf 2 63 rfl rfl ?_
          refine Ord.tf 3 64 rfl rfl ?_
          refine Ord.tf 4 65 rfl rfl ?_
          refine Ord.tp 5 66 rfl rfl ?_
          refine Ord.tp 6 67 rfl rfl ?_
          refine Ord.tp 7 68 rfl rfl ?_
          refine Ord.tp 8 69 rfl rfl ?_
          refine Ord.tk 9 70 rfl rfl (yieldsIf_load_mid (by rfl) 40 _ rfl g (p * 2) rfl [.string y.str, .int .i64 y.sym] _ (fun W hSW => kRow_range hSW p y HX.out.2) Tryz.underlying40 rfl Tryz.size40) ?_
          refine Ord.tp 10 71 rfl rfl ?_
          refine Ord.tp 11 72 rfl rfl ?_
          refine Ord.tp 12 73 rfl rfl ?_
          refine Ord.tk 13 74 rfl rfl (yieldsIf_load_mid (by rfl) 40 _ rfl g (k * 2) rfl [.string x.str, .int .i64 x.sym] _ (fun W hSW => kRow_range hSW k x HX.out.1) Tryz.underlying40 rfl Tryz.size40) ?_
          refine Ord.tp 14 75 rfl rfl ?_
          refine Ord.step (i := 15) rfl (by kernel_rfl) (by rfl) ?_
          intro K HK
          refine store_part_op 40 (.tmp 75) (.tmp 70) rfl g (k * 2) (kArr y) _ 40 rfl rfl (show Blk _ g (kRow mm r) 40 from hS) Tryz.size40 (by rw [kRow_size, show (kArr y).size = 2 from rfl]; (try simp only [List.length_set]); omega) (kArr_is1 _) ?_
          intro w1 hXw1 hOw1
          rw [kRow_laid _ _ _ _ (by (try simp only [List.length_set]); omega)] at hXw1
          refine HK.out _ _ ?_
          clear HK
          refine ⟨Ord.np (by kernel_rfl), ?_⟩
          try simp only [List.setIfInBounds_toArray, List.set_cons_zero, List.set_cons_succ]
          refine Ord.take_free (i := 16) (v := ?_) 76 rfl rfl (by kernel_rfl) (by kernel_rfl) (by kernel_rfl) (by kernel_rfl) (fun _ _ _ h => h) (Ord.no_pend (S := fun W => Blk W g (kRow mm r) 40) (by kernel_rfl)) (Or.inl ⟨by rfl, ?_⟩) ?_
          rotate_left
          · (intro W hSW; first | (with_reducible rfl) | (go_simp; done) | (go_simp; with_reducible rfl))
          try simp only [List.setIfInBounds_toArray, List.set_cons_zero, List.set_cons_succ]
          refine Ord.step (i := 17) rfl (by kernel_rfl) (by rfl) ?_
          intro K HK
          refine store_part_op 40 (.tmp 76) (.tmp 74) rfl g (p * 2) (kArr x) _ 40 rfl rfl hXw1 Tryz.size40 (by rw [kRow_size, show (kArr x).size = 2 from rfl]; (try simp only [List.length_set]); omega) (kArr_is1 _) ?_
          intro w2 hXw2 hOw2
          rw [kRow_laid _ _ _ _ (by (try simp only [List.length_set]); omega)] at hXw2
          refine HK.out _ _ ?_
          clear HK
          refine ⟨Ord.np (by kernel_rfl), ?_⟩
          try simp only [List.setIfInBounds_toArray, List.set_cons_zero, List.set_cons_succ]
          refine Ord.done (by kernel_rfl) ?_ _
          go_wp2
          go_roundg fu
          case measure => omega
          case rel =>
            have e : Srt.ups fu p ((mm.set k y).set p x) = R := by
              have := HS.out
              rw [Srt.ups, HP.out, swp_eq mm k p x y HX.out.1 HX.out.2] at this
              exact this
            exact ⟨p, (mm.set k y).set p x, by go_num, by omega, by simpa using hmm, e, hXw2, (ho.trans (Only.of_below (Below.refl _ _).drew)).trans (hOw1.trans hOw2)⟩
        · obtain rfl : gk = 0 := by omega
          obtain rfl : mm = R := hs
          go_wp2
          ((try simp only [Exit.inBlock, Exit.then]); refine bodyPost_ret (results_none rfl _ _ _) rfl ?_)
          exact ⟨rfl, hrow, ho⟩

end Go.Proofs.YtoalboilghgalaaGreatDoor

/- slices.symMerge of keys: one element behind. -/
namespace Go.Proofs.YtoalboilghgalaaGreatDoor
open Go.RowKit
open Go.Proofs.Dc (V Ds Ky)
attribute [local go_sem] run_store_float

attribute [local go_sem] Oper.semAt_some
theorem sm2_any (g cap N f a m b : Nat) (r : List Value) (l : List Ky) (w : World) (hN : l.length = N) (hNm : N < 2305843009213693952) (ha : a < m) (hmb : m < b) (hb : b ≤ N) (h1 : ¬ m - a = 1) (h1' : b - m = 1) (hB : Blk w g (kRow l r) 40) :
    Calls Tryz.prog 273 #[.slice (some ⟨g, 0, none⟩) N cap, .int .i64 a, .int .i64 m, .int .i64 b, .func (.func 262) #[] #[]] w fun e w' => e = .returned (.tuple #[]) ∧ Blk w' g (kRow (Srt.symMerge ltK (f + 1) a m b l) r) 40 ∧ Only [g] w w' := by
  rw [Srt.symMerge, if_neg h1, if_pos h1']
  obtain ⟨p, hp⟩ : ∃ p, p = (fun h => !Srt.lss ltK l m h) := ⟨_, rfl⟩
  rw [← hp]
  obtain ⟨I, hI⟩ : ∃ I, Srt.bs p (m - a) a m = I := ⟨_, rfl⟩
  rw [hI]
  obtain ⟨R, hR⟩ : ∃ R, Srt.downs (m - I) m l = R := ⟨_, rfl⟩
  rw [hR]
  have hle := Srt.bs_le p (m - a) a m (by omega)
  rw [hI] at hle
  obtain ⟨d1, hd1⟩ : ∃ d1, m - a = d1 := ⟨_, rfl⟩
  have hd : (m : Int) - (a : Int) = (d1 : Int) := by omega
  have hdw := wrap_nat d1 (by omega)
  have hdne : ((d1 : Int) == 1) = false := by simp; omega
  have hd' : (b : Int) - (m : Int) = 1 := by omega
  have HI := Lib.hid hI
  have HRR := Lib.hid hR
  have HPP := Lib.hid hp
  have HD1 := Lib.hid hd1
  clear hI hR hp hd1
  go_enter Tryz.func273, Tryz.ntmps273
  go_wp2
  go_loopg [14, 15] (m - a) (fun fu s10 s11 wr => ∃ lo hi : Nat, s10 = .int .i64 lo ∧ s11 = .int .i64 hi ∧ a ≤ lo ∧ lo ≤ hi ∧ hi ≤ m ∧ hi - lo ≤ fu ∧ Srt.bs p fu lo hi = I ∧ Blk wr g (kRow l r) 40 ∧ Only [g] w wr)
  case atStart => exact ⟨a, m, rfl, rfl, Nat.le_refl _, by omega, Nat.le_refl _, Nat.le_refl _, HI.out, hB, Only.refl _ _⟩
  case round =>
    obtain ⟨lo, hi, rfl, rfl, hlo, hlohi, hhi, hfu, hbs, hrow, ho⟩ := hrel
    clear hB
    by_cases hlt : lo < hi
    · obtain ⟨fu, rfl⟩ : ∃ fu, gk = fu + 1 := ⟨gk - 1, by omega⟩
      obtain ⟨su, hsu⟩ : ∃ su, lo + hi = su := ⟨_, rfl⟩
      obtain ⟨h, hh⟩ : ∃ h, h = (lo + hi) / 2 := ⟨_, rfl⟩
      have e1 : (lo : Int) + (hi : Int) = (su : Int) := by omega
      have e2 := wrap_nat su (by omega)
      have e3 := wrap_u64 su (by omega)
      have e4 : (su : Int) / 2 = (h : Int) := by omega
      have e5 := wrap_nat h (by omega)
      have e6 := wrap_u64 h (by omega)
      have hlh : lo ≤ h := by omega
      have hhh : h < hi := by omega
      have hh0 : (0 : Int) ≤ (h : Int) := by omega
      have hh1 : (h : Int) < (N : Int) := by omega
      have hlt2 : (lo : Int) < (hi : Int) := by omega
      have HSU := Lib.hid hsu
      have HH := Lib.hid hh
      clear hsu hh
      obtain ⟨x, hx⟩ : ∃ x, l[m]? = some x := ⟨_, List.getElem?_eq_getElem (by omega)⟩
      obtain ⟨y, hy⟩ : ∃ y, l[h]? = some y := ⟨_, List.getElem?_eq_getElem (by omega)⟩
      have ha0 : (0 : Int) ≤ (m : Int) := by omega
      have ha1 : (m : Int) < (N : Int) := by omega
      have haw := wrap_nat m (by omega)
      obtain ⟨c, hc⟩ : ∃ c, cmpK x y = c := ⟨_, rfl⟩
      have hcall := fun W => ord1_any x y W
      rw [hc] at hcall
      have HC := Lib.hid hcall
      have hbs2 : (if ¬ c < 0 then Srt.bs p fu (h + 1) hi else Srt.bs p fu lo h) = I := by
        rw [Srt.bs, if_pos hlt, ← HH.out, HPP.out] at hbs
        simp only [lss_eq l m h x y hx hy, ltK, hc, Bool.not_eq_true', decide_eq_false_iff_not] at hbs
        rw [HPP.out]
        exact hbs
      have HX := Lib.hid (And.intro hx hy)
      clear hcall hc hx hy hbs
      by_cases hlt3 : c < 0
      · rw [if_neg (by omega)] at hbs2
        have HB := Lib.hid hbs2
        clear hbs2
        · skip
          go_wp2
          refine Ord.region (fun W => Blk W g (kRow l r) 40) [10, 11] (by kernel_rfl) hrow ?_
          intro hS
          refine Ord.tp 0 92 rfl rfl ?_
          refine Ord.tp 1 93 rfl rfl ?_
          refine Ord.tp 2 94 rfl rfl ?_
          refine Ord.tp 3 95 rfl rfl ?_
          refine Ord.tk 4 96 rfl rfl (yieldsIf_load_mid (by rfl) 40 _ rfl g (m * 2) rfl [.string x.str, .int .i64 x.sym] _ (fun W hSW => kRow_range hSW m x HX.out.1) Tryz.underlying40 rfl Tryz.size40) ?_
          refine Ord.tp 5 97 rfl rfl ?_
          refine Ord.tp 6 98 rfl rfl ?_
          refine Ord.tp 7 99 rfl rfl ?_
          refine Ord.tk 8 100 rfl rfl (yieldsIf_load_mid (by rfl) 40 _ rfl g (h * 2) rfl [.string y.str, .int .i64 y.sym] _ (fun W hSW => kRow_range hSW h y HX.out.2) Tryz.underlying40 rfl Tryz.size40) ?_
          refine Ord.step (i := 9) rfl (by kernel_rfl) (by rfl) ?_
          intro K HK
          go_simp
          go_at_call 262; refine (HC.out _).mono ?_; rintro e w3 ⟨rfl, hb1⟩
          refine HK.out _ _ ?_
          clear HK
          refine ⟨Ord.np (by kernel_rfl), ?_⟩
          try simp only [List.setIfInBounds_toArray, List.set_cons_zero, List.set_cons_succ]
          refine Ord.tf 10 102 rfl rfl ?_
          refine Ord.tf 11 103 rfl rfl ?_
          refine Ord.done (by kernel_rfl) ?_ _
          have hrow2 := (show Blk _ g (kRow l r) 40 from hS).next hb1
          have ho2 := (ho.trans (Only.of_below (Below.refl _ _).drew)).trans (Only.of_below hb1)
          clear hS
          have hcd := hlt3
          go_wp2
          all_goals (try (exfalso; omega; done))
          go_roundg fu
          case measure => omega
          case rel => exact ⟨lo, h, by go_num, by go_num, by omega, by omega, by omega, by omega, HB.out, hrow2, ho2⟩
      · rw [if_pos hlt3] at hbs2
        have hc0 : 0 ≤ c := by omega
        have hcd0 : decide (c < 0) = false := by simpa using hlt3
        have HB := Lib.hid hbs2
        clear hbs2
        obtain ⟨h2, hh2⟩ : ∃ h2, h2 = h + 1 := ⟨_, rfl⟩
        have e7 : (h : Int) + 1 = (h2 : Int) := by omega
        have e8 := wrap_nat h2 (by omega)
        rw [← hh2] at HB
        replace hh2 := And.intro (show h < h2 by omega) (show h2 ≤ hi by omega)
        · skip
          go_wp2
          refine Ord.region (fun W => Blk W g (kRow l r) 40) [10, 11] (by kernel_rfl) hrow ?_
          intro hS
          refine Ord.tp 0 92 rfl rfl ?_
          refine Ord.tp 1 93 rfl rfl ?_
          refine Ord.tp 2 94 rfl rfl ?_
          refine Ord.tp 3 95 rfl rfl ?_
          refine Ord.tk 4 96 rfl rfl (yieldsIf_load_mid (by rfl) 40 _ rfl g (m * 2) rfl [.string x.str, .int .i64 x.sym] _ (fun W hSW => kRow_range hSW m x HX.out.1) Tryz.underlying40 rfl Tryz.size40) ?_
          refine Ord.tp 5 97 rfl rfl ?_
          refine Ord.tp 6 98 rfl rfl ?_
          refine Ord.tp 7 99 rfl rfl ?_
          refine Ord.tk 8 100 rfl rfl (yieldsIf_load_mid (by rfl) 40 _ rfl g (h * 2) rfl [.string y.str, .int .i64 y.sym] _ (fun W hSW => kRow_range hSW h y HX.out.2) Tryz.underlying40 rfl Tryz.size40) ?_
          refine Ord.step (i := 9) rfl (by kernel_rfl) (by rfl) ?_
          intro K HK
          go_simp
          go_at_call 262; refine (HC.out _).mono ?_; rintro e w3 ⟨rfl, hb1⟩
          refine HK.out _ _ ?_
          clear HK
          refine ⟨Ord.np (by kernel_rfl), ?_⟩
          try simp only [List.setIfInBounds_toArray, List.set_cons_zero, List.set_cons_succ]
          refine Ord.tf 10 102 rfl rfl ?_
          refine Ord.tf 11 103 rfl rfl ?_
          refine Ord.done (by kernel_rfl) ?_ _
          have hrow2 := (show Blk _ g (kRow l r) 40 from hS).next hb1
          have ho2 := (ho.trans (Only.of_below (Below.refl _ _).drew)).trans (Only.of_below hb1)
          clear hS
          have hcd := hlt3
          go_wp2
          all_goals (try (exfalso; omega; done))
          go_roundg fu
          case measure => omega
          case rel => exact ⟨h2, hi, by go_num, by go_num, by omega, by omega, by omega, by omega, HB.out, hrow2, ho2⟩
    · obtain rfl : lo = hi := by omega
      rw [bs_same] at hbs
      obtain rfl : lo = I := hbs
      go_wp2
      go_loopg [17] (m - lo) (fun fu s13 wr => ∃ (k : Nat) (mm : List Ky), s13 = .int .i64 k ∧ k = lo + fu ∧ k ≤ m ∧ mm.length = N ∧ Srt.downs fu k mm = R ∧ Blk wr g (kRow mm r) 40 ∧ Only [g] w wr)
      case atStart => exact ⟨m, l, rfl, by omega, Nat.le_refl _, hN, HRR.out, hrow, ho⟩
      case round =>
        obtain ⟨k, mm, rfl, hk, hkm, hmm, hs, hrow, ho⟩ := hrel
        by_cases hlt : lo < k
        · obtain ⟨fu, rfl⟩ : ∃ fu, gk = fu + 1 := ⟨gk - 1, by omega⟩
          have HS := Lib.hid hs
          clear hs
          obtain ⟨p, hp⟩ : ∃ p, k - 1 = p := ⟨_, rfl⟩
          have HP := Lib.hid hp
          obtain ⟨x, hx⟩ : ∃ x, mm[k]? = some x := ⟨_, List.getElem?_eq_getElem (by omega)⟩
          obtain ⟨y, hy⟩ : ∃ y, mm[p]? = some y := ⟨_, List.getElem?_eq_getElem (by omega)⟩
          have HX := Lib.hid (And.intro hx hy)
          have e1 : (k : Int) - 1 = (p : Int) := by omega
          have e2 := wrap_nat p (by omega)
          have hk0 : (0 : Int) ≤ (k : Int) := by omega
          have hk1 : (k : Int) < (N : Int) := by omega
          have hp0 : (0 : Int) ≤ (p : Int) := by omega
          have hp1 : (p : Int) < (N : Int) := by omega
          have hkE : (lo : Int) < (k : Int) := by omega
          have hpn : p < N := by omega
          have hkp := And.intro (show p ≤ lo + fu by omega) (show lo + fu ≤ p by omega)
          have hkp2 : p ≤ m := by omega
          clear hx hy hp hk
          go_wp2
          refine Ord.region (fun W => Blk W g (kRow mm r) 40) [2, 3, 4, 16, 17] (by kernel_rfl) hrow ?_
          intro hS
          refine Ord.tp 0 113 rfl rfl ?_
          refine Ord.tp 1 114 rfl rfl ?_
          refine Ord.tf 2 115 rfl rfl ?_
          refine Ord.tf 3 116 rfl rfl ?_
          refine Ord.tf 4 117 rfl rfl ?_
          refine Ord.tp 5 118 rfl rfl ?_
          refine Ord.tp 6 119 rfl rfl ?_
          refine Ord.tp 7 120 rfl rfl ?_
          refine Ord.tp 8 121 rfl rfl ?_
          refine Ord.tk 9 122 rfl rfl (yieldsIf_load_mid (by rfl) 40 _ rfl g (p * 2) rfl [.string y.str, .int .i64 y.sym] _ (fun W hSW => kRow_range hSW p y HX.out.2) Tryz.underlying40 rfl Tryz.size40) ?_
          refine Ord.tp 10 123 rfl rfl ?_
          refine Ord.tp 11 124 rfl rfl ?_
          refine Ord.tp 12 125 rfl rfl ?_
          refine Ord.tk 13 126 rfl rfl (yieldsIf_load_mid (by rfl) 40 _ rfl g (k * 2) rfl [.string x.str, .int .i64 x.sym] _ (fun W hSW => kRow_range hSW k x HX.out.1) Tryz.underlying40 rfl Tryz.size40) ?_
          refine Ord.tp 14 127 rfl rfl ?_
          refine Ord.step (i := 15) rfl (by kernel_rfl) (by rfl) ?_
          intro K HK
          refine store_part_op 40 (.tmp 127) (.tmp 122) rfl g (k * 2) (kArr y) _ 40 rfl rfl (show Blk _ g (kRow mm r) 40 from hS) Tryz.size40 (by rw [kRow_size, show (kArr y).size = 2 from rfl]; (try simp only [List.length_set]); omega) (kArr_is1 _) ?_
          intro w1 hXw1 hOw1
          rw [kRow_laid _ _ _ _ (by (try simp only [List.length_set]); omega)] at hXw1
          refine HK.out _ _ ?_
          clear HK
          refine ⟨Ord.np (by kernel_rfl), ?_⟩
          try simp only [List.setIfInBounds_toArray, List.set_cons_zero, List.set_cons_succ]
          refine Ord.take_free (i := 16) (v := ?_) 128 rfl rfl (by kernel_rfl) (by kernel_rfl) (by kernel_rfl) (by kernel_rfl) (fun _ _ _ h => h) (Ord.no_pend (S := fun W => Blk W g (kRow mm r) 40) (by kernel_rfl)) (Or.inl ⟨by rfl, ?_⟩) ?_
          rotate_left
          · (intro W hSW; first | (with_reducible rfl) | (go_simp; done) | (go_simp; with_reducible rfl))
          try simp only [List.setIfInBounds_toArray, List.set_cons_zero, List.set_cons_succ]
          refine Ord.step (i := 17) rfl (by kernel_rfl) (by rfl) ?_
          intro K HK
          refine store_part_op 40 (.tmp 128) (.tmp 126) rfl g (p * 2) (kArr x) _ 40 rfl rfl hXw1 Tryz.size40 (by rw [kRow_size, show (kArr x).size = 2 from rfl]; (try simp only [List.length_set]); omega) (kArr_is1 _) ?_
          intro w2 hXw2 hOw2
          rw [kRow_laid _ _ _ _ (by (try simp only [List.length_set]); omega)] at hXw2
          refine HK.out _ _ ?_
          clear HK
          refine ⟨Ord.np (by kernel_rfl), ?_⟩
          try simp only [List.setIfInBounds_toArray, List.set_cons_zero, List.set_cons_succ]
          refine Ord.done (by kernel_rfl) ?_ _
          go_wp2
          go_roundg fu
          case measure => omega
          case rel =>
            have e : Srt.downs fu p ((mm.set k y).set p x) = R := by
              have := HS.out
              rw [Srt.downs, HP.out, swp_eq mm k p x y HX.out.1 HX.out.2] at this
              exact this
            exact ⟨p, (mm.set k y).set p x, by go_num, by omega, by omega, by simpa using hmm, e, hXw2, (ho.trans (Only.of_below (Below.refl _ _).drew)).trans (hOw1.trans hOw2)⟩
        · obtain rfl : gk = 0 := by omega
          obtain rfl : mm = R := hs
          have hge : ¬ (lo : Int) < (k : Int) := by omega
          clear hk
          go_wp2
          ((try simp only [Exit.inBlock, Exit.then]); refine bodyPost_ret (results_none rfl _ _ _) rfl ?_)
          exact ⟨rfl, hrow, ho⟩

end Go.Proofs.YtoalboilghgalaaGreatDoor

/- slices.symMerge of keys: the whole. -/
namespace Go.Proofs.YtoalboilghgalaaGreatDoor
open Go.RowKit
open Go.Proofs.Dc (V Ds Ky)
attribute [local go_sem] run_store_float

attribute [local go_sem] Oper.semAt_some
/-- what the search for the start says -/
theorem symStart_eq (l : List Ky) (a m b mid s0 r0 : Nat) (hmid : (a + b) / 2 = mid) (h0 : s0 = if mid < m then mid + m - b else a) (h1 : r0 = if mid < m then mid else m) :
    Srt.symStart ltK a m b l = Srt.bs (fun c => !Srt.lss ltK l (mid + m - 1 - c) c) (b - a) s0 r0 := by subst hmid h0 h1; rfl
theorem sm3_any (g cap N f a m b : Nat) (r : List Value) (l : List Ky) (w : World) (hN : l.length = N) (hNm : N < 2305843009213693952) (ha : a < m) (hmb : m < b) (hb : b ≤ N) (h1 : ¬ m - a = 1) (h2 : ¬ b - m = 1) (hf : b - a ≤ f + 1) (hB : Blk w g (kRow l r) 40)
    (IH : ∀ (a m b : Nat) (l : List Ky) (w : World), l.length = N → a < m → m < b → b ≤ N → b - a ≤ f → Blk w g (kRow l r) 40 → Calls Tryz.prog 273 #[.slice (some ⟨g, 0, none⟩) N cap, .int .i64 a, .int .i64 m, .int .i64 b, .func (.func 262) #[] #[]] w fun e w' => e = .returned (.tuple #[]) ∧ Blk w' g (kRow (Srt.symMerge ltK f a m b l) r) 40 ∧ Only [g] w w') :
    Calls Tryz.prog 273 #[.slice (some ⟨g, 0, none⟩) N cap, .int .i64 a, .int .i64 m, .int .i64 b, .func (.func 262) #[] #[]] w fun e w' => e = .returned (.tuple #[]) ∧ Blk w' g (kRow (Srt.symMerge ltK (f + 1) a m b l) r) 40 ∧ Only [g] w w' := by
  rw [Srt.symMerge, if_neg h1, if_neg h2]
  obtain ⟨mid, hmid⟩ : ∃ mid, (a + b) / 2 = mid := ⟨_, rfl⟩
  dsimp only
  rw [hmid]
  obtain ⟨n1, hn1⟩ : ∃ n1, mid + m = n1 := ⟨_, rfl⟩
  obtain ⟨p1, hp1⟩ : ∃ p1, n1 - 1 = p1 := ⟨_, rfl⟩
  obtain ⟨s0, hs0⟩ : ∃ s0, s0 = if mid < m then mid + m - b else a := ⟨_, rfl⟩
  obtain ⟨r0, hr0⟩ : ∃ r0, r0 = if mid < m then mid else m := ⟨_, rfl⟩
  have hst := symStart_eq l a m b mid s0 r0 hmid hs0 hr0
  obtain ⟨p, hp⟩ : ∃ p, p = (fun c => !Srt.lss ltK l (mid + m - 1 - c) c) := ⟨_, rfl⟩
  rw [← hp] at hst
  obtain ⟨I, hI⟩ : ∃ I, Srt.symStart ltK a m b l = I := ⟨_, rfl⟩
  rw [hI] at hst ⊢
  rw [hn1]
  have hmr : s0 ≤ r0 ∧ a ≤ s0 ∧ r0 ≤ mid ∧ r0 ≤ m ∧ n1 ≤ s0 + b := by
    by_cases h : mid < m
    · rw [if_pos h] at hs0 hr0; omega
    · rw [if_neg h] at hs0 hr0; omega
  have hle := Srt.bs_le p (b - a) s0 r0 hmr.1
  rw [← hst] at hle
  obtain ⟨R, hR⟩ : ∃ R, (if mid < n1 - I ∧ n1 - I < b then Srt.symMerge ltK f mid (n1 - I) b (if a < I ∧ I < mid then Srt.symMerge ltK f a I mid (if I < m ∧ m < n1 - I then Srt.rotate I m (n1 - I) l else l) else (if I < m ∧ m < n1 - I then Srt.rotate I m (n1 - I) l else l)) else (if a < I ∧ I < mid then Srt.symMerge ltK f a I mid (if I < m ∧ m < n1 - I then Srt.rotate I m (n1 - I) l else l) else (if I < m ∧ m < n1 - I then Srt.rotate I m (n1 - I) l else l))) = R := ⟨_, rfl⟩
  rw [hR]
  have hma : a < mid := by omega
  have hmb2 : mid < b := by omega
  obtain ⟨d1, hd1⟩ : ∃ d1, m - a = d1 := ⟨_, rfl⟩
  have hd : (m : Int) - (a : Int) = (d1 : Int) := by omega
  have hdw := wrap_nat d1 (by omega)
  have hdne : ((d1 : Int) == 1) = false := by simp; omega
  obtain ⟨d2, hd2⟩ : ∃ d2, b - m = d2 := ⟨_, rfl⟩
  have hd' : (b : Int) - (m : Int) = (d2 : Int) := by omega
  have hdw2 := wrap_nat d2 (by omega)
  have hdne2 : ((d2 : Int) == 1) = false := by simp; omega
  obtain ⟨su, hsu⟩ : ∃ su, a + b = su := ⟨_, rfl⟩
  have e1 : (a : Int) + (b : Int) = (su : Int) := by omega
  have e2 := wrap_nat su (by omega)
  have e3 := wrap_u64 su (by omega)
  have e4 : (su : Int) / 2 = (mid : Int) := by omega
  have e5 := wrap_nat mid (by omega)
  have e6 := wrap_u64 mid (by omega)
  have e7 : (mid : Int) + (m : Int) = (n1 : Int) := by omega
  have e8 := wrap_nat n1 (by omega)
  have e9 : (n1 : Int) - 1 = (p1 : Int) := by omega
  have e10 := wrap_nat p1 (by omega)
  have hn1a : n1 ≤ mid + m ∧ mid + m ≤ n1 := by omega
  have hp1a : p1 + 1 ≤ n1 ∧ n1 ≤ p1 + 1 := by omega
  have hmidb : mid + mid ≤ a + b ∧ a + b ≤ mid + mid + 1 := by omega
  have HF := Lib.hid (And.intro hI (And.intro hR (And.intro hp (And.intro hst (And.intro hmid (And.intro hn1 (And.intro hp1 (And.intro hd1 (And.intro hd2 hsu)))))))))
  have HIH := Lib.hid IH
  have HST : Hid (Srt.bs p (b - a) s0 r0 = I) := Lib.hid hst.symm
  clear hI hR hp hst hmid hn1 hp1 hd1 hd2 hsu IH
  have hs0v : s0 = if mid < m then mid + m - b else a := hs0
  have hr0v : r0 = if mid < m then mid else m := hr0
  have HS0 := Lib.hid (And.intro hs0v hr0v)
  have HMR := hmr
  clear hs0 hr0 hs0v hr0v hmr
  go_enter Tryz.func273, Tryz.ntmps273
  go_upto_if 140 with fail
  go_cut [20, 21] (fun s20 s21 wx => s20 = .int .i64 s0 ∧ s21 = .int .i64 r0 ∧ w = wx)
  case first =>
    by_cases hmm0 : mid < m
    · obtain rfl : r0 = mid := by rw [HS0.out.2, if_pos hmm0]
      have hs0' : s0 + b = r0 + m := by have := HS0.out.1; rw [if_pos hmm0] at this; omega
      have e11 : (n1 : Int) - (b : Int) = (s0 : Int) := by omega
      have e12 := wrap_nat s0 (by omega)
      have hmi : (r0 : Int) < (m : Int) := by omega
      replace hs0' := Lib.hid hs0'
      go_wp2_with fail
      go_meet
      exact ⟨rfl, rfl, rfl⟩
    · obtain rfl : r0 = m := by rw [HS0.out.2, if_neg hmm0]
      obtain rfl : s0 = a := by rw [HS0.out.1, if_neg hmm0]
      have hmi : ¬ (mid : Int) < (r0 : Int) := by omega
      go_wp2_with fail
      go_meet
      exact ⟨rfl, rfl, rfl⟩
  case rest =>
  obtain ⟨rfl, rfl, rfl⟩ := hcut
  go_wp2
  go_loopg [20, 21] (b - a) (fun fu s10 s11 wr => ∃ lo hi : Nat, s10 = .int .i64 lo ∧ s11 = .int .i64 hi ∧ s0 ≤ lo ∧ lo ≤ hi ∧ hi ≤ r0 ∧ hi - lo ≤ fu ∧ Srt.bs p fu lo hi = I ∧ Blk wr g (kRow l r) 40 ∧ Only [g] w wr)
  case atStart => exact ⟨s0, r0, rfl, rfl, Nat.le_refl _, HMR.1, Nat.le_refl _, by omega, HST.out, hB, Only.refl _ _⟩
  case round =>
    obtain ⟨lo, hi, rfl, rfl, hlo, hlohi, hhi, hfu, hbs, hrow, ho⟩ := hrel
    clear hB
    by_cases hlt : lo < hi
    · as_aux_lemma =>
      obtain ⟨fu, rfl⟩ : ∃ fu, gk = fu + 1 := ⟨gk - 1, by omega⟩
      clear e1 e2 e3 e4 e5 e6 e7 e8 e9 e10
      obtain ⟨su, hsu⟩ : ∃ su, lo + hi = su := ⟨_, rfl⟩
      obtain ⟨h, hh⟩ : ∃ h, h = (lo + hi) / 2 := ⟨_, rfl⟩
      have e1 : (lo : Int) + (hi : Int) = (su : Int) := by omega
      have e2 := wrap_nat su (by omega)
      have e3 := wrap_u64 su (by omega)
      have e4 : (su : Int) / 2 = (h : Int) := by omega
      have e5 := wrap_nat h (by omega)
      have e6 := wrap_u64 h (by omega)
      have hlh : lo ≤ h := by omega
      have hhh : h < hi := by omega
      have hh0 : (0 : Int) ≤ (h : Int) := by omega
      have hh1 : (h : Int) < (N : Int) := by omega
      have hlt2 : (lo : Int) < (hi : Int) := by omega
      have HSU := Lib.hid hsu
      have HH := Lib.hid hh
      clear hsu hh
      obtain ⟨q, hq⟩ : ∃ q, p1 - h = q := ⟨_, rfl⟩
      have e7 : (p1 : Int) - (h : Int) = (q : Int) := by omega
      have e8 := wrap_nat q (by omega)
      have hq0 : (0 : Int) ≤ (q : Int) := by omega
      have hq1 : (q : Int) < (N : Int) := by omega
      obtain ⟨x, hx⟩ : ∃ x, l[q]? = some x := ⟨_, List.getElem?_eq_getElem (by omega)⟩
      obtain ⟨y, hy⟩ : ∃ y, l[h]? = some y := ⟨_, List.getElem?_eq_getElem (by omega)⟩
      obtain ⟨c, hc⟩ : ∃ c, cmpK x y = c := ⟨_, rfl⟩
      have hcall := fun W => ord1_any x y W
      rw [hc] at hcall
      have HC := Lib.hid hcall
      have hqq : mid + m - 1 - h = q := by omega
      obtain ⟨d, hdc⟩ : ∃ d, decide (c < 0) = d := ⟨_, rfl⟩
      have hbs2 : Hid ((if d then Srt.bs p fu lo h else Srt.bs p fu (h + 1) hi) = I) := by
        refine Lib.hid ?_
        have hpp := HF.out.2.2.1
        rw [Srt.bs, if_pos hlt, ← HH.out, hpp] at hbs
        simp only [hqq, lss_eq l q h x y hx hy, ltK, hc, hdc] at hbs
        rw [hpp]
        cases d
        · exact hbs
        · exact hbs
      have HX := Lib.hid (And.intro hx hy)
      have HQ := Lib.hid hq
      clear hcall hc hx hy hbs hqq hq
      go_wp2
      refine Ord.region (fun W => Blk W g (kRow l r) 40) [12, 13] (by kernel_rfl) hrow ?_
      intro hS
      refine Ord.tp 0 158 rfl rfl ?_
      refine Ord.tp 1 159 rfl rfl ?_
      refine Ord.tp 2 160 rfl rfl ?_
      refine Ord.tp 3 161 rfl rfl ?_
      refine Ord.tp 4 162 rfl rfl ?_
      refine Ord.tp 5 163 rfl rfl ?_
      refine Ord.tk 6 164 rfl rfl (yieldsIf_load_mid (by rfl) 40 _ rfl g (q * 2) rfl [.string x.str, .int .i64 x.sym] _ (fun W hSW => kRow_range hSW q x HX.out.1) Tryz.underlying40 rfl Tryz.size40) ?_
      refine Ord.tp 7 165 rfl rfl ?_
      refine Ord.tp 8 166 rfl rfl ?_
      refine Ord.tp 9 167 rfl rfl ?_
      refine Ord.tk 10 168 rfl rfl (yieldsIf_load_mid (by rfl) 40 _ rfl g (h * 2) rfl [.string y.str, .int .i64 y.sym] _ (fun W hSW => kRow_range hSW h y HX.out.2) Tryz.underlying40 rfl Tryz.size40) ?_
      refine Ord.step (i := 11) rfl (by kernel_rfl) (by rfl) ?_
      intro K HK
      go_simp
      go_at_call 262; refine (HC.out _).mono ?_; rintro e w3 ⟨rfl, hb1⟩
      refine HK.out _ _ ?_
      clear HK
      refine ⟨Ord.np (by kernel_rfl), ?_⟩
      try simp only [List.setIfInBounds_toArray, List.set_cons_zero, List.set_cons_succ]
      refine Ord.tf 12 170 rfl rfl ?_
      refine Ord.tf 13 171 rfl rfl ?_
      refine Ord.done (by kernel_rfl) ?_ _
      have hrow2 := (show Blk _ g (kRow l r) 40 from hS).next hb1
      have ho2 := (ho.trans (Only.of_below (Below.refl _ _).drew)).trans (Only.of_below hb1)
      clear hS
      cases d
      · have HB := Lib.hid (show Srt.bs p fu (h + 1) hi = I from hbs2.out)
        clear hbs2
        obtain ⟨h2, hh2⟩ : ∃ h2, h2 = h + 1 := ⟨_, rfl⟩
        have e11 : (h : Int) + 1 = (h2 : Int) := by omega
        have e12 := wrap_nat h2 (by omega)
        rw [← hh2] at HB
        replace hh2 := And.intro (show h < h2 by omega) (show h2 ≤ hi by omega)
        go_wp2
        go_roundg fu
        case measure => omega
        case rel => exact ⟨h2, hi, by go_num, by go_num, by omega, by omega, by omega, by omega, HB.out, hrow2, ho2⟩
      · have HB := Lib.hid (show Srt.bs p fu lo h = I from hbs2.out)
        clear hbs2
        go_wp2
        go_roundg fu
        case measure => omega
        case rel => exact ⟨lo, h, by go_num, by go_num, by omega, by omega, by omega, by omega, HB.out, hrow2, ho2⟩
    · as_aux_lemma =>
      obtain rfl : lo = hi := by omega
      rw [bs_same] at hbs
      obtain rfl : lo = I := hbs
      obtain ⟨en, hen⟩ : ∃ en, n1 - lo = en := ⟨_, rfl⟩
      have hR := HF.out.2.1
      rw [hen] at hR
      have e11 : (n1 : Int) - (lo : Int) = (en : Int) := by omega
      have e12 := wrap_nat en (by omega)
      have hen1 : mid ≤ en ∧ m ≤ en ∧ en ≤ b := by omega
      have HR := Lib.hid hR
      have HEN := Lib.hid hen
      clear hR hen e1 e2 e3 e4 e5 e6 e7 e8 e9 e10 hd hdw hdne hd' hdw2 hdne2
      go_upto_region 39 with fail
      clear e11 e12
      go_cut [185] (fun s wx => s = .bool (decide (lo < m ∧ m < en)) ∧ wr = wx)
      case first =>
        by_cases q1 : lo < m
        · by_cases q2 : m < en
          · have q3 : (lo : Int) < (m : Int) := by omega
            have q4 : (m : Int) < (en : Int) := by omega
            go_wp2_with fail
            go_meet
            exact ⟨by simp [q1, q2], rfl⟩
          · have q3 : (lo : Int) < (m : Int) := by omega
            have q4 : ¬ (m : Int) < (en : Int) := by omega
            go_wp2_with fail
            go_meet
            exact ⟨by simp [q1, q2], rfl⟩
        · have q3 : ¬ (lo : Int) < (m : Int) := by omega
          go_wp2_with fail
          go_meet
          exact ⟨by simp [q1], rfl⟩
      case rest => as_aux_lemma =>
      obtain ⟨rfl, rfl⟩ := hcut
      go_upto_if 185 with fail
      go_cut [] (fun wx => ∃ mm : List Ky, mm.length = N ∧ mm = (if lo < m ∧ m < en then Srt.rotate lo m en l else l) ∧ Blk wx g (kRow mm r) 40 ∧ Only [g] w wx)
      case first =>
        by_cases hc : lo < m ∧ m < en
        · have hcd : decide (lo < m ∧ m < en) = true := by simpa using hc
          go_wp2_with (go_at_call 274; refine (rotate_any g cap N lo m en (.func (.func 262) #[] #[]) r l _ hN (by omega) hc.1 hc.2 (by omega) hrow).mono ?_; rintro e wq ⟨rfl, hr1, ho1⟩)
          go_meet
          exact ⟨_, by rw [(Srt.rotate_perm _ _ _ _).length_eq]; exact hN, (if_pos hc).symm, hr1, ho.trans ho1⟩
        · have hcd : decide (lo < m ∧ m < en) = false := by simpa using hc
          go_wp2_with fail
          go_meet
          exact ⟨_, hN, (if_neg hc).symm, hrow, ho⟩
      case rest => as_aux_lemma =>
      obtain ⟨mm, hmm, hmv, hrow1, ho1⟩ := hcut
      clear hrow ho
      rw [← hmv] at HR
      clear hmv
      obtain ⟨m2, hm2⟩ : ∃ m2, m2 = (if a < lo ∧ lo < mid then Srt.symMerge ltK f a lo mid mm else mm) := ⟨_, rfl⟩
      rw [← hm2] at HR
      have HM2 := Lib.hid hm2
      clear hm2
      go_upto_region 41 with fail
      go_cut [199] (fun s wx => s = .bool (decide (a < lo ∧ lo < mid)) ∧ wc = wx)
      case first =>
        by_cases q1 : a < lo
        · by_cases q2 : lo < mid
          · have q3 : (a : Int) < (lo : Int) := by omega
            have q4 : (lo : Int) < (mid : Int) := by omega
            go_wp2_with fail
            go_meet
            exact ⟨by simp [q1, q2], rfl⟩
          · have q3 : (a : Int) < (lo : Int) := by omega
            have q4 : ¬ (lo : Int) < (mid : Int) := by omega
            go_wp2_with fail
            go_meet
            exact ⟨by simp [q1, q2], rfl⟩
        · have q3 : ¬ (a : Int) < (lo : Int) := by omega
          go_wp2_with fail
          go_meet
          exact ⟨by simp [q1], rfl⟩
      case rest => as_aux_lemma =>
      obtain ⟨rfl, rfl⟩ := hcut
      go_upto_if 199 with fail
      go_cut [] (fun wx => m2.length = N ∧ Blk wx g (kRow m2 r) 40 ∧ Only [g] w wx)
      case first =>
        by_cases hc : a < lo ∧ lo < mid
        · have hcd : decide (a < lo ∧ lo < mid) = true := by simpa using hc
          go_wp2_with (go_at_call 273; refine (HIH.out a lo mid mm _ hmm hc.1 hc.2 (by omega) (by omega) hrow1).mono ?_; rintro e wq ⟨rfl, hr2, ho2⟩)
          go_meet
          have hv := HM2.out
          rw [if_pos hc] at hv
          rw [hv]
          exact ⟨by rw [(Srt.symMerge_perm _ _ _ _ _).length_eq]; exact hmm, hr2, ho1.trans ho2⟩
        · have hcd : decide (a < lo ∧ lo < mid) = false := by simpa using hc
          go_wp2_with fail
          go_meet
          have hv := HM2.out
          rw [if_neg hc] at hv
          rw [hv]
          exact ⟨hmm, hrow1, ho1⟩
      case rest => as_aux_lemma =>
      obtain ⟨hm2, hrow2, ho2⟩ := hcut
      clear hrow1 ho1
      go_upto_region 43 with fail
      go_cut [213] (fun s wx => s = .bool (decide (mid < en ∧ en < b)) ∧ wc = wx)
      case first =>
        by_cases q1 : mid < en
        · by_cases q2 : en < b
          · have q3 : (mid : Int) < (en : Int) := by omega
            have q4 : (en : Int) < (b : Int) := by omega
            go_wp2_with fail
            go_meet
            exact ⟨by simp [q1, q2], rfl⟩
          · have q3 : (mid : Int) < (en : Int) := by omega
            have q4 : ¬ (en : Int) < (b : Int) := by omega
            go_wp2_with fail
            go_meet
            exact ⟨by simp [q1, q2], rfl⟩
        · have q3 : ¬ (mid : Int) < (en : Int) := by omega
          go_wp2_with fail
          go_meet
          exact ⟨by simp [q1], rfl⟩
      case rest => as_aux_lemma =>
      obtain ⟨rfl, rfl⟩ := hcut
      by_cases hc : mid < en ∧ en < b
      · have hcd : decide (mid < en ∧ en < b) = true := by simpa using hc
        go_wp2_with (go_at_call 273; refine (HIH.out mid en b m2 _ hm2 hc.1 hc.2 (by omega) (by omega) hrow2).mono ?_; rintro e wq ⟨rfl, hr3, ho3⟩)
        go_end0
        have hv := HR.out
        rw [if_pos hc] at hv
        rw [← hv]
        exact ⟨rfl, hr3, ho2.trans ho3⟩
      · have hcd : decide (mid < en ∧ en < b) = false := by simpa using hc
        go_wp2_with fail
        go_end0
        have hv := HR.out
        rw [if_neg hc] at hv
        rw [← hv]
        exact ⟨rfl, hrow2, ho2⟩

end Go.Proofs.YtoalboilghgalaaGreatDoor

/- slices.symMerge, stable, SortStableFunc of keys. -/
namespace Go.Proofs.YtoalboilghgalaaGreatDoor
open Go.RowKit
open Go.Proofs.Dc (V Ds Ky)
attribute [local go_sem] run_store_float

attribute [local go_sem] Oper.semAt_some
theorem symMerge_any (g cap N : Nat) (r : List Value) (hNm : N < 2305843009213693952) : ∀ (f a m b : Nat) (l : List Ky) (w : World), l.length = N → a < m → m < b → b ≤ N → b - a ≤ f → Blk w g (kRow l r) 40 →
    Calls Tryz.prog 273 #[.slice (some ⟨g, 0, none⟩) N cap, .int .i64 a, .int .i64 m, .int .i64 b, .func (.func 262) #[] #[]] w fun e w' => e = .returned (.tuple #[]) ∧ Blk w' g (kRow (Srt.symMerge ltK f a m b l) r) 40 ∧ Only [g] w w'
  | 0, a, m, b, l, w, hN, ha, hmb, hb, hf, hB => by omega
  | f + 1, a, m, b, l, w, hN, ha, hmb, hb, hf, hB => by
    by_cases h1 : m - a = 1
    · exact sm1_any g cap N f a m b r l w hN hNm ha hmb hb h1 hB
    · by_cases h2 : b - m = 1
      · exact sm2_any g cap N f a m b r l w hN hNm ha hmb hb h1 h2 hB
      · exact sm3_any g cap N f a m b r l w hN hNm ha hmb hb h1 h2 hf hB (fun a m b l w hN ha hm hb hf hB => symMerge_any g cap N r hNm f a m b l w hN ha hm hb hf hB)
theorem wrap_big (n : Nat) (h : n < 9223372036854775808) : IntKind.i64.wrap (n : Int) = n := by unfold IntKind.wrap; simp [IntKind.signed, IntKind.bits]; omega
theorem stable_any (g cap N : Nat) (r : List Value) (l : List Ky) (w : World) (hN : l.length = N) (hNm : N < 2305843009213693952) (hB : Blk w g (kRow l r) 40) :
    Calls Tryz.prog 268 #[.slice (some ⟨g, 0, none⟩) N cap, .int .i64 N, .func (.func 262) #[] #[]] w fun e w' => e = .returned (.tuple #[]) ∧ Blk w' g (kRow (Srt.stable ltK l) r) 40 ∧ Only [g] w w' := by
  unfold Srt.stable
  rw [hN]
  obtain ⟨R0, hR0⟩ : ∃ R0, Srt.blocks ltK N (N + 1) 0 l = R0 := ⟨_, rfl⟩
  rw [hR0]
  obtain ⟨R, hR⟩ : ∃ R, Srt.mAll ltK N (N + 1) 20 R0 = R := ⟨_, rfl⟩
  rw [hR]
  have hL0 : R0.length = N := by rw [← hR0, (Srt.blocks_perm _ _ _ _).length_eq, hN]
  have H0 := Lib.hid (And.intro hR0 hR)
  have HL0 := Lib.hid hL0
  clear hR0 hR hL0
  go_enter Tryz.func268, Tryz.ntmps268
  go_wp2
  go_loopg [7, 8] (N + 1) (fun fu s7 s8 wr => ∃ (a b : Nat) (mm : List Ky), s7 = .int .i64 a ∧ s8 = .int .i64 b ∧ (b ≤ a + 20 ∧ a + 20 ≤ b) ∧ a ≤ N ∧ N + 1 ≤ a + fu ∧ mm.length = N ∧ Srt.blocks ltK N fu a mm = R0 ∧ Blk wr g (kRow mm r) 40 ∧ Only [g] w wr)
  case atStart => exact ⟨0, 20, l, rfl, rfl, ⟨Nat.le_refl _, Nat.le_refl _⟩, Nat.zero_le _, by omega, hN, H0.out.1, hB, Only.refl _ _⟩
  case round =>
    obtain ⟨a, b, mm, rfl, rfl, hab, haN, hfu, hmm, hs, hrow, ho⟩ := hrel
    clear hB
    obtain ⟨fu, rfl⟩ : ∃ fu, gk = fu + 1 := ⟨gk - 1, by omega⟩
    have hba : a + 20 = b := by omega
    rw [Srt.blocks, hba] at hs
    have HMM := Lib.hid hmm
    clear hba hmm
    by_cases hle : b ≤ N
    · rw [if_pos hle] at hs
      have HS := Lib.hid hs
      clear hs
      have hlei : (b : Int) ≤ (N : Int) := by omega
      obtain ⟨b2, hb2⟩ : ∃ b2, b + 20 = b2 := ⟨_, rfl⟩
      have e1 : (b : Int) + 20 = (b2 : Int) := by omega
      have e2 := wrap_big b2 (by omega)
      replace hb2 := And.intro (show b2 ≤ b + 20 by omega) (show b + 20 ≤ b2 by omega)
      go_wp2_with (go_at_call 272; refine (insertion_any g cap N a b r mm _ HMM.out hNm (by omega) (by omega) hrow).mono ?_; rintro e wq ⟨rfl, hr1, ho1⟩)
      go_roundg fu
      case measure => omega
      case rel => exact ⟨b, b2, _, by go_num, by go_num, hb2, hle, by omega, by rw [(Srt.insertion_perm _ _ _).length_eq]; exact HMM.out, HS.out, hr1, ho.trans ho1⟩
    · rw [if_neg hle] at hs
      have HS := Lib.hid hs
      clear hs
      have hlei : ¬ (b : Int) ≤ (N : Int) := by omega
      go_upto_region 6 with fail
      go_cut [] (fun wx => Blk wx g (kRow R0 r) 40 ∧ Only [g] w wx)
      case first =>
        go_wp2_with (go_at_call 272; refine (insertion_any g cap N a N r mm _ HMM.out hNm (by omega) (by omega) hrow).mono ?_; rintro e wq ⟨rfl, hr1, ho1⟩)
        go_meet
        rw [HS.out] at hr1
        exact ⟨hr1, ho.trans ho1⟩
      case rest =>
      obtain ⟨hrow0, ho0⟩ := hcut
      clear hrow ho hlei hle
      go_wp2
      go_loopg [6] (N + 1) (fun fu s6 wr => ∃ (z : Nat) (mm : List Ky), s6 = .int .i64 z ∧ 20 ≤ z ∧ z ≤ 2 * N + 20 ∧ N + 1 ≤ z + fu ∧ mm.length = N ∧ Srt.mAll ltK N fu z mm = R ∧ Blk wr g (kRow mm r) 40 ∧ Only [g] w wr)
      case atStart => exact ⟨20, R0, rfl, Nat.le_refl _, by omega, by omega, HL0.out, H0.out.2, hrow0, ho0⟩
      case round =>
        obtain ⟨z, m0, rfl, hz20, hzN, hfz, hm0, hs, hrow, ho⟩ := hrel
        clear hrow0 ho0
        by_cases hlz : z < N
        · as_aux_lemma =>
          obtain ⟨fz, rfl⟩ : ∃ fz, gk = fz + 1 := ⟨gk - 1, by omega⟩
          rw [Srt.mAll, if_pos hlz] at hs
          obtain ⟨M, hM⟩ : ∃ M, Srt.mPass ltK N z (N + 1) 0 m0 = M := ⟨_, rfl⟩
          rw [hM] at hs
          have HML : Hid (M.length = N) := Lib.hid (by rw [← hM, (Srt.mPass_perm _ _ _ _ _).length_eq, hm0])
          obtain ⟨z2, hz2⟩ : ∃ z2, 2 * z = z2 := ⟨_, rfl⟩
          rw [hz2] at hs
          have HS := Lib.hid (And.intro hs hM)
          have HM0 := Lib.hid hm0
          have HZ2 := Lib.hid hz2
          have e1 : (2 : Int) * (z : Int) = (z2 : Int) := by omega
          have e1' : (z : Int) * 2 = (z2 : Int) := by omega
          have e2 := wrap_big z2 (by omega)
          have hlzi : (z : Int) < (N : Int) := by omega
          replace hz2 := And.intro (show 2 * z ≤ z2 by omega) (show z2 ≤ 2 * z by omega)
          clear hs hM hm0
          go_wp2
          go_loopg [7, 8] (N + 1) (fun fu s7 s8 wr => ∃ (a b : Nat) (mm : List Ky), s7 = .int .i64 a ∧ s8 = .int .i64 b ∧ (b ≤ a + z2 ∧ a + z2 ≤ b) ∧ a ≤ N ∧ N + 1 ≤ a + fu ∧ mm.length = N ∧ Srt.mPass ltK N z fu a mm = M ∧ Blk wr g (kRow mm r) 40 ∧ Only [g] w wr)
          case atStart => exact ⟨0, z2, m0, rfl, rfl, ⟨by omega, by omega⟩, Nat.zero_le _, by omega, HM0.out, HS.out.2, hrow, ho⟩
          case round =>
            obtain ⟨a, b, mm, rfl, rfl, hab, haN, hfu, hmm, hp, hrow, ho⟩ := hrel
            obtain ⟨fu, rfl⟩ : ∃ fu, gk = fu + 1 := ⟨gk - 1, by omega⟩
            have hba : a + 2 * z = b := by omega
            rw [Srt.mPass, hba] at hp
            obtain ⟨c, hc⟩ : ∃ c, a + z = c := ⟨_, rfl⟩
            rw [hc] at hp
            have e3 : (a : Int) + (z : Int) = (c : Int) := by omega
            have e4 := wrap_big c (by omega)
            have HMM := Lib.hid hmm
            replace hc := And.intro (show a + z ≤ c by omega) (show c ≤ a + z by omega)
            clear hba hmm
            by_cases hle : b ≤ N
            · rw [if_pos hle] at hp
              have HP := Lib.hid hp
              clear hp
              have hlei : (b : Int) ≤ (N : Int) := by omega
              obtain ⟨b2, hb2⟩ : ∃ b2, b + z2 = b2 := ⟨_, rfl⟩
              have e5 : (b : Int) + (z2 : Int) = (b2 : Int) := by omega
              have e6 := wrap_big b2 (by omega)
              replace hb2 := And.intro (show b2 ≤ b + z2 by omega) (show b + z2 ≤ b2 by omega)
              go_wp2_with (go_at_call 273; refine (symMerge_any g cap N r hNm N a c b mm _ HMM.out (by omega) (by omega) (by omega) (by omega) hrow).mono ?_; rintro e wq ⟨rfl, hr1, ho1⟩)
              go_roundg fu
              case measure => omega
              case rel => exact ⟨b, b2, _, by go_num, by go_num, hb2, hle, by omega, by rw [(Srt.symMerge_perm _ _ _ _ _).length_eq]; exact HMM.out, HP.out, hr1, ho.trans ho1⟩
            · rw [if_neg hle] at hp
              have hlei : ¬ (b : Int) ≤ (N : Int) := by omega
              by_cases hcn : c < N
              · rw [if_pos hcn] at hp
                have HP := Lib.hid hp
                clear hp
                have hcni : (c : Int) < (N : Int) := by omega
                go_wp2_with (go_at_call 273; refine (symMerge_any g cap N r hNm N a c N mm _ HMM.out (by omega) (by omega) (by omega) (by omega) hrow).mono ?_; rintro e wq ⟨rfl, hr1, ho1⟩)
                go_roundg fz
                case measure => omega
                case rel => exact ⟨z2, M, by go_num, by omega, by omega, by omega, HML.out, HS.out.1, by rw [← HP.out]; exact hr1, ho.trans ho1⟩
              · rw [if_neg hcn] at hp
                have hcni : ¬ (c : Int) < (N : Int) := by omega
                obtain rfl : mm = M := hp
                go_wp2
                go_roundg fz
                case measure => omega
                case rel => exact ⟨z2, mm, by go_num, by omega, by omega, by omega, HML.out, HS.out.1, hrow, ho⟩
        · have hmr : m0 = R := by
            cases gk with
            | zero => exact hs
            | succ k => rw [Srt.mAll, if_neg hlz] at hs; exact hs
          obtain rfl := hmr
          have hlzi : ¬ (z : Int) < (N : Int) := by omega
          clear hs
          go_wp2
          go_end0
          exact ⟨rfl, hrow, ho⟩

theorem sortStable_any (g cap N : Nat) (r : List Value) (l : List Ky) (w : World) (hN : l.length = N) (hNm : N < 2305843009213693952) (hB : Blk w g (kRow l r) 40) :
    Calls Tryz.prog 261 #[.slice (some ⟨g, 0, none⟩) N cap, .func (.func 262) #[] #[]] w fun e w' => e = .returned (.tuple #[]) ∧ Blk w' g (kRow (Srt.stable ltK l) r) 40 ∧ Only [g] w w' := by
  have HS := fun w' h => stable_any g cap N r l w' hN hNm h
  go_enter Tryz.func261, Tryz.ntmps261
  go_wp2_with (go_at_call 268; refine (HS _ hB).mono ?_; rintro e wq ⟨rfl, hr1, ho1⟩)
  go_end0
  exact ⟨rfl, hr1, ho1⟩

end Go.Proofs.YtoalboilghgalaaGreatDoor
