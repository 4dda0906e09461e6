/- Lemmas for this claim, in parts: Un0, Enc. -/
import Derived.Test.YtoalboilghgalaaGreatDoorC03
import Derived.Lib.DecodeN
import Derived.KernelRfl
set_option maxRecDepth 100000
set_option maxHeartbeats 4000000
set_option linter.unusedVariables false
set_option linter.unusedSimpArgs false
/- Strings as code points and code units: plain Lean. What comes out of the bytes tells the bytes. -/
namespace Go.Proofs.YtoalboilghgalaaGreatDoor
open Go.RowKit

/-- the point at the front of bytes, in numbers -/
def uptN (n b0 b1 b2 b3 : Nat) : Int × Nat :=
  if (Lib.decodeN n b0 b1 b2 b3).1 ≠ 65533 ∨ (Lib.decodeN n b0 b1 b2 b3).2 = 3 then (((Lib.decodeN n b0 b1 b2 b3).1 : Nat), (Lib.decodeN n b0 b1 b2 b3).2)
  else if 3 ≤ n ∧ b0 = 237 ∧ 160 ≤ b1 ∧ b1 ≤ 191 ∧ b2 / 64 = 2 then (53248 + (b1 : Int) % 64 * 64 + (b2 : Int) % 64, 3)
  else (0, 0)
theorem and192 : ((List.range 256).all fun x => (bits .and .u8 (x : Int) 192 == 128) == decide (x / 64 = 2)) = true := by kernel_rfl
theorem upt_eq {s : ByteArray} (h : 0 < s.size) : upt s = uptN s.size (s.get! 0).toNat (s.get! 1).toNat (s.get! 2).toNat (s.get! 3).toNat := by
  have hd : Lib.decodeGo s = Lib.decodeN s.size (s.get! 0).toNat (s.get! 1).toNat (s.get! 2).toNat (s.get! 3).toNat := by
    unfold Lib.decodeGo; rw [if_neg (by omega), Lib.decode_at]; rfl
  have hs : (isSur s = true) = (3 ≤ s.size ∧ (s.get! 0).toNat = 237 ∧ 160 ≤ (s.get! 1).toNat ∧ (s.get! 1).toNat ≤ 191 ∧ (s.get! 2).toNat / 64 = 2) := by
    have h2 := List.all_eq_true.1 and192 (s.get! 2).toNat (List.mem_range.2 (s.get! 2).toNat_lt)
    simp only [beq_iff_eq] at h2
    unfold isSur isSur3
    rw [h2]
    simp only [Bool.and_eq_true, decide_eq_true_eq, eq_iff_iff]
    constructor
    · rintro ⟨h1, ⟨⟨h3, h4⟩, h5⟩, h6⟩; exact ⟨h1, by omega, by omega, by omega, h6⟩
    · rintro ⟨h1, h3, h4, h5, h6⟩; exact ⟨h1, ⟨⟨by omega, by omega⟩, by omega⟩, h6⟩
  unfold upt uptN
  rw [hd]
  simp only [hs]
/-- what a point tells of the bytes -/
def PtOk (r : Int) (k n b0 b1 b2 b3 : Nat) : Prop :=
  (k = 1 ∧ 0 ≤ r ∧ r < 128 ∧ (b0 : Int) = r ∧ 1 ≤ n) ∨
  (k = 2 ∧ 128 ≤ r ∧ r < 2048 ∧ (b0 : Int) = 192 + r / 64 ∧ (b1 : Int) = 128 + r % 64 ∧ 2 ≤ n) ∨
  (k = 3 ∧ 2048 ≤ r ∧ r < 65536 ∧ (b0 : Int) = 224 + r / 4096 ∧ (b1 : Int) = 128 + r / 64 % 64 ∧ (b2 : Int) = 128 + r % 64 ∧ 3 ≤ n) ∨
  (k = 4 ∧ 65536 ≤ r ∧ r ≤ 1114111 ∧ (b0 : Int) = 240 + r / 262144 ∧ (b1 : Int) = 128 + r / 4096 % 64 ∧ (b2 : Int) = 128 + r / 64 % 64 ∧ (b3 : Int) = 128 + r % 64 ∧ 4 ≤ n)
set_option maxHeartbeats 4000000 in
theorem uptN_ok {n b0 b1 b2 b3 : Nat} (hn : 1 ≤ n) (h0 : b0 < 256) (h1 : b1 < 256) (h2 : b2 < 256) (h3 : b3 < 256) (hk : (uptN n b0 b1 b2 b3).2 ≠ 0) : PtOk (uptN n b0 b1 b2 b3).1 (uptN n b0 b1 b2 b3).2 n b0 b1 b2 b3 := by
  unfold uptN at hk ⊢
  split at hk
  · rename_i hc
    rw [if_pos hc]
    clear hk
    obtain ⟨D, hD⟩ : ∃ D, Lib.decodeN n b0 b1 b2 b3 = D := ⟨_, rfl⟩
    rw [hD] at hc ⊢
    unfold Lib.decodeN at hD
    unfold PtOk
    repeat' split at hD
    all_goals (subst hD; (try dsimp only at hc); dsimp only; omega)
  · rename_i hc
    rw [if_neg hc]
    split at hk
    · rename_i hs
      rw [if_pos hs]
      obtain ⟨g1, g2, g3, g4, g5⟩ := hs
      obtain ⟨y1, rfl⟩ : ∃ y1, b1 = 128 + y1 := ⟨b1 - 128, by omega⟩
      obtain ⟨y2, rfl⟩ : ∃ y2, b2 = 128 + y2 := ⟨b2 - 128, by omega⟩
      have e1 : (((128 + y1 : Nat) : Int) % 64) = y1 := by omega
      have e2 : (((128 + y2 : Nat) : Int) % 64) = y2 := by omega
      rw [e1, e2]
      clear hc hk
      refine .inr (.inr (.inl ⟨rfl, ?_⟩))
      simp only
      refine ⟨by omega, by omega, by omega, by omega, by omega, by omega⟩
    · simp at hk
theorem PtOk.same {r : Int} {k k' n n' b0 b1 b2 b3 c0 c1 c2 c3 : Nat} (h : PtOk r k n b0 b1 b2 b3) (h' : PtOk r k' n' c0 c1 c2 c3) : k = k' ∧ b0 = c0 ∧ (2 ≤ k → b1 = c1) ∧ (3 ≤ k → b2 = c2) ∧ (4 ≤ k → b3 = c3) ∧ k ≤ n ∧ 1 ≤ k ∧ k ≤ 4 := by
  unfold PtOk at h h'
  omega
theorem PtOk.range {r : Int} {k n b0 b1 b2 b3 : Nat} (h : PtOk r k n b0 b1 b2 b3) : 0 ≤ r ∧ r ≤ 1114111 ∧ 1 ≤ k ∧ k ≤ n := by unfold PtOk at h; omega

theorem upt_ok {s : ByteArray} (h : 0 < s.size) (hk : (upt s).2 ≠ 0) : PtOk (upt s).1 (upt s).2 s.size (s.get! 0).toNat (s.get! 1).toNat (s.get! 2).toNat (s.get! 3).toNat := by
  rw [upt_eq h] at hk ⊢
  exact uptN_ok h (s.get! 0).toNat_lt (s.get! 1).toNat_lt (s.get! 2).toNat_lt (s.get! 3).toNat_lt hk
theorem get_extract {s : ByteArray} {i j : Nat} (hj : i + j < s.size) : (s.extract i s.size).get! j = s.get! (i + j) := by
  have h1 : j < (s.extract i s.size).size := by simp; omega
  rw [Utf8W.get!_of_lt _ _ h1, Utf8W.get!_of_lt _ _ hj]
  simp [ByteArray.getElem_extract]

/-- the code points from a place on -/
def uptsF (s : ByteArray) : Nat → Nat → List Int
  | 0, _ => []
  | f + 1, i => if i < s.size then (upt (s.extract i s.size)).1 :: uptsF s f (i + (upt (s.extract i s.size)).2) else []
/-- none is followed by what would join it -/
def Apart : Int → List Int → Prop
  | _, [] => True
  | l, r :: rest => (uhi l && ulo r) = false ∧ 0 ≤ r ∧ r ≤ 1114111 ∧ Apart r rest
theorem uptsF_apart (s : ByteArray) : ∀ (f i : Nat) (l : Int), uwalk s i l = true → Apart l (uptsF s f i)
  | 0, _, _, _ => trivial
  | f + 1, i, l, h => by
    unfold uptsF
    split
    · rename_i hi
      by_cases h0 : (upt (s.extract i s.size)).2 = 0
      · rw [uwalk_bad hi h0] at h; cases h
      · have hp := (upt_ok (s := s.extract i s.size) (by simp; omega) h0).range
        cases hc : (uhi l && ulo (upt (s.extract i s.size)).1) with
        | true =>
          simp only [Bool.and_eq_true] at hc
          rw [uwalk_pair hi hc.1 hc.2] at h; cases h
        | false =>
          rw [uwalk_on hi h0 hc] at h
          exact ⟨hc, hp.1, hp.2.1, uptsF_apart s f _ _ h⟩
    · trivial
/-- the same points, the same bytes -/
theorem upts_inj {s t : ByteArray} : ∀ (f g i j : Nat) (l m : Int), uwalk s i l = true → uwalk t j m = true → s.size - i ≤ f → t.size - j ≤ g → uptsF s f i = uptsF t g j → s.size - i = t.size - j ∧ ∀ k, k < s.size - i → s.get! (i + k) = t.get! (j + k)
  | 0, g, i, j, l, m, hs, ht, hf, hg, he => by
    have h1 : ¬ i < s.size := by omega
    have h2 : ¬ j < t.size := by
      intro h2
      obtain ⟨g', rfl⟩ : ∃ g', g = g' + 1 := ⟨g - 1, by omega⟩
      simp only [uptsF, if_pos h2] at he
      cases he
    exact ⟨by omega, fun k hk => by omega⟩
  | f + 1, g, i, j, l, m, hs, ht, hf, hg, he => by
    by_cases h1 : i < s.size
    · rw [show uptsF s (f + 1) i = (upt (s.extract i s.size)).1 :: uptsF s f (i + (upt (s.extract i s.size)).2) by simp only [uptsF, if_pos h1]] at he
      have h2 : j < t.size := by
        by_cases h2 : j < t.size
        · exact h2
        · cases g with
          | zero => cases he
          | succ g => simp only [uptsF, if_neg h2] at he; cases he
      obtain ⟨g', rfl⟩ : ∃ g', g = g' + 1 := ⟨g - 1, by omega⟩
      rw [show uptsF t (g' + 1) j = (upt (t.extract j t.size)).1 :: uptsF t g' (j + (upt (t.extract j t.size)).2) by simp only [uptsF, if_pos h2]] at he
      have hk : (upt (s.extract i s.size)).2 ≠ 0 := fun h0 => by rw [uwalk_bad h1 h0] at hs; cases hs
      have hk' : (upt (t.extract j t.size)).2 ≠ 0 := fun h0 => by rw [uwalk_bad h2 h0] at ht; cases ht
      have p1 := upt_ok (s := s.extract i s.size) (by simp; omega) hk
      have p2 := upt_ok (s := t.extract j t.size) (by simp; omega) hk'
      obtain ⟨e1, e2⟩ := List.cons.inj he
      rw [← e1] at p2
      obtain ⟨q1, q2, q3, q4, q5, q6, q7, q8⟩ := p1.same p2
      have q9 := p2.range.2.2.2
      have hs' : uwalk s (i + (upt (s.extract i s.size)).2) (upt (s.extract i s.size)).1 = true := by
        cases hc : (uhi l && ulo (upt (s.extract i s.size)).1) with
        | true => simp only [Bool.and_eq_true] at hc; rw [uwalk_pair h1 hc.1 hc.2] at hs; cases hs
        | false => rw [uwalk_on h1 hk hc] at hs; exact hs
      have ht' : uwalk t (j + (upt (t.extract j t.size)).2) (upt (t.extract j t.size)).1 = true := by
        cases hc : (uhi m && ulo (upt (t.extract j t.size)).1) with
        | true => simp only [Bool.and_eq_true] at hc; rw [uwalk_pair h2 hc.1 hc.2] at ht; cases ht
        | false => rw [uwalk_on h2 hk' hc] at ht; exact ht
      obtain ⟨r1, r2⟩ := upts_inj f g' _ _ _ _ hs' ht' (by omega) (by omega) e2
      have sz1 : (s.extract i s.size).size = s.size - i := by simp
      have sz2 : (t.extract j t.size).size = t.size - j := by simp
      rw [sz1] at q6
      rw [sz2] at q9
      rw [← q1] at r1 r2 q9
      refine ⟨by omega, fun k hk3 => ?_⟩
      by_cases hlt : k < (upt (s.extract i s.size)).2
      · have c : ∀ a b : UInt8, a.toNat = b.toNat → a = b := fun a b h => UInt8.toNat_inj.1 h
        have g1 : ∀ d, d < (upt (s.extract i s.size)).2 → (s.extract i s.size).get! d = s.get! (i + d) := fun d hd => get_extract (by omega)
        have g2 : ∀ d, d < (upt (s.extract i s.size)).2 → (t.extract j t.size).get! d = t.get! (j + d) := fun d hd => get_extract (by omega)
        rw [← g1 k hlt, ← g2 k hlt]
        match k, hlt with
        | 0, _ => exact c _ _ q2
        | 1, hlt => exact c _ _ (q3 (by omega))
        | 2, hlt => exact c _ _ (q4 (by omega))
        | 3, hlt => exact c _ _ (q5 (by omega))
        | k + 4, hlt => omega
      · have := r2 (k - (upt (s.extract i s.size)).2) (by omega)
        rw [show i + (upt (s.extract i s.size)).2 + (k - (upt (s.extract i s.size)).2) = i + k by omega, show j + (upt (s.extract i s.size)).2 + (k - (upt (s.extract i s.size)).2) = j + k by omega] at this
        exact this
    · have h2 : ¬ j < t.size := by
        intro h2
        obtain ⟨g', rfl⟩ : ∃ g', g = g' + 1 := ⟨g - 1, by omega⟩
        simp only [uptsF, if_pos h2, if_neg h1] at he
        cases he
      exact ⟨by omega, fun k hk => by omega⟩

/-- a point's code units -/
def ptU (r : Int) : List Int := if 65536 ≤ r then [55296 + (r - 65536) / 1024, 56320 + (r - 65536) % 1024] else [r]
theorem ptsU_inj : ∀ (P Q : List Int) (l m : Int), Apart l P → Apart m Q → P.flatMap ptU = Q.flatMap ptU → P = Q
  | [], [], _, _, _, _, _ => rfl
  | [], q :: Q, _, _, _, _, h => by
    exfalso
    simp only [List.flatMap_nil, List.flatMap_cons] at h
    unfold ptU at h
    split at h <;> simp at h
  | p :: P, [], _, _, _, _, h => by
    exfalso
    simp only [List.flatMap_nil, List.flatMap_cons] at h
    unfold ptU at h
    split at h <;> simp at h
  | p :: P, q :: Q, l, m, hp, hq, h => by
    obtain ⟨_, p1, p2, hP⟩ := hp
    obtain ⟨_, q1, q2, hQ⟩ := hq
    simp only [List.flatMap_cons] at h
    by_cases hp6 : 65536 ≤ p
    · by_cases hq6 : 65536 ≤ q
      · simp only [ptU, if_pos hp6, if_pos hq6, List.cons_append, List.nil_append, List.cons.injEq] at h
        obtain ⟨h1, h2, h3⟩ := h
        obtain rfl : p = q := by omega
        rw [ptsU_inj P Q _ _ hP hQ h3]
      · exfalso
        simp only [ptU, if_pos hp6, if_neg hq6, List.cons_append, List.nil_append, List.cons.injEq] at h
        obtain ⟨h1, h2⟩ := h
        match Q, hQ, h2 with
        | [], _, h2 => simp at h2
        | q' :: Q', hQ, h2 =>
          obtain ⟨a1, a2, a3, _⟩ := hQ
          simp only [List.flatMap_cons] at h2
          by_cases hq7 : 65536 ≤ q'
          · simp only [ptU, if_pos hq7, List.cons_append, List.nil_append, List.cons.injEq] at h2
            omega
          · simp only [ptU, if_neg hq7, List.cons_append, List.nil_append, List.cons.injEq] at h2
            unfold uhi ulo at a1
            simp at a1
            omega
    · by_cases hq6 : 65536 ≤ q
      · exfalso
        simp only [ptU, if_neg hp6, if_pos hq6, List.cons_append, List.nil_append, List.cons.injEq] at h
        obtain ⟨h1, h2⟩ := h
        match P, hP, h2 with
        | [], _, h2 => simp at h2
        | p' :: P', hP, h2 =>
          obtain ⟨a1, a2, a3, _⟩ := hP
          simp only [List.flatMap_cons] at h2
          by_cases hp7 : 65536 ≤ p'
          · simp only [ptU, if_pos hp7, List.cons_append, List.nil_append, List.cons.injEq] at h2
            omega
          · simp only [ptU, if_neg hp7, List.cons_append, List.nil_append, List.cons.injEq] at h2
            unfold uhi ulo at a1
            simp at a1
            omega
      · simp only [ptU, if_neg hp6, if_neg hq6, List.cons_append, List.nil_append, List.cons.injEq] at h
        obtain ⟨rfl, h2⟩ := h
        rw [ptsU_inj P Q _ _ hP hQ h2]
/-- a string's code units -/
def unitsL (s : ByteArray) : List Int := (uptsF s s.size 0).flatMap ptU
theorem unitsL_inj {s t : ByteArray} (hs : uvalid s = true) (ht : uvalid t = true) (h : unitsL s = unitsL t) : s = t := by
  have h1 := ptsU_inj _ _ _ _ (uptsF_apart s s.size 0 0 hs) (uptsF_apart t t.size 0 0 ht) h
  obtain ⟨e1, e2⟩ := upts_inj s.size t.size 0 0 0 0 hs ht (by omega) (by omega) h1
  simp only [Nat.sub_zero, Nat.zero_add] at e1 e2
  apply ByteArray.ext
  apply Array.ext
  · exact e1
  · intro k h1 h2
    have := e2 k h1
    rw [Utf8W.get!_of_lt _ _ h1, Utf8W.get!_of_lt _ _ h2] at this
    exact this
/-- the order of lists of code units -/
def cmpU : List Int → List Int → Int
  | [], [] => 0
  | [], _ :: _ => -1
  | _ :: _, [] => 1
  | a :: r, b :: q => if a < b then -1 else if b < a then 1 else cmpU r q
theorem cmpU_zero : ∀ {a b : List Int}, cmpU a b = 0 → a = b
  | [], [], _ => rfl
  | [], _ :: _, h => by cases h
  | _ :: _, [], h => by cases h
  | a :: r, b :: q, h => by
    unfold cmpU at h
    split at h
    · cases h
    · split at h
      · cases h
      · rw [cmpU_zero h, show a = b by omega]
theorem cmpU_refl : ∀ a : List Int, cmpU a a = 0
  | [] => rfl
  | a :: r => by simp [cmpU, cmpU_refl r]
theorem cmpU_swap : ∀ a b : List Int, cmpU a b = - cmpU b a
  | [], [] => rfl
  | [], _ :: _ => rfl
  | _ :: _, [] => rfl
  | a :: r, b :: q => by
    unfold cmpU
    rw [cmpU_swap r q]
    repeat' split
    all_goals omega
theorem cmpU_range : ∀ a b : List Int, cmpU a b = -1 ∨ cmpU a b = 0 ∨ cmpU a b = 1
  | [], [] => .inr (.inl rfl)
  | [], _ :: _ => .inl rfl
  | _ :: _, [] => .inr (.inr rfl)
  | a :: r, b :: q => by
    unfold cmpU
    split
    · exact .inl rfl
    · split
      · exact .inr (.inr rfl)
      · exact cmpU_range r q
theorem cmpU_trans : ∀ {a b c : List Int}, cmpU a b < 0 → cmpU b c < 0 → cmpU a c < 0
  | [], [], _, h, _ => by simp [cmpU] at h
  | [], _ :: _, [], _, h => by simp [cmpU] at h
  | [], _ :: _, _ :: _, _, _ => by simp [cmpU]
  | _ :: _, [], _, h, _ => by simp [cmpU] at h
  | _ :: _, _ :: _, [], _, h => by simp [cmpU] at h
  | a :: r, b :: q, c :: p, h, h' => by
    unfold cmpU at h h' ⊢
    by_cases h1 : a < b
    · by_cases h2 : b < c
      · rw [if_pos (by omega)]; omega
      · rw [if_neg h2] at h'
        by_cases h3 : c < b
        · rw [if_pos h3] at h'; omega
        · rw [if_pos (by omega)]; omega
    · rw [if_neg h1] at h
      by_cases h2 : b < a
      · rw [if_pos h2] at h; omega
      · rw [if_neg h2] at h
        by_cases h3 : b < c
        · rw [if_pos (by omega)]; omega
        · rw [if_neg h3] at h'
          by_cases h4 : c < b
          · rw [if_pos h4] at h'; omega
          · rw [if_neg h4] at h'
            rw [if_neg (by omega), if_neg (by omega)]
            exact cmpU_trans h h'

end Go.Proofs.YtoalboilghgalaaGreatDoor

/- Code units put together into bytes: what comes out of those bytes; plain Lean. -/
namespace Go.Proofs.YtoalboilghgalaaGreatDoor
open Go.RowKit

set_option maxHeartbeats 4000000 in
theorem uptN_enc {r : Int} {k n b0 b1 b2 b3 : Nat} (h : PtOk r k n b0 b1 b2 b3) : uptN n b0 b1 b2 b3 = (r, k) := by
  unfold PtOk at h
  rcases h with ⟨rfl, h0, h1, h2, h3⟩ | ⟨rfl, h0, h1, h2, h3, h4⟩ | ⟨rfl, h0, h1, h2, h3, h4, h5⟩ | ⟨rfl, h0, h1, h2, h3, h4, h5, h6⟩
  · have e : Lib.decodeN n b0 b1 b2 b3 = (b0, 1) := by unfold Lib.decodeN; rw [if_pos (by omega)]
    unfold uptN
    rw [e, if_pos (.inl (by simp only; omega))]
    simp only [h2]
  · have e : Lib.decodeN n b0 b1 b2 b3 = (b0 % 32 * 64 + b1 % 64, 2) := by unfold Lib.decodeN; rw [if_neg (by omega), if_pos (by omega), if_pos (by omega)]
    unfold uptN
    rw [e, if_pos (.inl (by simp only; omega))]
    simp only [Prod.mk.injEq, and_true]; omega
  · by_cases hs : 55296 ≤ r ∧ r < 57344
    · have e : Lib.decodeN n b0 b1 b2 b3 = (65533, 1) := by unfold Lib.decodeN; rw [if_neg (by omega), if_neg (by omega), if_pos (by omega), if_neg (by omega)]
      unfold uptN
      rw [e, if_neg (by simp), if_pos (by omega)]
      simp only [Prod.mk.injEq, and_true]; omega
    · have e : Lib.decodeN n b0 b1 b2 b3 = (b0 % 16 * 4096 + b1 % 64 * 64 + b2 % 64, 3) := by unfold Lib.decodeN; rw [if_neg (by omega), if_neg (by omega), if_pos (by omega), if_pos (by omega)]
      unfold uptN
      rw [e, if_pos (.inr rfl)]
      simp only [Prod.mk.injEq, and_true]; omega
  · have e : Lib.decodeN n b0 b1 b2 b3 = (b0 % 8 * 262144 + b1 % 64 * 4096 + b2 % 64 * 64 + b3 % 64, 4) := by
      unfold Lib.decodeN; rw [if_neg (by omega), if_neg (by omega), if_neg (by omega), if_pos (by omega), if_pos (by omega)]
    unfold uptN
    rw [e, if_pos (.inl (by simp only; omega))]
    simp only [Prod.mk.injEq, and_true]; omega

/-- a point's bytes -/
def encI (r : Int) : List Int :=
  if r < 128 then [r] else if r < 2048 then [192 + r / 64, 128 + r % 64]
  else if r < 65536 then [224 + r / 4096, 128 + r / 64 % 64, 128 + r % 64]
  else [240 + r / 262144, 128 + r / 4096 % 64, 128 + r / 64 % 64, 128 + r % 64]
/-- points' bytes -/
def encL (P : List Int) : List Int := P.flatMap encI
/-- bytes as a string -/
def ofB (l : List Int) : ByteArray := ⟨(l.map fun x => UInt8.ofNat x.toNat).toArray⟩
theorem ofB_size (l : List Int) : (ofB l).size = l.length := by simp [ofB, ByteArray.size]
theorem ofB_get {l : List Int} {i : Nat} (h : i < l.length) : (ofB l).get! i = UInt8.ofNat l[i].toNat := by
  rw [Utf8W.get!_of_lt _ _ (by rw [ofB_size]; exact h)]
  simp [ofB, ByteArray.getElem_eq_getElem_data]
theorem encI_byte {r : Int} (h0 : 0 ≤ r) (h1 : r ≤ 1114111) : ∀ x ∈ encI r, 0 ≤ x ∧ x < 256 := by
  unfold encI
  intro x hx
  split at hx
  · simp at hx; omega
  · split at hx
    · simp at hx; omega
    · split at hx
      · simp at hx; omega
      · simp at hx; omega
theorem byteN {x : Int} (h : 0 ≤ x ∧ x < 256) : ((UInt8.ofNat x.toNat).toNat : Int) = x := by
  rw [UInt8.toNat_ofNat']
  omega
theorem encI_len (r : Int) : 1 ≤ (encI r).length ∧ (encI r).length ≤ 4 := by
  unfold encI; repeat' split
  all_goals simp
theorem upt_front {pre rest : List Int} {r : Int} (h0 : 0 ≤ r) (h1 : r ≤ 1114111) :
    upt ((ofB (pre ++ (encI r ++ rest))).extract pre.length (ofB (pre ++ (encI r ++ rest))).size) = (r, (encI r).length) := by
  obtain ⟨l, hl⟩ : ∃ l, pre ++ (encI r ++ rest) = l := ⟨_, rfl⟩
  have hlen : l.length = pre.length + ((encI r).length + rest.length) := by rw [← hl]; simp
  have hk := encI_len r
  have hsz : ((ofB l).extract pre.length (ofB l).size).size = (encI r).length + rest.length := by simp [ofB_size, hlen]
  rw [hl, upt_eq (by rw [hsz]; omega), hsz]
  have hg : ∀ d (hd : d < (encI r).length), ((((ofB l).extract pre.length (ofB l).size).get! d).toNat : Int) = (encI r)[d] := by
    intro d hd
    rw [get_extract (by rw [ofB_size]; omega), ofB_get (by omega)]
    have e : l[pre.length + d]'(by omega) = (encI r)[d] := by
      subst hl
      rw [List.getElem_append_right (by omega)]
      simp only [Nat.add_sub_cancel_left]
      rw [List.getElem_append_left hd]
    rw [e]
    exact byteN (encI_byte h0 h1 _ (List.getElem_mem hd))
  obtain ⟨B, hB⟩ : ∃ B : Nat → Nat, ∀ d, (((ofB l).extract pre.length (ofB l).size).get! d).toNat = B d := ⟨_, fun _ => rfl⟩
  simp only [hB] at hg ⊢
  generalize rest.length = m
  clear hsz hlen hB hl
  refine uptN_enc ?_
  unfold PtOk
  by_cases c1 : r < 128
  · have e : encI r = [r] := by unfold encI; rw [if_pos c1]
    rw [e] at hg ⊢
    have g0 : (B 0 : Int) = r := by simpa using hg 0 (by simp)
    refine .inl ⟨rfl, by omega, by omega, by omega, by simp only [List.length_cons, List.length_nil]; omega⟩
  · by_cases c2 : r < 2048
    · have e : encI r = [192 + r / 64, 128 + r % 64] := by unfold encI; rw [if_neg c1, if_pos c2]
      rw [e] at hg ⊢
      have g0 : (B 0 : Int) = 192 + r / 64 := by simpa using hg 0 (by simp)
      have g1 : (B 1 : Int) = 128 + r % 64 := by simpa using hg 1 (by simp)
      refine .inr (.inl ⟨rfl, by omega, by omega, by omega, by omega, by simp only [List.length_cons, List.length_nil]; omega⟩)
    · by_cases c3 : r < 65536
      · have e : encI r = [224 + r / 4096, 128 + r / 64 % 64, 128 + r % 64] := by unfold encI; rw [if_neg c1, if_neg c2, if_pos c3]
        rw [e] at hg ⊢
        have g0 : (B 0 : Int) = 224 + r / 4096 := by simpa using hg 0 (by simp)
        have g1 : (B 1 : Int) = 128 + r / 64 % 64 := by simpa using hg 1 (by simp)
        have g2 : (B 2 : Int) = 128 + r % 64 := by simpa using hg 2 (by simp)
        refine .inr (.inr (.inl ⟨rfl, by omega, by omega, by omega, by omega, by omega, by simp only [List.length_cons, List.length_nil]; omega⟩))
      · have e : encI r = [240 + r / 262144, 128 + r / 4096 % 64, 128 + r / 64 % 64, 128 + r % 64] := by unfold encI; rw [if_neg c1, if_neg c2, if_neg c3]
        rw [e] at hg ⊢
        have g0 : (B 0 : Int) = 240 + r / 262144 := by simpa using hg 0 (by simp)
        have g1 : (B 1 : Int) = 128 + r / 4096 % 64 := by simpa using hg 1 (by simp)
        have g2 : (B 2 : Int) = 128 + r / 64 % 64 := by simpa using hg 2 (by simp)
        have g3 : (B 3 : Int) = 128 + r % 64 := by simpa using hg 3 (by simp)
        refine .inr (.inr (.inr ⟨rfl, by omega, by omega, by omega, by omega, by omega, by omega, by simp only [List.length_cons, List.length_nil]; omega⟩))
theorem encL_walk : ∀ (P : List Int) (l : Int) (pre : List Int), Apart l P → uwalk (ofB (pre ++ encL P)) pre.length l = true ∧ ∀ f, (encL P).length ≤ f → uptsF (ofB (pre ++ encL P)) f pre.length = P
  | [], l, pre, _ => by
    have h : ¬ pre.length < (ofB (pre ++ encL [])).size := by rw [ofB_size]; simp [encL]
    refine ⟨uwalk_stop h, fun f _ => ?_⟩
    cases f with
    | zero => rfl
    | succ f => simp only [uptsF, if_neg h]
  | r :: P, l, pre, ⟨h1, h2, h3, h4⟩ => by
    have hk := encI_len r
    have e0 : encL (r :: P) = encI r ++ encL P := by simp [encL]
    have hu := upt_front (pre := pre) (rest := encL P) h2 h3
    have e1 : pre ++ (encI r ++ encL P) = (pre ++ encI r) ++ encL P := by simp
    have hlt : pre.length < (ofB (pre ++ encL (r :: P))).size := by rw [ofB_size, e0]; simp; omega
    obtain ⟨q1, q2⟩ := encL_walk P r (pre ++ encI r) h4
    rw [e0] at hlt ⊢
    have hl : (pre ++ encI r).length = pre.length + (encI r).length := by simp
    rw [← e1, hl] at q1 q2
    have hu1 := congrArg Prod.fst hu
    have hu2 := congrArg Prod.snd hu
    simp only at hu1 hu2
    refine ⟨?_, fun f hf => ?_⟩
    · rw [uwalk_on hlt (by rw [hu2]; omega) (by rw [hu1]; exact h1), hu1, hu2]; exact q1
    · rw [List.length_append] at hf
      obtain ⟨g, rfl⟩ : ∃ g, f = g + 1 := ⟨f - 1, by omega⟩
      simp only [uptsF, if_pos hlt]
      rw [hu1, hu2, q2 g (by omega)]

/-- code units as points -/
def joinU : List Int → List Int
  | [] => []
  | [h] => [h]
  | h :: l :: r => if (uhi h && ulo l) = true then (65536 + (h - 55296) * 1024 + (l - 56320)) :: joinU r else h :: joinU (l :: r)
/-- a code unit -/
def IsU (x : Int) : Prop := 0 ≤ x ∧ x < 65536
theorem joinU_flat : ∀ (U : List Int), (∀ x ∈ U, IsU x) → (joinU U).flatMap ptU = U
  | [], _ => rfl
  | [h], hU => by
    have := hU h (by simp)
    unfold IsU at this
    simp only [joinU, List.flatMap_cons, List.flatMap_nil, List.append_nil, ptU]
    rw [if_neg (by omega)]
  | h :: l :: r, hU => by
    have h1 := hU h (by simp)
    unfold IsU at h1
    rw [joinU]
    split
    · rename_i hc
      simp only [Bool.and_eq_true, uhi, ulo, decide_eq_true_eq] at hc
      rw [List.flatMap_cons, joinU_flat r fun x hx => hU x (by simp [hx])]
      unfold ptU
      rw [if_pos (by omega)]
      simp only [List.cons_append, List.nil_append, List.cons.injEq, and_true]
      omega
    · rw [List.flatMap_cons, joinU_flat (l :: r) fun x hx => hU x (by simp [hx])]
      unfold ptU
      rw [if_neg (by omega)]
      rfl
theorem joinU_apart : ∀ (U : List Int) (p : Int), (∀ x ∈ U, IsU x) → (∀ x, U.head? = some x → (uhi p && ulo x) = false) → Apart p (joinU U)
  | [], _, _, _ => trivial
  | [h], p, hU, hp => by
    have := hU h (by simp)
    unfold IsU at this
    exact ⟨hp h rfl, by omega, by omega, trivial⟩
  | h :: l :: r, p, hU, hp => by
    have h1 := hU h (by simp)
    have h2 := hU l (by simp)
    unfold IsU at h1 h2
    rw [joinU]
    split
    · rename_i hc
      simp only [Bool.and_eq_true, uhi, ulo, decide_eq_true_eq] at hc
      refine ⟨?_, by omega, by omega, joinU_apart r _ (fun x hx => hU x (by simp [hx])) fun x _ => ?_⟩
      · have : ulo (65536 + (h - 55296) * 1024 + (l - 56320)) = false := by unfold ulo; exact decide_eq_false (by omega)
        rw [this, Bool.and_false]
      · have : uhi (65536 + (h - 55296) * 1024 + (l - 56320)) = false := by unfold uhi; exact decide_eq_false (by omega)
        rw [this, Bool.false_and]
    · rename_i hc
      refine ⟨hp h rfl, by omega, by omega, joinU_apart (l :: r) _ (fun x hx => hU x (by simp [hx])) fun x hx => ?_⟩
      cases hx
      simpa using hc
/-- the string of code units -/
def ofU (U : List Int) : ByteArray := ofB (encL (joinU U))
theorem ofU_ok {U : List Int} (hU : ∀ x ∈ U, IsU x) : uvalid (ofU U) = true ∧ unitsL (ofU U) = U := by
  obtain ⟨h1, h2⟩ := encL_walk (joinU U) 0 [] (joinU_apart U 0 hU fun x _ => rfl)
  simp only [List.nil_append, List.length_nil] at h1 h2
  refine ⟨h1, ?_⟩
  unfold unitsL ofU
  rw [h2 _ (by rw [ofB_size]; exact Nat.le_refl _), joinU_flat U hU]
theorem flat_isU : ∀ (P : List Int) (l : Int), Apart l P → ∀ x ∈ P.flatMap ptU, IsU x
  | [], _, _, x, hx => by simp at hx
  | r :: P, l, ⟨_, h2, h3, h4⟩, x, hx => by
    rw [List.flatMap_cons, List.mem_append] at hx
    rcases hx with hx | hx
    · unfold ptU at hx
      unfold IsU
      split at hx
      · simp at hx; omega
      · simp at hx; omega
    · exact flat_isU P r h4 x hx
theorem unitsL_isU {s : ByteArray} (h : uvalid s = true) : ∀ x ∈ unitsL s, IsU x := flat_isU _ 0 (uptsF_apart s s.size 0 0 h)
theorem ofU_units {s : ByteArray} (h : uvalid s = true) : ofU (unitsL s) = s :=
  have hk := ofU_ok (unitsL_isU h)
  unitsL_inj hk.1 h hk.2
theorem joinU_len : ∀ (U : List Int), (encL (joinU U)).length ≤ 4 * U.length
  | [] => by simp [joinU, encL]
  | [h] => by have := encI_len h; simp [joinU, encL]; omega
  | h :: l :: r => by
    rw [joinU]
    split
    · have e := joinU_len r
      have := encI_len (65536 + (h - 55296) * 1024 + (l - 56320))
      simp only [encL, List.flatMap_cons, List.length_append, List.length_cons] at e ⊢; omega
    · have e := joinU_len (l :: r)
      have := encI_len h
      simp only [encL, List.flatMap_cons, List.length_append, List.length_cons] at e ⊢; omega
theorem ofU_size (U : List Int) : (ofU U).size ≤ 4 * U.length := by unfold ofU; rw [ofB_size]; exact joinU_len U

end Go.Proofs.YtoalboilghgalaaGreatDoor
