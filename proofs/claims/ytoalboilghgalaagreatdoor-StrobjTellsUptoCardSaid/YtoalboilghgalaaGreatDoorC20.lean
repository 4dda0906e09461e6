/- Lemmas for this claim, in parts: Dig0, Dig2, Dig3. -/
import Derived.Test.YtoalboilghgalaaGreatDoorC19
import Derived.Laws.IdiomStrings
import Derived.Deep.LoopGhost
import Derived.IntWalk
set_option maxRecDepth 100000
set_option maxHeartbeats 4000000
set_option linter.unusedVariables false
set_option linter.unusedSimpArgs false
/- key.digits, Index, rank. -/
namespace Go.Proofs.YtoalboilghgalaaGreatDoor
open Go.RowKit
open Go.Proofs.Dc (V Ds Ky)
attribute [local go_sem] run_store_float

/-- decimal digits, one behind the other -/
def digF : List UInt8 → Nat → Option Nat
  | [], n => some n
  | c :: r, n => if c.toNat < 48 ∨ 57 < c.toNat then none else digF r (10 * n + (c.toNat - 48))
/-- the number of a text's decimal digits -/
def dig (s : ByteArray) (most : Nat) : Option Nat :=
  if s.toList = [] then none else if 16 < s.size then none else if s.data.toList.head? = some 48 ∧ (s.toList == [48]) = false then none else
  match digF s.data.toList 0 with
  | some n => if most < n then none else some n
  | none => none
theorem digF_app : ∀ (xs : List UInt8) (n : Nat) (ys : List UInt8) (m : Nat), digF xs n = some m → digF (xs ++ ys) n = digF ys m
  | [], n, ys, m, h => by obtain rfl : n = m := by simpa [digF] using h
                          rfl
  | c :: r, n, ys, m, h => by
    unfold digF at h
    split at h
    · cases h
    · rename_i hc
      rw [List.cons_append, digF, if_neg hc]
      exact digF_app r _ ys m h
theorem digF_bad : ∀ (xs : List UInt8) (n : Nat) (ys : List UInt8), digF xs n = none → digF (xs ++ ys) n = none
  | [], n, ys, h => by cases h
  | c :: r, n, ys, h => by
    unfold digF at h
    rw [List.cons_append, digF]
    split
    · rfl
    · rename_i hc
      rw [if_neg hc] at h
      exact digF_bad r _ ys h
theorem digF_le : ∀ (xs : List UInt8) (n m : Nat), digF xs n = some m → m + 1 ≤ (n + 1) * 10 ^ xs.length
  | [], n, m, h => by obtain rfl : n = m := by simpa [digF] using h
                      simp
  | c :: r, n, m, h => by
    unfold digF at h
    split at h
    · cases h
    · rename_i hc
      have := digF_le r _ m h
      rw [List.length_cons, Nat.pow_succ]
      have h2 : 10 * n + (c.toNat - 48) + 1 ≤ (n + 1) * 10 := by omega
      calc m + 1 ≤ (10 * n + (c.toNat - 48) + 1) * 10 ^ r.length := this
        _ ≤ (n + 1) * 10 * 10 ^ r.length := Nat.mul_le_mul_right _ h2
        _ = (n + 1) * (10 ^ r.length * 10) := by rw [Nat.mul_assoc, Nat.mul_comm 10]

end Go.Proofs.YtoalboilghgalaaGreatDoor

/- key.digits: the walk. -/
namespace Go.Proofs.YtoalboilghgalaaGreatDoor
open Go.RowKit
open Go.Proofs.Dc (V Ds Ky)
attribute [local go_sem] run_store_float

theorem dig_e1 (s : ByteArray) (most : Nat) (w : World) (h : s.toList = []) : Calls Tryz.prog 246 #[.string s, .int .u64 (most : Nat)] w fun e w' => e = .returned (.tuple #[.int .u64 0, .bool false]) ∧ Below w.heap.size w w' := by
  have he : s.toList.isEmpty = true := by simp [h]
  go_enter Tryz.func246, Tryz.ntmps246
  go_wp2
  go_ret2
  exact ⟨rfl, Below.refl _ _⟩

theorem dig_e2 (s : ByteArray) (most : Nat) (w : World) (h : ¬ s.toList = []) (h16 : (16 : Int) < (s.size : Int)) : Calls Tryz.prog 246 #[.string s, .int .u64 (most : Nat)] w fun e w' => e = .returned (.tuple #[.int .u64 0, .bool false]) ∧ Below w.heap.size w w' := by
  have he : s.toList.isEmpty = false := by simpa using h
  go_enter Tryz.func246, Tryz.ntmps246
  go_wp2
  go_ret2
  exact ⟨rfl, Below.refl _ _⟩

theorem dig_e3 (s : ByteArray) (most : Nat) (w : World) (h : ¬ s.toList = []) (h16 : (s.size : Int) ≤ 16) (h0 : 0 < s.size) (h48 : (s[0].toNat : Int) = 48) (hq : (s.toList == [48]) = false) : Calls Tryz.prog 246 #[.string s, .int .u64 (most : Nat)] w fun e w' => e = .returned (.tuple #[.int .u64 0, .bool false]) ∧ Below w.heap.size w w' := by
  have he : s.toList.isEmpty = false := by simpa using h
  have hq2 : (!s.toList == [48]) = true := by simp [hq]
  go_enter Tryz.func246, Tryz.ntmps246
  go_wp2
  go_ret2
  exact ⟨rfl, Below.refl _ _⟩

theorem dig_loop (s : ByteArray) (most : Nat) (w : World) (h : ¬ s.toList = []) (h16 : (s.size : Int) ≤ 16) (h0 : 0 < s.size) (hq : ((s[0].toNat : Int) = 48 ∧ (s.toList == [48]) = true) ∨ ¬ (s[0].toNat : Int) = 48) (hm : most < 18446744073709551616) :
    Calls Tryz.prog 246 #[.string s, .int .u64 (most : Nat)] w fun e w' => e = .returned (.tuple #[.int .u64 ((match digF s.data.toList 0 with | some n => if most < n then none else some n | none => none : Option Nat).getD 0 : Nat), .bool (match digF s.data.toList 0 with | some n => if most < n then none else some n | none => none : Option Nat).isSome]) ∧ Below w.heap.size w w' := by
  have he : s.toList.isEmpty = false := by simpa using h
  have hconv := run_bytes_of_string w 9 125 5 s Tryz.underlying9 Tryz.underlying125 Tryz.underlying5
  obtain ⟨cap, hcap⟩ : ∃ c, grownCap w s.size 0 5 = c := ⟨_, rfl⟩
  rw [hcap] at hconv
  obtain ⟨C, hC⟩ : ∃ C, bytesRow s cap = C := ⟨_, rfl⟩
  have hCg : ∀ j (hj : j < s.size), C[j]? = some (.int .u8 (s[j].toNat : Int)) := fun j hj => by rw [← hC]; exact bytesRow_at s cap j hj
  rw [hC] at hconv
  obtain ⟨W1, hW1⟩ : ∃ W, w.drew.alloc (.cells C 5 (C.size, C.size + 1)) = W := ⟨_, rfl⟩
  have hcell : ∀ j (hj : j < s.size), W1.cell? ⟨w.heap.size, j, none⟩ = some (.int .u8 (s[j].toNat : Int)) := fun j hj => by
    rw [← hW1, ← hCg j hj]
    exact cell_of_row _ _ _ _ _ _ (heap_alloc_new w.drew _)
  have hbl : Below w.heap.size w W1 := by rw [← hW1]; exact ((Below.refl _ w).drew).alloc (Nat.le_refl _) _
  rw [hW1] at hconv
  have HC := Lib.hid hcell
  clear hcell hCg hC hcap hW1
  obtain ⟨R, hR⟩ : ∃ R : Option Nat, (match digF s.data.toList 0 with | some n => if most < n then none else some n | none => none : Option Nat) = R := ⟨_, rfl⟩
  rw [hR]
  have HR := Lib.hid hR
  clear hR
  have hs16 : s.size ≤ 16 := by omega
  rcases hq with ⟨h48, hq⟩ | h48
  all_goals
    first
    | (have hq2 : (!s.toList == [48]) = false := by simp [hq])
    | skip
    go_enter Tryz.func246, Tryz.ntmps246
    go_wp2
    go_loop [6, 28] (fun s6 s28 => ∃ k n : Nat, k ≤ s.size ∧ s28 = .int .i64 (k : Nat) ∧ s6 = .int .u64 (n : Nat) ∧ digF (s.data.toList.take k) 0 = some n) (fun _ s28 => s.size - (intOf s28).toNat)
    case atStart => exact ⟨0, 0, Nat.zero_le _, rfl, rfl, rfl⟩
    case round =>
      obtain ⟨k, n, hk, rfl, rfl, hd⟩ := hrel
      by_cases hlt : k < s.size
      · have hc := HC.out k hlt
        have hsz : s.data.toList.length = s.size := by simp
        have hn := digF_le _ _ _ hd
        have hlk : (s.data.toList.take k).length = k := by rw [List.length_take]; omega
        rw [hlk] at hn
        have hp : (10 : Nat) ^ k ≤ 10 ^ 15 := Nat.pow_le_pow_right (by omega) (by omega)
        have hn15 : n < 1000000000000000 := by omega
        have htk : s.data.toList.take (k + 1) = s.data.toList.take k ++ [s[k]] := by
          rw [List.take_succ_eq_append_getElem (by rw [hsz]; exact hlt)]; rfl
        have hdk : digF (s.data.toList.take (k + 1)) 0 = digF [s[k]] n := by rw [htk]; exact digF_app _ _ _ _ hd
        have hall : s.data.toList = s.data.toList.take k ++ (s[k] :: s.data.toList.drop (k + 1)) := by
          have hdr : s.data.toList.drop k = s[k] :: s.data.toList.drop (k + 1) := List.drop_eq_getElem_cons (by rw [hsz]; exact hlt)
          rw [← hdr, List.take_append_drop]
        obtain ⟨b, hb⟩ : ∃ b, s[k].toNat = b := ⟨_, rfl⟩
        have hb8 : b < 256 := by rw [← hb]; exact UInt8.toNat_lt _
        rw [hb] at hc
        have HD := Lib.hid (And.intro hd (And.intro hdk (And.intro hall hb)))
        clear hd hdk hall hb htk hlk hp hn hsz
        have hk0 : (0 : Int) ≤ (k : Int) := by omega
        have hk1 : (k : Int) < (s.size : Int) := by omega
        by_cases hlo : (b : Int) < 48
        · go_wp2
          go_ret2
          have hR := HR.out
          have hn : digF s.data.toList 0 = none := by
            rw [HD.out.2.2.1, digF_app _ _ _ _ HD.out.1, digF, if_pos (by rw [HD.out.2.2.2]; omega)]
          rw [hn] at hR
          subst hR
          exact ⟨rfl, hbl⟩
        · by_cases hhi : 57 < (b : Int)
          · go_wp2
            go_ret2
            have hR := HR.out
            have hn : digF s.data.toList 0 = none := by
              rw [HD.out.2.2.1, digF_app _ _ _ _ HD.out.1, digF, if_pos (by rw [HD.out.2.2.2]; omega)]
            rw [hn] at hR
            subst hR
            exact ⟨rfl, hbl⟩
          · have hw1 : IntKind.u64.wrap (10 * (n : Int)) = 10 * n := by unfold IntKind.wrap; simp [IntKind.signed, IntKind.bits]; omega
            have hw2 : IntKind.u8.wrap ((b : Int) - 48) = (b : Int) - 48 := by unfold IntKind.wrap; simp [IntKind.signed, IntKind.bits]; omega
            have hw3 : IntKind.u64.wrap ((b : Int) - 48) = (b : Int) - 48 := by unfold IntKind.wrap; simp [IntKind.signed, IntKind.bits]; omega
            have hw4 : IntKind.u64.wrap (10 * (n : Int) + ((b : Int) - 48)) = 10 * n + (b - 48) := by unfold IntKind.wrap; simp [IntKind.signed, IntKind.bits]; omega
            go_wp2
            go_round
            case rel =>
              refine ⟨k + 1, 10 * n + (b - 48), by omega, by go_num, ?_, ?_⟩
              · rw [show (10 * (n : Int) + ((b : Int) - 48)) = ((10 * n + (b - 48) : Nat) : Int) by omega]
              · rw [HD.out.2.1, digF, if_neg (by rw [HD.out.2.2.2]; omega), HD.out.2.2.2]; rfl
            case measure => simp [intOf]; omega
      · obtain rfl : k = s.size := by omega
        have hall : digF s.data.toList 0 = some n := by
          rw [List.take_of_length_le (by simp)] at hd; exact hd
        have hR := HR.out
        rw [hall] at hR
        simp only at hR
        have HA := Lib.hid hall
        clear hd hall HC hconv
        by_cases hmn : most < n
        · rw [if_pos hmn] at hR
          subst hR
          have hmi : (most : Int) < (n : Int) := by omega
          go_wp2
          go_ret2
          exact ⟨rfl, hbl⟩
        · rw [if_neg hmn] at hR
          subst hR
          have hmi : (n : Int) ≤ (most : Int) := by omega
          go_wp2
          go_ret2
          exact ⟨rfl, hbl⟩

end Go.Proofs.YtoalboilghgalaaGreatDoor

/- key.digits, Index, rank, Order$1. -/
namespace Go.Proofs.YtoalboilghgalaaGreatDoor
open Go.RowKit
open Go.Proofs.Dc (V Ds Ky)
attribute [local go_sem] run_store_float

theorem dig_any (s : ByteArray) (most : Nat) (w : World) (hm : most < 18446744073709551616) : Calls Tryz.prog 246 #[.string s, .int .u64 (most : Nat)] w fun e w' => e = .returned (.tuple #[.int .u64 ((dig s most).getD 0 : Nat), .bool (dig s most).isSome]) ∧ Below w.heap.size w w' := by
  unfold dig
  by_cases h : s.toList = []
  · rw [if_pos h]; exact dig_e1 s most w h
  · rw [if_neg h]
    by_cases h16 : 16 < s.size
    · rw [if_pos h16]; exact dig_e2 s most w h (by omega)
    · rw [if_neg h16]
      have h0 : 0 < s.size := by
        rcases Nat.eq_zero_or_pos s.size with hz | hz
        · exfalso
          apply h
          have : s = ByteArray.empty := by
            apply ByteArray.ext
            exact Array.eq_empty_of_size_eq_zero hz
          subst this; unfold ByteArray.toList; rw [ByteArray.toList.loop]; simp
        · exact hz
      have hh : s.data.toList.head? = some s[0] := by
        rw [List.head?_eq_getElem?]
        have : s.data.toList[0]? = some s.data[0] := by simp
        exact this
      have h48 : (s.data.toList.head? = some 48) ↔ ((s[0].toNat : Int) = 48) := by
        rw [hh]
        constructor
        · intro e; have := Option.some.inj e; rw [this]; rfl
        · intro e
          have : s[0].toNat = (48 : UInt8).toNat := by rw [show (48 : UInt8).toNat = 48 from rfl]; omega
          rw [UInt8.toNat_inj.1 this]
      by_cases hb : s.data.toList.head? = some 48 ∧ (s.toList == [48]) = false
      · rw [if_pos hb]; exact dig_e3 s most w h (by omega) h0 (h48.1 hb.1) hb.2
      · rw [if_neg hb]
        refine dig_loop s most w h (by omega) h0 ?_ hm
        by_cases h4 : (s[0].toNat : Int) = 48
        · left
          refine ⟨h4, ?_⟩
          by_cases hq : (s.toList == [48]) = true
          · exact hq
          · exact absurd ⟨h48.2 h4, by simpa using hq⟩ hb
        · right; exact h4

/-- an index of an array -/
def idx (s : ByteArray) : Option Nat := dig s 4294967294
theorem dig_most (s : ByteArray) (most n : Nat) (h : dig s most = some n) : n ≤ most := by
  unfold dig at h
  split at h; · cases h
  split at h; · cases h
  split at h; · cases h
  split at h
  · split at h
    · cases h
    · cases h; omega
  · cases h
theorem index_any (s : ByteArray) (w : World) : Calls Tryz.prog 269 #[.string s] w fun e w' => e = .returned (.tuple #[.int .u32 ((idx s).getD 0 : Nat), .bool (idx s).isSome]) ∧ Below w.heap.size w w' := by
  obtain ⟨n, hn⟩ : ∃ n, (idx s).getD 0 = n := ⟨_, rfl⟩
  obtain ⟨b, hb⟩ : ∃ b, (idx s).isSome = b := ⟨_, rfl⟩
  have hle : n ≤ 4294967294 := by
    cases h : idx s with
    | none => rw [h] at hn; simp at hn; omega
    | some m => rw [h] at hn; simp at hn; subst hn; exact dig_most s _ _ h
  have HC : ∀ w, Calls Tryz.prog 246 #[.string s, .int .u64 4294967294] w fun e w' => e = .returned (.tuple #[.int .u64 (n : Nat), .bool b]) ∧ Below w.heap.size w w' := fun w => by
    have := dig_any s 4294967294 w (by omega)
    rw [show dig s 4294967294 = idx s from rfl, hn, hb] at this
    exact this
  rw [hn, hb]
  have hw : IntKind.u32.wrap (n : Int) = n := by unfold IntKind.wrap; simp [IntKind.signed, IntKind.bits]; omega
  go_enter Tryz.func269, Tryz.ntmps269
  go_wp2_with (go_at_call 246; refine (HC _).mono ?_; rintro e w' ⟨rfl, hB⟩)
  go_ret2
  exact ⟨rfl, hB⟩

/-- the class of a key, and its index -/
def rankK (k : Ky) : Int × Nat := if ¬ k.2 = 0 then (2, 0) else match idx k.1 with | some n => (0, n) | none => (1, 0)
theorem rank_any (k : Ky) (w : World) : Calls Tryz.prog 263 #[.agg (kArr k)] w fun e w' => e = .returned (.tuple #[.int .i64 (rankK k).1, .int .u32 (rankK k).2]) ∧ Below w.heap.size w w' := by
  obtain ⟨s, y⟩ := k
  unfold rankK
  dsimp only
  by_cases hy : ¬ y = 0
  · rw [if_pos hy]
    have hy2 : (y != 0) = true := by simpa using hy
    clear hy
    go_enter Tryz.func263, Tryz.ntmps263
    go_wp2_with ((with_reducible show wpList _ _ _ (⟨_, .box 40 _, _, _, _, _⟩ :: _) _ _); refine wpList_box_blk rfl 40 _ rfl (kArr _) rfl ?_; intro w1 hK HB hs; have hcK := hK.cellK; dsimp only at hcK)
    go_ret2
    exact ⟨rfl, HB⟩
  · obtain rfl : y = 0 := by simpa using hy
    rw [if_neg (by simp)]
    obtain ⟨n, hn⟩ : ∃ n, (idx s).getD 0 = n := ⟨_, rfl⟩
    obtain ⟨b, hb⟩ : ∃ b, (idx s).isSome = b := ⟨_, rfl⟩
    have HC : ∀ w, Calls Tryz.prog 269 #[.string s] w fun e w' => e = .returned (.tuple #[.int .u32 (n : Nat), .bool b]) ∧ Below w.heap.size w w' := fun w => by
      have := index_any s w
      rw [hn, hb] at this
      exact this
    cases hi : idx s with
    | none =>
      rw [hi] at hn hb
      obtain rfl : 0 = n := by simpa using hn
      obtain rfl : false = b := by simpa using hb
      go_enter Tryz.func263, Tryz.ntmps263
      go_wp2_with (first | ((with_reducible show wpList _ _ _ (⟨_, .box 40 _, _, _, _, _⟩ :: _) _ _); refine wpList_box_blk rfl 40 _ rfl (kArr _) rfl ?_; intro w1 hK HB hs; have hcK := hK.cellK; dsimp only at hcK) | (go_at_call 269; refine (HC _).mono ?_; rintro e w2 ⟨rfl, hB2⟩))
      go_ret2
      exact ⟨rfl, HB.trans (hB2.mono HB.size)⟩
    | some m =>
      rw [hi] at hn hb
      obtain rfl : m = n := by simpa using hn
      obtain rfl : true = b := by simpa using hb
      go_enter Tryz.func263, Tryz.ntmps263
      go_wp2_with (first | ((with_reducible show wpList _ _ _ (⟨_, .box 40 _, _, _, _, _⟩ :: _) _ _); refine wpList_box_blk rfl 40 _ rfl (kArr _) rfl ?_; intro w1 hK HB hs; have hcK := hK.cellK; dsimp only at hcK) | (go_at_call 269; refine (HC _).mono ?_; rintro e w2 ⟨rfl, hB2⟩))
      go_ret2
      exact ⟨rfl, HB.trans (hB2.mono HB.size)⟩

end Go.Proofs.YtoalboilghgalaaGreatDoor
