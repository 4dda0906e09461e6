/- Lemmas for this claim, in parts: Wri, Uof. -/
import Derived.Test.YtoalboilghgalaaGreatDoorC21
import Derived.Test.YtoalboilghgalaaGreatDoorC09
import Derived.Shelf.Utf8.AppendRune
import Derived.Lib.FrozenHead2
import Derived.Test.YtoalboilghgalaaGreatDoorC02
set_option maxRecDepth 100000
set_option maxHeartbeats 4000000
set_option linter.unusedVariables false
set_option linter.unusedSimpArgs false
/- units.write: a code point behind bytes. -/
namespace Go.Proofs.YtoalboilghgalaaGreatDoor
open Go.RowKit
open Go.Proofs.Dc (V Ds Ky)
attribute [local go_sem] run_store_float

def Tryz.lays242_ren : Go.Shelf.Ren := ⟨fun | 242 => 119 | 278 => 147 | n => n, fun | 37 => 125 | 21 => 21 | 51 => 61 | 4 => 4 | 5 => 5 | 46 => 122 | n => n, fun | n => n⟩
theorem Tryz.lays242 : Go.Proofs.Lays.n242 Tryz.prog Tryz.lays242_ren := {
  mixed := by kernel_rfl
  f242 := Tryz.func119.trans (congrArg some (by kernel_rfl))
  f278 := Tryz.func147.trans (congrArg some (by kernel_rfl))
  t4 := Tryz.underlying4
  a4 := Tryz.isAgg4
  z4 := Tryz.sizeOf4
  v4 := Tryz.zeroValue4
  t5 := Tryz.underlying5
  a5 := Tryz.isAgg5
  z5 := Tryz.sizeOf5
  v5 := Tryz.zeroValue5
  t21 := Tryz.underlying21
  a21 := Tryz.isAgg21
  z21 := Tryz.sizeOf21
  v21 := Tryz.zeroValue21
  t37 := Tryz.underlying125
  a37 := Tryz.isAgg125
  z37 := Tryz.sizeOf125
  v37 := Tryz.zeroValue125
  t46 := Tryz.underlying122
  a46 := Tryz.isAgg122
  z46 := Tryz.sizeOf122
  v46 := Tryz.zeroValue122
  t51 := Tryz.underlying61
  a51 := Tryz.isAgg61
  z51 := Tryz.sizeOf61
  v51 := Tryz.zeroValue61 }

theorem info5 : (Tryz.prog.info? 5).map (fun i => (i.zero, i.size, i.bytes)) = some (some (.int .u8 0), 1, 1) := by kernel_rfl
theorem bs125_3 (x y z : Int) (w : World) : (Instr.buildSlice 125 3 #[(0, .int .u8 x), (1, .int .u8 y), (2, .int .u8 z)]).run Tryz.prog w = .ok (.slice (some ⟨w.heap.size, 0, none⟩) 3 3) (w.alloc (.cells #[.int .u8 x, .int .u8 y, .int .u8 z] 5)) := by kernel_rfl
theorem only_grow {w w' : World} {o : Obj} {v : Value} (h : (w.alloc o).grownBy w' v.ownBlock) : Only v.ownBlock.toList w w' :=
  ⟨h.os, h.tape, h.output, Nat.le_trans (by simp) h.size, fun k hk hn => (h.block k (by simp; omega) fun e => hn (by rw [← e]; simp)).trans (heap_alloc_old _ _ hk)⟩
theorem rowF_only {w w' : World} {B : Nat} {e : TypeId} {size n : Nat} {v : Value} {xs : List Value} (h : w.ownsRowF B e size v n xs) (hb : Below w.heap.size w w') : w'.ownsRowF B e size v n xs := by
  refine ⟨h.1, ?_⟩
  rcases h.2 with h2 | ⟨g, cap, cur, fz, h1, h2, h3, h4⟩
  · exact .inl h2
  · exact .inr ⟨g, cap, cur, fz, h1, h2, (hb.block g (Array.getElem?_eq_some_iff.1 h3).1).trans h3, h4⟩
section
variable {P : Program} {ops : Array Oper} {rest : List Oper} {o : Oper} {a : Act} {W : World} {Q : Exit → Act → World → Prop}
theorem wpList_bs_b (hgd : o.guard = none) (t e : TypeId) (len : Nat) (parts : Array (Nat × Operand)) (ho : o.op = .buildSlice t len parts) (cs : Array Value)
    (hr : ∀ w, (Instr.buildSlice t len (parts.toList.map fun (i, x) => (i, a.eval x)).toArray).run P w = .ok (.slice (some ⟨w.heap.size, 0, none⟩) len len) (w.alloc (.cells cs e)))
    (h : ∀ W', Blk W' W.heap.size cs e → Below W.heap.size W W' → wpList P ops Q rest (a.put o.dst (.slice (some ⟨W.heap.size, 0, none⟩) len len)) W') : wpList P ops Q (o :: rest) a W :=
  wpList_plain hgd fun _ hK => by
    have e : (parts.map fun (i, x) => (i, a.eval x)) = (parts.toList.map fun (i, x) => (i, a.eval x)).toArray := by cases parts; simp
    unfold Oper.wp execOp
    simp only [ho, e, Sem.run_bind, hr, Result.andThen_ok]
    exact hK _ _ (h _ (Blk.new _ _ _) (one _ _))
end

theorem and63 (x : Int) (h0 : 0 ≤ x) (h1 : x < 2147483648) : bits .and .i32 x 63 = x % 64 :=
  bits_mask .i32 31 (by decide) (fun n h h' => by simp [IntKind.wrap, IntKind.bits, IntKind.signed]; omega) 6 (by decide) x h0 (by omega)
theorem or128t : ((List.range 64).all fun y => bits .or .u8 128 (y : Int) == 128 + (y : Int)) = true := by kernel_rfl
theorem or128 (x : Int) : bits .or .u8 128 (x % 64 % 256) = 128 + x % 64 := by
  have h := List.all_eq_true.1 or128t (x % 64).toNat (List.mem_range.2 (by omega))
  have e : ((x % 64).toNat : Int) = x % 64 := by omega
  rw [beq_iff_eq, e] at h
  rw [show x % 64 % 256 = x % 64 by omega]
  exact h
theorem addrW (g j : Nat) : (⟨g, 0, none⟩ : Addr).add j = ⟨g, j, none⟩ := by unfold Addr.add; by_cases h : j = 0 <;> simp [h]
theorem write_sur (B : Nat) (v : Value) (xs : List Int) (r : Int) (hr0 : 55296 ≤ r) (hr1 : r < 57344) (w : World) (hown : w.ownsRowF B 5 1 v xs.length (xs.map (Value.int .u8))) (hlen : xs.length + 4 ≤ 4398046511104) (hBw : B ≤ w.heap.size) :
    Calls Tryz.prog 70 #[v, .int .i32 r] w fun e w' => ∃ v', e = .returned v' ∧ w'.ownsRowF B 5 1 v' (xs ++ encI r).length ((xs ++ encI r).map (Value.int .u8)) ∧ Only v.ownBlock.toList w w' := by
  have he : encI r = [224 + r / 4096, 128 + r / 64 % 64, 128 + r % 64] := by unfold encI; rw [if_neg (by omega), if_neg (by omega), if_pos (by omega)]
  have hr2 : 0 ≤ r := by omega
  obtain ⟨i0, hi0, hz0, hz1, hz2⟩ := info_parts info5
  have c68 := fun W => hi_any r W
  have c69 := fun W => lo_any r W
  cases hh : uhi r
  · rw [hh] at c68
    have hl : ulo r = true := by unfold uhi at hh; unfold ulo; simp at hh ⊢; omega
    rw [hl] at c69
    clear hh hl
    go_enter Tryz.func70, Tryz.ntmps70
    go_wp2_with (first | (go_at_call 68; refine (c68 _).mono ?_; rintro e wX ⟨rfl, rfl⟩) | (go_at_call 69; refine (c69 _).mono ?_; rintro e wX ⟨rfl, rfl⟩) | ((with_reducible show wpList _ _ _ (⟨_, .buildSlice 125 _ _, _, _, _, _⟩ :: _) _ _); refine wpList_bs_b rfl 125 5 3 _ rfl _ (fun w => bs125_3 _ _ _ w) ?_; intro w1 hN hb1; rw [and63 _ (by omega) (by omega), and63 _ hr2 (by omega), or128, or128] at hN; refine Hid.out ?_))
    refine Lib.hid ?_
    refine wpList_append_ownF w1 rfl (.tmp 11) (.tmp 25) 125 rfl B 5 i0 _ 1 1 Tryz.underlying125 hi0 hz0 hz1 hz2 rfl (by decide) v xs.length (xs.map (Value.int .u8)) rfl (rowF_only hown hb1) ⟨w.heap.size, 0, none⟩ 3 3 ([224 + r / 4096, 128 + r / 64 % 64, 128 + r % 64].map (Value.int .u8)) rfl rfl (fun j u hu => by rw [addrW, hN.cell]; simpa using hu) (fun u hu => by obtain ⟨y, _, rfl⟩ := List.mem_map.1 hu; rfl) (by unfold maxLen; omega) (by omega) (by have := hb1.size; omega) ?_
    intro v' w2 hown2 hg2 _
    go_wp2
    go_ret
    refine ⟨v', rfl, ?_, (Only.of_below hb1).trans ⟨hg2.os, hg2.tape, hg2.output, hg2.size, fun k hk hn => hg2.block k hk fun e => hn (by rw [← e]; simp)⟩⟩
    rw [he, List.map_append, List.length_append]
    exact hown2
  · rw [hh] at c68
    clear hh
    go_enter Tryz.func70, Tryz.ntmps70
    go_wp2_with (first | (go_at_call 68; refine (c68 _).mono ?_; rintro e wX ⟨rfl, rfl⟩) | (go_at_call 69; refine (c69 _).mono ?_; rintro e wX ⟨rfl, rfl⟩) | ((with_reducible show wpList _ _ _ (⟨_, .buildSlice 125 _ _, _, _, _, _⟩ :: _) _ _); refine wpList_bs_b rfl 125 5 3 _ rfl _ (fun w => bs125_3 _ _ _ w) ?_; intro w1 hN hb1; rw [and63 _ (by omega) (by omega), and63 _ hr2 (by omega), or128, or128] at hN; refine Hid.out ?_))
    refine Lib.hid ?_
    refine wpList_append_ownF w1 rfl (.tmp 11) (.tmp 25) 125 rfl B 5 i0 _ 1 1 Tryz.underlying125 hi0 hz0 hz1 hz2 rfl (by decide) v xs.length (xs.map (Value.int .u8)) rfl (rowF_only hown hb1) ⟨w.heap.size, 0, none⟩ 3 3 ([224 + r / 4096, 128 + r / 64 % 64, 128 + r % 64].map (Value.int .u8)) rfl rfl (fun j u hu => by rw [addrW, hN.cell]; simpa using hu) (fun u hu => by obtain ⟨y, _, rfl⟩ := List.mem_map.1 hu; rfl) (by unfold maxLen; omega) (by omega) (by have := hb1.size; omega) ?_
    intro v' w2 hown2 hg2 _
    go_wp2
    go_ret
    refine ⟨v', rfl, ?_, (Only.of_below hb1).trans ⟨hg2.os, hg2.tape, hg2.output, hg2.size, fun k hk hn => hg2.block k hk fun e => hn (by rw [← e]; simp)⟩⟩
    rw [he, List.map_append, List.length_append]
    exact hown2


theorem rune_enc {r : Int} (h0 : 0 ≤ r) (h1 : r ≤ 1114111) (hs : ¬ (55296 ≤ r ∧ r < 57344)) : Lib.runeCells r = (encI r).map (Value.int .u8) := by
  unfold Lib.runeCells encI
  by_cases c1 : r < 128
  · rw [if_pos c1, Lib.encodeRuneZ_one h0 (by omega)]
  · by_cases c2 : r < 2048
    · rw [if_neg c1, if_pos c2, Lib.encodeRuneZ_two (by omega) (by omega)]
    · by_cases c3 : r < 65536
      · rw [if_neg c1, if_neg c2, if_pos c3, Lib.encodeRuneZ_three (by omega)]
      · rw [if_neg c1, if_neg c2, if_neg c3, Lib.encodeRuneZ_four (by omega) h1]
theorem write_any (B : Nat) (v : Value) (xs : List Int) (r : Int) (hr0 : 0 ≤ r) (hr1 : r ≤ 1114111) (w : World) (hown : w.ownsRowF B 5 1 v xs.length (xs.map (Value.int .u8))) (hlen : xs.length + 4 ≤ 4398046511104) (hBw : B ≤ w.heap.size) :
    Calls Tryz.prog 70 #[v, .int .i32 r] w fun e w' => ∃ v', e = .returned v' ∧ w'.ownsRowF B 5 1 v' (xs ++ encI r).length ((xs ++ encI r).map (Value.int .u8)) ∧ Only v.ownBlock.toList w w' := by
  by_cases hs : 55296 ≤ r ∧ r < 57344
  · exact write_sur B v xs r hs.1 hs.2 w hown hlen hBw
  · have c68 := fun W => hi_any r W
    have c69 := fun W => lo_any r W
    have hh : uhi r = false := by unfold uhi; simp; omega
    have hl : ulo r = false := by unfold ulo; simp; omega
    rw [hh] at c68
    rw [hl] at c69
    have c119 : Calls Tryz.prog 119 #[v, .int .i32 r] w fun e w' => ∃ v', e = .returned v' ∧ w'.ownsRowF B 5 1 v' (xs.length + (Lib.runeCells r).length) (xs.map (Value.int .u8) ++ Lib.runeCells r) ∧ ∃ o, (w.alloc o).grownBy w' v.ownBlock :=
      Any.utf8_AppendRune_row Tryz.lays242 info5 B v xs.length _ r (by omega) (by omega) w hown (by omega) hBw
    rw [rune_enc hr0 hr1 hs] at c119
    clear hh hl hs hown
    go_enter Tryz.func70, Tryz.ntmps70
    go_wp2_with (first | (go_at_call 68; refine (c68 _).mono ?_; rintro e wX ⟨rfl, rfl⟩) | (go_at_call 69; refine (c69 _).mono ?_; rintro e wX ⟨rfl, rfl⟩) | (go_at_call 119; refine c119.mono ?_; rintro e w2 ⟨v', rfl, hown2, o, hg2⟩))
    go_ret
    refine ⟨v', rfl, ?_, only_grow hg2⟩
    rw [List.map_append, List.length_append]
    simpa using hown2

end Go.Proofs.YtoalboilghgalaaGreatDoor

/- units.Of: code units put together. -/
namespace Go.Proofs.YtoalboilghgalaaGreatDoor
open Go.RowKit
open Go.Proofs.Dc (V Ds Ky)
attribute [local go_sem] run_store_float

/-- code units that lie in memory -/
def UAt (W : World) (g o : Nat) (U : List Int) : Prop := ∀ j (h : j < U.length), W.cell? ⟨g, o + j, none⟩ = some (.int .u16 U[j])
theorem UAt.below {W W' : World} {g o : Nat} {U : List Int} (h : UAt W g o U) (hb : Below W.heap.size W W') (hg : g < W.heap.size) : UAt W' g o U := fun j hj => by
  rw [hb.cell (p := ⟨g, o + j, none⟩) hg]; exact h j hj
theorem rowF_base {W : World} {B : Nat} {e : TypeId} {size n : Nat} {v : Value} {xs : List Value} (h : W.ownsRowF B e size v n xs) : ∀ b, b ∈ v.ownBlock.toList → B ≤ b := by
  intro b hb
  rcases h.2 with ⟨rfl, _⟩ | ⟨g, cap, cur, fz, rfl, h2, _⟩
  · simp [Value.ownBlock] at hb
  · simp [Value.ownBlock] at hb; omega
theorem join_pair {U : List Int} {i : Nat} (h1 : i + 1 < U.length) (hp : (uhi U[i] && ulo U[i + 1]) = true) : joinU (U.drop i) = (65536 + (U[i] - 55296) * 1024 + U[i + 1] - 56320) :: joinU (U.drop (i + 2)) := by
  rw [List.drop_eq_getElem_cons (by omega), List.drop_eq_getElem_cons h1, joinU, if_pos hp]
  congr 1; omega
theorem join_one {U : List Int} {i : Nat} (h : i < U.length) (hp : ∀ h1 : i + 1 < U.length, (uhi U[i] && ulo U[i + 1]) = false) : joinU (U.drop i) = U[i] :: joinU (U.drop (i + 1)) := by
  rw [List.drop_eq_getElem_cons h]
  by_cases h1 : i + 1 < U.length
  · rw [List.drop_eq_getElem_cons h1, joinU, if_neg (by rw [hp h1]; simp)]
  · rw [List.drop_eq_nil_of_le (by omega), joinU]; rfl
theorem encL_byte : ∀ (P : List Int) (l : Int), Apart l P → ∀ x ∈ encL P, 0 ≤ x ∧ x < 256
  | [], _, _, x, hx => by simp [encL] at hx
  | r :: P, l, ⟨_, h2, h3, h4⟩, x, hx => by
    unfold encL at hx
    rw [List.flatMap_cons, List.mem_append] at hx
    rcases hx with hx | hx
    · exact encI_byte h2 h3 x hx
    · exact encL_byte P r h4 x hx
theorem conv_bytes {W : World} {B : Nat} {v : Value} {xs : List Int} (h : W.ownsRowF B 5 1 v xs.length (xs.map (Value.int .u8))) (hx : ∀ x ∈ xs, 0 ≤ x ∧ x < 256) : (convert 125 9 v).run Tryz.prog W = .ok (.string (ofB xs)) W := by
  rcases h.2 with ⟨rfl, h2⟩ | ⟨g, cap, cur, fz, rfl, _, h3, _, h5, _, h6, h7⟩
  · rw [List.eq_nil_of_length_eq_zero h2]; kernel_rfl
  · have hc := run_convert_bytes_back (P := Tryz.prog) W 125 9 5 ⟨g, 0, none⟩ cap (xs.map fun x => UInt8.ofNat x.toNat) Tryz.underlying125 Tryz.underlying5 Tryz.underlying9 (fun j hj => by
      have hj' : j < xs.length := by simpa using hj
      have h8 : (cur.toList.take (xs.length * 1))[j]? = some (.int .u8 xs[j]) := by rw [h7]; simp [hj']
      rw [List.getElem?_take_of_lt (by omega), Array.getElem?_toList] at h8
      rw [addrW, World.cell?, h3]
      simp only [List.getElem_map]
      rw [byteN (hx _ (List.getElem_mem hj'))]
      simpa using h8)
    rw [List.length_map] at hc
    exact hc
theorem encL_cons (r : Int) (P : List Int) : encL (r :: P) = encI r ++ encL P := by simp [encL]

theorem uof_any (g o n cap : Nat) (U : List Int) (hn : U.length = n) (w : World) (hU : UAt w g o U) (hg : n = 0 ∨ g < w.heap.size) (hu : ∀ x ∈ U, IsU x) (hlen : n ≤ 4000000) :
    Calls Tryz.prog 25 #[.slice (some ⟨g, o, none⟩) n cap] w fun e w' => e = .returned (.string (ofU U)) ∧ Below w.heap.size w w' := by
  subst hn
  have HU : Hid (∀ W, Below w.heap.size w W → ∀ j (h : j < U.length), W.cell? ⟨g, o + j, none⟩ = some (.int .u16 U[j])) := Lib.hid fun W hb j h => hU.below hb (by omega) j h
  have c68 := fun r W => hi_any r W
  have c69 := fun r W => lo_any r W
  clear hU
  go_enter Tryz.func25, Tryz.ntmps25
  go_wp2
  go_loopg [3, 4] U.length (fun fu s3 s4 wr => ∃ (i : Nat) (acc : List Int), s4 = .int .i64 (i : Nat) ∧ i ≤ U.length ∧ U.length - i ≤ fu ∧ wr.ownsRowF w.heap.size 5 1 s3 acc.length (acc.map (Value.int .u8)) ∧ acc ++ encL (joinU (U.drop i)) = encL (joinU U) ∧ Below w.heap.size w wr)
  case atStart => exact ⟨0, [], rfl, Nat.zero_le _, by omega, World.ownsRowF_nil _ _ _ _, rfl, Below.refl _ _⟩
  case round =>
    obtain ⟨i, acc, rfl, hi, hfu, hown, hacc, hb⟩ := hrel
    have hA := HU.out wr hb
    have HB := Lib.hid hb
    have HA := Lib.hid hacc
    have HO := Lib.hid hown
    have HL : Hid (acc.length ≤ 16000000) := Lib.hid (by
      have h1 := congrArg List.length hacc
      have h2 := joinU_len U
      rw [List.length_append] at h1; omega)
    clear hb hacc
    by_cases hlt : i < U.length
    · have hci := hA i hlt
      have hj1 := fun hp => join_one (U := U) hlt hp
      have hx := hu U[i] (List.getElem_mem hlt)
      obtain ⟨x, hxe⟩ : ∃ x, x = U[i] := ⟨_, rfl⟩
      rw [← hxe] at hci hx
      have hx0 : 0 ≤ x := hx.1
      have hx1 : x < 65536 := hx.2
      have HX := Lib.hid hxe
      have HJ := Lib.hid hj1
      have hi0 : (0 : Int) ≤ (i : Int) := by omega
      have hi1 : (i : Int) < (U.length : Int) := by omega
      clear hj1 hxe
      cases hh : uhi x
      · clear hA
        go_wp2_with (first | (go_at_call 68; refine (c68 _ _).mono ?_; rintro e wX ⟨rfl, rfl⟩; rw [hh]) | (go_at_call 70; refine (write_any w.heap.size _ acc (x) (by omega) (by omega) _ hown (by have := HL.out; omega) (by have := HB.out.size; omega)).mono ?_; rintro e wY ⟨v', rfl, hown', hO⟩; have hbY := HB.out.trans (hO.below w.heap.size HB.out.size (fun b hb => rowF_base HO.out b hb))))
        go_roundg (U.length - (i + 1))
        case measure => omega
        case rel =>
          refine ⟨i + 1, acc ++ encI (x), by go_num, by omega, Nat.le_refl _, hown', ?_, hbY⟩
          rw [List.append_assoc, ← encL_cons, ← (show joinU (U.drop i) = x :: joinU (U.drop (i + 1)) from by rw [HX.out]; exact HJ.out (fun h1 => by rw [← HX.out, hh]; rfl))]
          exact HA.out
      · have hhx : 55296 ≤ x ∧ x < 56320 := by unfold uhi at hh; simpa using hh
        by_cases h1 : i + 1 < U.length
        · have hcj := hA (i + 1) h1
          have hy := hu U[i + 1] (List.getElem_mem h1)
          obtain ⟨y, hye⟩ : ∃ y, y = U[i + 1] := ⟨_, rfl⟩
          rw [← hye] at hcj hy
          have hy0 : 0 ≤ y := hy.1
          have hy1 : y < 65536 := hy.2
          have HY := Lib.hid hye
          have h1c : (i : Int) + 1 < (U.length : Int) := by omega
          clear hye hA
          cases hl : ulo y
          · go_wp2_with (first | (go_at_call 68; refine (c68 _ _).mono ?_; rintro e wX ⟨rfl, rfl⟩; rw [hh]) | (go_at_call 69; refine (c69 _ _).mono ?_; rintro e wX ⟨rfl, rfl⟩; rw [hl]) | (go_at_call 70; refine (write_any w.heap.size _ acc (x) (by omega) (by omega) _ hown (by have := HL.out; omega) (by have := HB.out.size; omega)).mono ?_; rintro e wY ⟨v', rfl, hown', hO⟩; have hbY := HB.out.trans (hO.below w.heap.size HB.out.size (fun b hb => rowF_base HO.out b hb))))
            go_roundg (U.length - (i + 1))
            case measure => omega
            case rel =>
              refine ⟨i + 1, acc ++ encI (x), by go_num, by omega, Nat.le_refl _, hown', ?_, hbY⟩
              rw [List.append_assoc, ← encL_cons, ← (show joinU (U.drop i) = x :: joinU (U.drop (i + 1)) from by rw [HX.out]; exact HJ.out (fun h1 => by rw [← HY.out, hl]; simp))]
              exact HA.out
          · have hly : 56320 ≤ y ∧ y < 57344 := by unfold ulo at hl; simpa using hl
            go_wp2_with (first | (go_at_call 68; refine (c68 _ _).mono ?_; rintro e wX ⟨rfl, rfl⟩; rw [hh]) | (go_at_call 69; refine (c69 _ _).mono ?_; rintro e wX ⟨rfl, rfl⟩; rw [hl]) | (go_at_call 70; refine (write_any w.heap.size _ acc (65536 + (x - 55296) * 1024 + y - 56320) (by omega) (by omega) _ hown (by have := HL.out; omega) (by have := HB.out.size; omega)).mono ?_; rintro e wY ⟨v', rfl, hown', hO⟩; have hbY := HB.out.trans (hO.below w.heap.size HB.out.size (fun b hb => rowF_base HO.out b hb))))
            go_roundg (U.length - (i + 2))
            case measure => omega
            case rel =>
              refine ⟨i + 2, acc ++ encI (65536 + (x - 55296) * 1024 + y - 56320), by go_num, by omega, Nat.le_refl _, hown', ?_, hbY⟩
              rw [List.append_assoc, ← encL_cons, ← (show joinU (U.drop i) = (65536 + (x - 55296) * 1024 + y - 56320) :: joinU (U.drop (i + 2)) from by rw [HX.out, HY.out]; exact join_pair h1 (by rw [← HX.out, ← HY.out, hh, hl]; rfl))]
              exact HA.out
        · have h1c : ¬ ((i : Int) + 1 < (U.length : Int)) := by omega
          clear hA
          go_wp2_with (first | (go_at_call 68; refine (c68 _ _).mono ?_; rintro e wX ⟨rfl, rfl⟩; rw [hh]) | (go_at_call 70; refine (write_any w.heap.size _ acc (x) (by omega) (by omega) _ hown (by have := HL.out; omega) (by have := HB.out.size; omega)).mono ?_; rintro e wY ⟨v', rfl, hown', hO⟩; have hbY := HB.out.trans (hO.below w.heap.size HB.out.size (fun b hb => rowF_base HO.out b hb))))
          go_roundg (U.length - (i + 1))
          case measure => omega
          case rel =>
            refine ⟨i + 1, acc ++ encI (x), by go_num, by omega, Nat.le_refl _, hown', ?_, hbY⟩
            rw [List.append_assoc, ← encL_cons, ← (show joinU (U.drop i) = x :: joinU (U.drop (i + 1)) from by rw [HX.out]; exact HJ.out (fun h => absurd h h1))]
            exact HA.out
    · have hie : i = U.length := by omega
      subst hie
      have hae : acc = encL (joinU U) := by
        have h := HA.out
        rw [List.drop_length, show joinU [] = [] from rfl, show encL [] = [] from rfl, List.append_nil] at h
        exact h
      have hcv := conv_bytes HO.out (by rw [hae]; exact encL_byte _ 0 (joinU_apart U 0 hu fun x _ => rfl))
      have HE := Lib.hid hae
      clear hae hown hA
      go_wp2
      go_ret
      exact ⟨by rw [HE.out]; rfl, HB.out⟩


end Go.Proofs.YtoalboilghgalaaGreatDoor
