/- Lemmas for this claim, in parts: Pts, Uni. -/
import Derived.Test.YtoalboilghgalaaGreatDoorC40
import Derived.Test.YtoalboilghgalaaGreatDoorC18
import Derived.Deep.DeepCutAuto
import Derived.Laws.AppendOwn
import Derived.OwnWalk
import Derived.Great.BuildSlice
import Derived.WalkLawsBesides
import Derived.WalkSpells
set_option maxRecDepth 100000
set_option maxHeartbeats 4000000
set_option linter.unusedVariables false
set_option linter.unusedSimpArgs false
/- The code points and code units of a string, with the count of draws: units.point, units.Units. -/
namespace Go.Proofs.YtoalboilghgalaaGreatDoor
open Go.RowKit
open Go.Proofs.Dc (V Ds Ky)
attribute [local go_sem] run_store_float

attribute [local go_sem] Oper.semAt_some
theorem point_g (s : ByteArray) (w : World) (hT : Tabs w) (hn2 : s.size ≤ 4611686018427387904) :
    Calls Tryz.prog 103 #[.string s] w fun e w' => e = .returned (.tuple #[.int .i32 (upt s).1, .int .i64 ((upt s).2 : Nat)]) ∧ Grw w w' := by
  have cS := decode_g s w hT hn2
  obtain ⟨R, hR⟩ : ∃ R, (Lib.decodeGo s).1 = R := ⟨_, rfl⟩
  obtain ⟨K, hK⟩ : ∃ K, (Lib.decodeGo s).2 = K := ⟨_, rfl⟩
  have hu : upt s = if R ≠ 65533 ∨ K = 3 then ((R : Int), K) else if isSur s then (53248 + ((s.get! 1).toNat : Int) % 64 * 64 + ((s.get! 2).toNat : Int) % 64, 3) else (0, 0) := by unfold upt; rw [hR, hK]
  rw [hR, hK] at cS
  clear hR hK hT hn2
  by_cases h1 : R ≠ 65533 ∨ K = 3
  · rw [if_pos h1] at hu
    rw [hu]
    clear hu
    by_cases h2 : R = 65533
    · have h3 : K = 3 := by omega
      subst h2 h3
      clear h1
      go_enter Tryz.func103, Tryz.ntmps103
      go_wp2_with (go_at_call 138; refine cS.mono ?_; rintro e w' ⟨rfl, hb⟩)
      go_ret2
      exact ⟨rfl, hb⟩
    · have h4 : ((R : Int) != 65533) = true := by simp; omega
      clear h1
      go_enter Tryz.func103, Tryz.ntmps103
      go_wp2_with (go_at_call 138; refine cS.mono ?_; rintro e w' ⟨rfl, hb⟩)
      go_ret2
      exact ⟨rfl, hb⟩
  · rw [if_neg h1] at hu
    have h2 : R = 65533 := by omega
    have h3 : ¬ K = 3 := by omega
    subst h2
    have h4 : ((K : Int) == 3) = false := by simp; omega
    clear h1 h3
    by_cases hl : 3 ≤ s.size
    · have hz0 : (3 : Int) ≤ (s.size : Int) := by omega
      obtain ⟨x0, hx0⟩ : ∃ x0, s.get! 0 = x0 := ⟨_, rfl⟩
      obtain ⟨x1, hx1⟩ : ∃ x1, s.get! 1 = x1 := ⟨_, rfl⟩
      obtain ⟨x2, hx2⟩ : ∃ x2, s.get! 2 = x2 := ⟨_, rfl⟩
      have hs0 : s[0]'(by omega) = x0 := by rw [← hx0]; exact (Utf8W.get!_of_lt s 0 (by omega)).symm
      have hs1 : s[1]'(by omega) = x1 := by rw [← hx1]; exact (Utf8W.get!_of_lt s 1 (by omega)).symm
      have hs2 : s[2]'(by omega) = x2 := by rw [← hx2]; exact (Utf8W.get!_of_lt s 2 (by omega)).symm
      have hi : isSur s = isSur3 x0 x1 x2 := by simp [isSur, hl, hx0, hx1, hx2]
      rw [hi, hx1, hx2] at hu
      clear hx0 hx1 hx2 hi
      have hb0 := x0.toNat_lt
      have hb1 := x1.toNat_lt
      have hb2 := x2.toNat_lt
      obtain ⟨Y, hY⟩ : ∃ Y, upt s = Y := ⟨_, rfl⟩
      rw [hY] at hu ⊢
      have HY := Lib.hid hu
      clear hu hY
      go_enter Tryz.func103, Tryz.ntmps103
      go_wp2_with (go_at_call 138; refine cS.mono ?_; rintro e w' ⟨rfl, hb⟩)
      all_goals try go_region
      all_goals go_wp2
      all_goals go_ret2
      · exact ⟨by rw [HY.out, if_pos (by simp [isSur3, *])]; rfl, hb.drew⟩
      · exact ⟨by rw [HY.out, if_neg (by simp [isSur3, *])]; rfl, hb⟩
      · exact ⟨by rw [HY.out, if_neg (by simp [isSur3]; omega)]; rfl, hb⟩
      · exact ⟨by rw [HY.out, if_neg (by simp [isSur3]; omega)]; rfl, hb⟩
      · exact ⟨by rw [HY.out, if_neg (by simp [isSur3]; omega)]; rfl, hb⟩
    · have hi : isSur s = false := by simp [isSur, hl]
      rw [hi, if_neg (by simp)] at hu
      have hz0 : ¬ (3 : Int) ≤ (s.size : Int) := by omega
      rw [hu]
      clear hu hi
      go_enter Tryz.func103, Tryz.ntmps103
      go_wp2_with (go_at_call 138; refine cS.mono ?_; rintro e w' ⟨rfl, hb⟩)
      go_ret2
      exact ⟨rfl, hb⟩

section
variable {P : Program}
/-- an append's tape is not asked backwards -/
theorem run_append_own_g {w : World} (base : Nat) (t ty e : TypeId) (i : TypeInfo) (z : Value) (size bytes : Nat) (ht : P.underlying t = some (.slice e)) (hi : P.info? e = some i) (hz : i.zero = some z)
    (hsize : i.size = size) (hby : i.bytes = bytes) (hzs : z.cells.size = size) (hsz : 0 < size)
    (v : Value) (n : Nat) (xs : List Value) (hown : w.ownsRow base e size v n xs)
    (a : Addr) (m c : Nat) (news : List Value) (hl : news.length = m * size) (hnews : ∀ j u, news[j]? = some u → w.cell? (a.add j) = some u) (h1 : ∀ u ∈ news, u.oneCell' = true)
    (h63 : n + m ≤ maxLen) (hbytes : (n + m) * bytes ≤ 140737488355328) (hbase : base ≤ w.heap.size) :
    ∃ v' w', (Builtin.append_ #[t, t] ty #[v, .slice (some a) m c]).run P w = .ok v' w' ∧ w'.ownsRow base e size v' (n + m) (xs ++ news) ∧ w.grownBy w' v.ownBlock ∧ w.drawn ≤ w'.drawn := by
  obtain ⟨v', w', hr, h2, h3, _⟩ := run_append_own (P := P) w base t ty e i z size bytes ht hi hz hsize hby hzs hsz v n xs hown a m c news hl hnews h1 h63 hbytes hbase
  refine ⟨v', w', hr, h2, h3, ?_⟩
  subst hsize
  subst hby
  have hsmall : n + m ≤ 9223372036854775807 := by simp only [maxLen] at h63; omega
  rcases hown.2 with ⟨rfl, rfl⟩ | ⟨g, cap, cur, rfl, hbg, hg, hnc, hcm, hcs, htake⟩
  · by_cases hm : m = 0
    · subst hm
      have hn : news = [] := List.eq_nil_of_length_eq_zero (by simpa using hl)
      subst hn
      have e : (Builtin.append_ #[t, t] ty #[.slice none 0 0, .slice (some a) 0 c]).run P w = .ok (.slice none 0 0) w := by
        simp [Builtin.append_, run_underlying ht, sizeOf, typeInfo, hi, Builtin.lenOf, Builtin.firstCells, loadCells, loadCellsFrom]
      rw [e] at hr
      injection hr with _ hr
      subst hr
      exact Nat.le_refl _
    · have e := run_append_nil (P := P) w t ty _ i z ht hi hz a m c news hl hnews (by omega) (by omega) (by have hb := hbytes; simp only [Nat.zero_add] at hb; omega)
      rw [e] at hr
      injection hr with _ hr
      subst hr
      exact Nat.le_succ _
  · by_cases hroom : n + m ≤ cap
    · have hfit : n * i.size + news.length ≤ cur.size := by rw [hl, hcs, ← Nat.add_mul]; exact Nat.mul_le_mul_right _ hroom
      have e := run_append_room (P := P) w t ty _ i ht hi g n cap cur hg a m c news hl hnews h1 hroom hfit
      rw [e] at hr
      injection hr with _ hr
      subst hr
      exact Nat.le_refl _
    · have holds : ∀ j u, xs[j]? = some u → w.cell? ((⟨g, 0, none⟩ : Addr).add j) = some u := hown.cells (g := g) rfl
      have e := run_append_grow (P := P) w t ty _ i z ht hi hz ⟨g, 0, none⟩ n cap xs hown.1 holds a m c news hl hnews (by omega) (by omega) (growslice_fits (by omega) hbytes)
      rw [e] at hr
      injection hr with _ hr
      subst hr
      exact Nat.le_succ _
end

end Go.Proofs.YtoalboilghgalaaGreatDoor

/- A string's code units: units.Units. -/
namespace Go.Proofs.YtoalboilghgalaaGreatDoor
open Go.RowKit
open Go.Proofs.Dc (V Ds Ky)
attribute [local go_sem] run_store_float

attribute [local go_sem] Oper.semAt_some
theorem info121 : (Tryz.prog.info? 121).map (fun i => (i.zero, i.size, i.bytes)) = some (some (.int .u16 0), 1, 2) := by kernel_rfl
theorem Tryz.size52 : (Tryz.prog.info? 52).map (·.size) = some 1 := by kernel_rfl
theorem zero52 (w : World) : (zeroValue 52).run Tryz.prog w = .ok (.slice none 0 0) w := by kernel_rfl
theorem bs52_1 (x : Int) (w : World) : (Instr.buildSlice 52 1 #[(0, .int .u16 x)]).run Tryz.prog w = .ok (.slice (some ⟨w.heap.size, 0, none⟩) 1 1) (w.alloc (.cells #[.int .u16 x] 121)) := by kernel_rfl
theorem bs52_2 (x y : Int) (w : World) : (Instr.buildSlice 52 2 #[(0, .int .u16 x), (1, .int .u16 y)]).run Tryz.prog w = .ok (.slice (some ⟨w.heap.size, 0, none⟩) 2 2) (w.alloc (.cells #[.int .u16 x, .int .u16 y] 121)) := by kernel_rfl
/-- a box of code units, grown since w0 -/
structure Uni (w0 W : World) (c : Nat) (v : Value) (xs : List Int) : Prop where
  grw : Grw w0 W
  lo : w0.heap.size ≤ c
  blk : Blk W c #[v] 52
  own : W.ownsRow (c + 1) 121 1 v xs.length (xs.map (Value.int .u16))
section
variable {ops : Array Oper} {rest : List Oper} {o : Oper} {a : Act} {W : World} {Q : Exit → Act → World → Prop}
theorem wpList_bs_g {P : Program} (hgd : o.guard = none) (t e : TypeId) (len : Nat) (parts : Array (Nat × Operand)) (ho : o.op = .buildSlice t len parts) (cs : Array Value)
    (hr : ∀ w, (Instr.buildSlice t len (parts.toList.map fun (i, x) => (i, a.eval x)).toArray).run P w = .ok (.slice (some ⟨w.heap.size, 0, none⟩) len len) (w.alloc (.cells cs e)))
    (h : ∀ W', Blk W' W.heap.size cs e → Grw W W' → wpList P ops Q rest (a.put o.dst (.slice (some ⟨W.heap.size, 0, none⟩) len len)) W') : wpList P ops Q (o :: rest) a W :=
  wpList_plain hgd fun _ hK => by
    have e : (parts.map fun (i, x) => (i, a.eval x)) = (parts.toList.map fun (i, x) => (i, a.eval x)).toArray := by cases parts; simp
    unfold Oper.wp execOp
    simp only [ho, e, Sem.run_bind, hr, Result.andThen_ok]
    exact hK _ _ (h _ (Blk.new _ _ _) (Grw.alloc _ _))
theorem wpList_app52 {w0 W : World} {c : Nat} {v : Value} {xs : List Int} (hgd : o.guard = none) (s x : Operand) (ho : o.op = .call { callee := .builtin .append, args := #[s, x], argTypes := #[52, 52] })
    (hU : Uni w0 W c v xs) (hs : a.eval s = v) (ad : Nat) (us : List Int) (m : Nat) (hm : m = us.length) (hx : a.eval x = .slice (some ⟨ad, 0, none⟩) m m) (hN : Blk W ad (us.map (Value.int .u16)).toArray 121) (hsz : xs.length + us.length ≤ 1099511627776)
    (h : ∀ v' W', Blk W' c #[v] 52 → W'.ownsRow (c + 1) 121 1 v' (xs ++ us).length ((xs ++ us).map (Value.int .u16)) → Grw w0 W' → wpList Tryz.prog ops Q rest (a.put o.dst v') W') : wpList Tryz.prog ops Q (o :: rest) a W :=
  wpList_plain hgd fun _ hK => by
    subst hm
    obtain ⟨i0, hi, hz0, hz1, hz2⟩ := info_parts info121
    have hc : c < W.heap.size := hU.blk.lt
    obtain ⟨v', w', hr, h2, h3, h4⟩ := run_append_own_g (P := Tryz.prog) (w := W) (c + 1) 52 o.type 121 i0 _ 1 2 Tryz.underlying52 hi hz0 hz1 hz2 rfl (by decide) v xs.length _ hU.own ⟨ad, 0, none⟩ us.length us.length (us.map (Value.int .u16)) (by simp)
      (fun j u hu => by rw [show (⟨ad, 0, none⟩ : Addr).add j = ⟨ad, j, none⟩ by unfold Addr.add; split <;> simp_all, hN.cell]; simpa using hu) (fun u hu => by obtain ⟨y, _, rfl⟩ := List.mem_map.1 hu; rfl) (by simp only [maxLen]; omega) (by omega) (by omega)
    have hlt := hU.own.lt
    have hb : Blk w' c #[v] 52 := (h3.block c hc (fun e => by have := hlt c e.symm; omega)).trans hU.blk
    have hg : Grw w0 w' := ⟨⟨h3.os.trans hU.grw.below.os, h3.tape.trans hU.grw.below.tape, h3.output.trans hU.grw.below.output, Nat.le_trans hU.grw.below.size h3.size,
      fun k hk => (h3.block k (Nat.lt_of_lt_of_le hk hU.grw.below.size) (fun e => by have := hlt k e.symm; have := hU.lo; omega)).trans (hU.grw.below.block k hk)⟩, Nat.le_trans hU.grw.dr h4⟩
    unfold Oper.wp execOp
    simp only [ho, resolve, invoke, builtin, Sem.run_bind, Sem.run_pure, Result.andThen_ok, List.map_toArray, List.map_cons, List.map_nil, hs, hx, hr]
    exact hK _ _ (h v' w' hb (by rw [List.length_append, List.map_append]; exact h2) hg)
theorem wpList_st52 {w0 W : World} {c : Nat} {v v' : Value} {xs : List Int} (hgd : o.guard = none) (x y : Operand) (ho : o.op = .store 52 x y)
    (hx : a.eval x = .pointer (some ⟨c, 0, none⟩)) (hy : a.eval y = v') (hB : Blk W c #[v] 52) (hO : W.ownsRow (c + 1) 121 1 v' xs.length (xs.map (Value.int .u16))) (hG : Grw w0 W) (lo : w0.heap.size ≤ c)
    (h : ∀ W', Uni w0 W' c v' xs → wpList Tryz.prog ops Q rest (a.put o.dst undef) W') : wpList Tryz.prog ops Q (o :: rest) a W :=
  wpList_plain hgd fun _ hK => by
    have hk : v'.cells = #[v'] ∧ v'.oneCell' = true := by
      rcases hO.2 with ⟨rfl, _⟩ | ⟨g, cap, cur, rfl, _⟩ <;> exact ⟨rfl, rfl⟩
    have hw : storeVar 52 ⟨c, 0, none⟩ v' = storeVar 52 ⟨c, 0, none⟩ (.agg #[v']) := by
      unfold storeVar
      rw [hk.1]
      rfl
    have hr : (storeVar 52 ⟨c, 0, none⟩ v').run Tryz.prog W = .ok () (W.setCells c 0 [v']) := by
      rw [hw]
      exact run_storeVar_mid W c 0 52 #[v'] (fun i hi' => by
        have hi0 : i = 0 := by simpa using hi'
        subst hi0
        exact ⟨by rw [hB.cell]; rfl, hB.frozen _⟩) Tryz.size52 (by simp [hk.2])
    have hn := only_setCells (vs := [v']) (o := 0) hB
    have hd : (W.setCells c 0 [v']).drawn = W.drawn := by first | rfl | simp [World.setCells, World.setCell]
    have hU : Uni w0 (W.setCells c 0 [v']) c v' xs := by
      refine ⟨⟨hG.below.trans (hn.2.below _ hG.below.size (by simp; omega)), by rw [hd]; exact hG.dr⟩, lo, hn.1, ?_⟩
      refine hO.kept (row := some c) ⟨hn.2.os, hn.2.tape, hn.2.output, hn.2.size, fun k hk hne => hn.2.block k hk (by simpa using fun e => hne (by rw [e]))⟩ ?_
      cases hv : v'.ownBlock with
      | none => exact .inl rfl
      | some g => exact .inr (fun e => by have := hO.lt g hv; cases e; omega)
    unfold Oper.wp execOp
    simp only [ho, hx, hy, Instr.storeAt, Instr.sureAddr, Sem.run_bind, Sem.run_pure, Result.andThen_ok, hr]
    exact hK _ _ (h _ hU)
end
theorem Uni.grow {w0 W W' : World} {c : Nat} {v : Value} {xs : List Int} (h : Uni w0 W c v xs) (g : Grw W W') : Uni w0 W' c v xs :=
  ⟨⟨h.grw.below.trans (g.below.mono h.grw.below.size), Nat.le_trans h.grw.dr g.dr⟩, h.lo, h.blk.next g.below, h.own.kept (row := none) ⟨g.below.os, g.below.tape, g.below.output, g.below.size, fun k hk _ => g.below.block k hk⟩ (by cases hv : v.ownBlock <;> simp)⟩
theorem Uni.cast {w0 W : World} {c : Nat} {v : Value} {xs ys : List Int} (h : Uni w0 W c v xs) (e : xs = ys) : Uni w0 W c v ys := e ▸ h
theorem and1023 (x : Int) (h0 : 0 ≤ x) (h1 : x < 2147483648) : bits .and .i32 x 1023 = x % 1024 :=
  bits_mask .i32 31 (by decide) (fun n h h' => by simp [IntKind.wrap, IntKind.bits, IntKind.signed]; omega) 10 (by decide) x h0 (by omega)
theorem yield62 {w0 W : World} {c : Nat} {v : Value} {xs : List Int} (i r : Int) (hr : 0 ≤ r ∧ r ≤ 1114111) (hU : Uni w0 W c v xs) (hx : xs.length + 2 ≤ 1099511627776) :
    Calls Tryz.prog 62 #[.int .i64 i, .int .i32 r, .pointer (some ⟨c, 0, none⟩)] W fun e w' => e = .returned (.bool true) ∧ ∃ v', Uni w0 w' c v' (xs ++ ptU r) := by
  obtain ⟨ra, n, k, rfl⟩ : ∃ ra n k, v = .slice ra n k := by
    rcases hU.own.2 with ⟨rfl, _⟩ | ⟨g, cap, cur, rfl, _⟩
    · exact ⟨_, _, _, rfl⟩
    · exact ⟨_, _, _, rfl⟩
  have hc : W.cell? ⟨c, 0, none⟩ = some (.slice ra n k) := hU.blk.cell 0
  have HLO := Lib.hid hU.lo
  have HX := Lib.hid hx
  clear hx
  obtain ⟨hr0, hr1⟩ := hr
  by_cases h6 : 65536 ≤ r
  · go_enter Tryz.func62, Tryz.ntmps62
    go_wp2_with (first | ((with_reducible show wpList _ _ _ (⟨_, .buildSlice 52 _ _, _, _, _, _⟩ :: _) _ _); refine wpList_bs_g rfl 52 121 _ _ rfl #[.int .u16 _, .int .u16 _] (fun w => bs52_2 _ _ w) ?_; intro W1 hN hG; have hU1 := hU.grow hG) | ((with_reducible show wpList _ _ _ (⟨_, .call _, _, _, _, _⟩ :: _) _ _); refine wpList_app52 rfl _ _ rfl hU1 rfl _ [_, _] 2 rfl rfl hN (Nat.le_trans (by simp) HX.out) ?_; intro v2 W2 hB2 hO2 hG2) | ((with_reducible show wpList _ _ _ (⟨_, .store 52 _ _, _, _, _, _⟩ :: _) _ _); refine wpList_st52 rfl _ _ rfl rfl rfl hB2 hO2 hG2 HLO.out ?_; intro W3 hU3))
    go_ret
    refine ⟨rfl, v2, hU3.cast ?_⟩
    clear hU3 hO2 hB2 hN hc hU
    unfold ptU
    rw [if_pos h6, and1023 _ (by omega) (by omega)]
    congr 3
    have : wrap32 (56320 + (r - 65536) % 1024) = 56320 + (r - 65536) % 1024 := by unfold wrap32; omega
    rw [this]
    simp [IntKind.wrap, IntKind.bits, IntKind.signed]
    omega
  · go_enter Tryz.func62, Tryz.ntmps62
    go_wp2_with (first | ((with_reducible show wpList _ _ _ (⟨_, .buildSlice 52 _ _, _, _, _, _⟩ :: _) _ _); refine wpList_bs_g rfl 52 121 _ _ rfl #[.int .u16 _] (fun w => bs52_1 _ w) ?_; intro W1 hN hG; have hU1 := hU.grow hG) | ((with_reducible show wpList _ _ _ (⟨_, .call _, _, _, _, _⟩ :: _) _ _); refine wpList_app52 rfl _ _ rfl hU1 rfl _ [_] 1 rfl rfl hN (Nat.le_trans (by simp) HX.out) ?_; intro v2 W2 hB2 hO2 hG2) | ((with_reducible show wpList _ _ _ (⟨_, .store 52 _ _, _, _, _, _⟩ :: _) _ _); refine wpList_st52 rfl _ _ rfl rfl rfl hB2 hO2 hG2 HLO.out ?_; intro W3 hU3))
    go_ret
    exact ⟨rfl, v2, hU3.cast (by unfold ptU; rw [if_neg (by omega)])⟩
theorem Uni.sl {w0 W : World} {c : Nat} {v : Value} {xs : List Int} (hU : Uni w0 W c v xs) : ∃ ra n k, v = .slice ra n k := by
  rcases hU.own.2 with ⟨rfl, _⟩ | ⟨g, cap, cur, rfl, _⟩
  · exact ⟨_, _, _, rfl⟩
  · exact ⟨_, _, _, rfl⟩
theorem uptsF_fuel {s : ByteArray} : ∀ (f g k : Nat) (l : Int), uwalk s k l = true → s.size - k ≤ f → s.size - k ≤ g → uptsF s f k = uptsF s g k
  | 0, g, k, l, _, hf, _ => by
    cases g with
    | zero => rfl
    | succ g => simp only [uptsF, if_neg (show ¬ k < s.size by omega)]
  | f + 1, g, k, l, h, hf, hg => by
    by_cases h1 : k < s.size
    · obtain ⟨g', rfl⟩ : ∃ g', g = g' + 1 := ⟨g - 1, by omega⟩
      have hk : (upt (s.extract k s.size)).2 ≠ 0 := fun h0 => by rw [uwalk_bad h1 h0] at h; cases h
      simp only [uptsF, if_pos h1]
      rw [uptsF_fuel f g' _ (upt (s.extract k s.size)).1 ?_ (by omega) (by omega)]
      cases hc : (uhi l && ulo (upt (s.extract k s.size)).1) with
      | true => simp only [Bool.and_eq_true] at hc; rw [uwalk_pair h1 hc.1 hc.2] at h; cases h
      | false => rw [uwalk_on h1 hk hc] at h; exact h
    · cases g with
      | zero => simp only [uptsF, if_neg h1]
      | succ g => simp only [uptsF, if_neg h1]
theorem ptU_len {r : Int} {k n b0 b1 b2 b3 : Nat} (h : PtOk r k n b0 b1 b2 b3) : (ptU r).length ≤ k := by
  unfold PtOk at h
  unfold ptU
  split <;> simp <;> omega
/-- one step of the walk -/
theorem upts_step {s : ByteArray} {k : Nat} {l : Int} (h1 : k < s.size) (h : uwalk s k l = true) :
    ¬ (upt (s.extract k s.size)).2 = 0 ∧ (uhi l && ulo (upt (s.extract k s.size)).1) = false ∧ uwalk s (k + (upt (s.extract k s.size)).2) (upt (s.extract k s.size)).1 = true ∧
    (0 ≤ (upt (s.extract k s.size)).1 ∧ (upt (s.extract k s.size)).1 ≤ 1114111) ∧ (ptU (upt (s.extract k s.size)).1).length ≤ (upt (s.extract k s.size)).2 ∧ (upt (s.extract k s.size)).2 ≤ s.size - k ∧
    uptsF s (s.size - k) k = (upt (s.extract k s.size)).1 :: uptsF s (s.size - (k + (upt (s.extract k s.size)).2)) (k + (upt (s.extract k s.size)).2) := by
  have hk : (upt (s.extract k s.size)).2 ≠ 0 := fun h0 => by rw [uwalk_bad h1 h0] at h; cases h
  have hc : (uhi l && ulo (upt (s.extract k s.size)).1) = false := by
    cases hc : (uhi l && ulo (upt (s.extract k s.size)).1) with
    | true => simp only [Bool.and_eq_true] at hc; rw [uwalk_pair h1 hc.1 hc.2] at h; cases h
    | false => rfl
  have hw : uwalk s (k + (upt (s.extract k s.size)).2) (upt (s.extract k s.size)).1 = true := by rw [uwalk_on h1 hk hc] at h; exact h
  have hp := upt_ok (s := s.extract k s.size) (by simp; omega) hk
  have hle : (upt (s.extract k s.size)).2 ≤ s.size - k := by simpa using hp.range.2.2.2
  refine ⟨hk, hc, hw, ⟨hp.range.1, hp.range.2.1⟩, ptU_len hp, hle, ?_⟩
  obtain ⟨f, hf⟩ : ∃ f, s.size - k = f + 1 := ⟨s.size - k - 1, by omega⟩
  rw [hf]
  simp only [uptsF, if_pos h1]
  rw [uptsF_fuel f (s.size - (k + (upt (s.extract k s.size)).2)) _ _ hw (by omega) (by omega)]
theorem wpList_alloc1_g {P : Program} {ops : Array Oper} {rest : List Oper} {o : Oper} {a : Act} {W : World} {Q : Exit → Act → World → Prop} (hgd : o.guard = none) (ty : TypeId) (ho : o.op = .alloc ty) (z : Value)
    (hz : ∀ w, (zeroValue ty).run P w = .ok z w) (h : ∀ W', Blk W' W.heap.size z.cells ty → Grw W W' → wpList P ops Q rest (a.put o.dst (.pointer (some ⟨W.heap.size, 0, none⟩))) W') : wpList P ops Q (o :: rest) a W :=
  wpList_plain hgd fun _ hK => by
    unfold Oper.wp execOp
    simp [ho, Instr.alloc, hz, newVar, go_sem]
    exact hK _ _ (h _ (Blk.new _ _ _) (Grw.alloc _ _))
theorem walk_u (s : ByteArray) {w0 W : World} {c : Nat} {v : Value} (hT : Tabs w0) (hU : Uni w0 W c v []) (hs : s.size + 2 ≤ 1099511627776) (hV : uvalid s = true) :
    Calls Tryz.prog 53 #[.string s, .func (.func 62) #[] #[.pointer (some ⟨c, 0, none⟩)]] W fun e w' => e = .returned (.bool true) ∧ ∃ v', Uni w0 w' c v' (unitsL s) := by
  have HT := Lib.hid hT
  have HS := Lib.hid hs
  have HU0 := Lib.hid hU
  have HV0 := Lib.hid hV
  clear hT hs hU hV
  go_enter Tryz.func53, Tryz.ntmps53
  go_wp2_with fail
  go_loopw [5, 6] (fun l i wr => ∃ (k : Nat) (r : Int) (xs : List Int) (v : Value), k ≤ s.size ∧ l = .int .i32 r ∧ i = .int .i64 k ∧ uwalk s k r = true ∧ xs.length ≤ k ∧ xs ++ (uptsF s (s.size - k) k).flatMap ptU = unitsL s ∧ Uni w0 wr c v xs) (fun l i wr => s.size - (intOf i).toNat)
  case atStart => exact ⟨0, 0, [], v, Nat.zero_le _, rfl, rfl, HV0.out, Nat.zero_le _, rfl, HU0.out⟩
  case round =>
    obtain ⟨k, r, xs, v, hk, rfl, rfl, hv, hl, hx, hU⟩ := hrel
    have HV := Lib.hid hv
    have HU := Lib.hid hU
    have HL := Lib.hid hl
    have HX := Lib.hid hx
    clear hv hU hl hx HU0 HV0
    by_cases hlt : k < s.size
    · have hst := upts_step hlt HV.out
      have cP := point_g (s.extract k s.size) wr (HT.out.below HU.out.grw.below) (by have := HS.out; simp; omega)
      obtain ⟨p, hp⟩ : ∃ p, upt (s.extract k s.size) = p := ⟨_, rfl⟩
      rw [hp] at cP hst
      clear hp
      obtain ⟨rn, n⟩ := p
      dsimp only at cP hst
      obtain ⟨q1, q2, q3, q4, q5, q6, q7⟩ := hst
      have cH := hi_any r
      have cL := lo_any rn
      have q1i : ¬ (n : Int) = 0 := by omega
      have Q2 := Lib.hid q2
      have Q3 := Lib.hid q3
      have Q4 := Lib.hid q4
      have Q5 := Lib.hid q5
      have Q6 := Lib.hid q6
      have Q7 := Lib.hid q7
      have HK := Lib.hid hk
      have HLT := Lib.hid hlt
      have hlti : (k : Int) < s.size := by omega
      clear q2 q3 q4 q5 q6 q7 hk
      go_wp2_with (first | (go_at_call 103; refine cP.mono ?_; rintro e w1 ⟨rfl, hb⟩; have HU1 := Lib.hid (HU.out.grow hb)) | (go_at_call 68; refine (cH _).mono ?_; rintro e w1 ⟨rfl, rfl⟩) | (go_at_call 69; refine (cL _).mono ?_; rintro e w1 ⟨rfl, rfl⟩) | (go_at_call 62; refine (yield62 _ _ Q4.out HU1.out (by have := HL.out; have := HS.out; have := HLT.out; omega)).mono ?_; rintro e w2 ⟨rfl, v2, hU2⟩))
      · exfalso
        have h2 : uhi r = true := by assumption
        have h3 : ((n : Int) == 0) = true ∨ ulo rn = true := by assumption
        have h4 : ulo rn = true := by
          rcases h3 with h | h
          · exact absurd h (by simp; omega)
          · exact h
        have := Q2.out
        rw [h2, h4] at this
        cases this
      all_goals
        have h5 : n ≤ s.size - k := Q6.out
        have h6 := HS.out
        have h8 := HLT.out
        have h7 : wrap64 ((k : Int) + n) = ((k + n : Nat) : Int) := by rw [show wrap64 ((k : Int) + n) = (k : Int) + n by unfold wrap64; omega]; simp
        refine ⟨⟨k + n, rn, xs ++ ptU rn, v2, by omega, rfl, by rw [h7], Q3.out, by have := HL.out; have := Q5.out; simp; omega, ?_, hU2⟩, ?_⟩
        · have hX := HX.out
          rw [Q7.out] at hX
          simpa using hX
        · rw [h7]; simp [intOf]; omega
    · have hge : ¬ ((k : Int) < (s.size : Int)) := by omega
      go_wp2
      go_ret
      refine ⟨rfl, v, HU.out.cast ?_⟩
      have hX := HX.out
      rw [show s.size - k = 0 by omega] at hX
      simpa [uptsF] using hX

theorem units_g (s : ByteArray) (w : World) (hT : Tabs w) (hs : s.size + 2 ≤ 1099511627776) (hV : uvalid s = true) :
    Calls Tryz.prog 19 #[.string s] w fun e w' => ∃ v, e = .returned (.tuple #[v, .int .i64 0]) ∧ Grw w w' ∧ w'.ownsRow w.heap.size 121 1 v (unitsL s).length ((unitsL s).map (Value.int .u16)) := by
  have HT := Lib.hid hT
  have HS := Lib.hid hs
  have HV := Lib.hid hV
  clear hT hs hV
  go_enter Tryz.func19, Tryz.ntmps19
  go_wp2_with (first | ((with_reducible show wpList _ _ _ (⟨_, .alloc 52, _, _, _, _⟩ :: _) _ _); refine wpList_alloc1_g rfl 52 rfl (.slice none 0 0) zero52 ?_; intro w1 hB hG) | (go_at_call 53; refine (walk_u s HT.out (⟨hG, Nat.le_refl _, hB, by exact World.ownsRow_nil _ _ _ _⟩ : Uni w w1 w.heap.size (.slice none 0 0) []) HS.out HV.out).mono ?_; rintro e w2 ⟨rfl, v2, hU2⟩; obtain ⟨ra, n, k, rfl⟩ := hU2.sl; have hc2 := hU2.blk.cell 0; have hc3 : w2.cell? ⟨w.heap.size, 0, none⟩ = some (.slice ra n k) := hc2))
  go_ret2
  refine ⟨_, rfl, hU2.grw, ?_⟩
  have h := hU2.own
  refine ⟨h.1, ?_⟩
  rcases h.2 with h | ⟨g, cap, cur, h1, h2, h3⟩
  · exact .inl h
  · exact .inr ⟨g, cap, cur, h1, by omega, h3⟩

end Go.Proofs.YtoalboilghgalaaGreatDoor
