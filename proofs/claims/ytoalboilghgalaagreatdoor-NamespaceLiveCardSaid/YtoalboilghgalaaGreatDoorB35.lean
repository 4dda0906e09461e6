/- Lemmas for this claim, in parts: Nskeys. -/
import Derived.Test.YtoalboilghgalaaGreatDoorB27
import Derived.Test.YtoalboilghgalaaGreatDoorB34
set_option maxRecDepth 100000
set_option maxHeartbeats 4000000
set_option linter.unusedVariables false
set_option linter.unusedSimpArgs false
/- A namespace's keys: OwnPropertyKeys. -/
namespace Go.Proofs.YtoalboilghgalaaGreatDoor
open Go.RowKit
open Go.Proofs.Dc (V Ds Ky)
attribute [local go_sem] run_store_float

attribute [local go_sem] Oper.semAt_some
theorem bs55 (k : Ky) (w : World) : (Instr.buildSlice 55 1 #[(0, .agg #[.string k.str, .int .i64 k.sym])]).run Tryz.prog w = .ok (.slice (some ⟨w.heap.size, 0, none⟩) 1 1) (w.alloc (.cells #[.string k.str, .int .i64 k.sym] 40)) := by kernel_rfl
theorem ownsBase {W : World} {base e sz n : Nat} {v : Value} {xs : List Value} (h : W.ownsRow base e sz v n xs) : ∀ k, v.ownBlock = some k → base ≤ k := fun k hk => by
  rcases h.2 with ⟨h, _⟩ | ⟨g, c, cur, h, hg, _⟩
  · rw [h] at hk; cases hk
  · rw [h] at hk; simp only [Value.ownBlock, Option.some.injEq] at hk; omega
/-- an append of a key -/
theorem wpList_appK {ops : Array Oper} {rest : List Oper} {o : Oper} {a : Act} {W : World} {Q : Exit → Act → World → Prop} (hgd : o.guard = none) (s x : Operand) (ho : o.op = .call { callee := .builtin .append, args := #[s, x], argTypes := #[55, 55] })
    {base : Nat} {v : Value} {K : List Ky} {n : Nat} (hO : W.ownsRow base 40 2 v n (kAll K)) (hs : a.eval s = v) (ad : Nat) (k : Ky) (hx : a.eval x = .slice (some ⟨ad, 0, none⟩) 1 1) (hN : Blk W ad #[.string k.str, .int .i64 k.sym] 40) (hsz : n + 1 ≤ 1099511627776) (hb : base ≤ W.heap.size)
    (h : ∀ v' W', W'.ownsRow base 40 2 v' (n + 1) (kAll (K ++ [k])) → W.grownBy W' v.ownBlock → (v'.ownBlock = v.ownBlock ∨ v'.ownBlock = some W.heap.size) → wpList Tryz.prog ops Q rest (a.put o.dst v') W') : wpList Tryz.prog ops Q (o :: rest) a W := by
  obtain ⟨i0, hi0, hz0, hz1, hz2⟩ := info_parts Tryz.info40
  refine wpList_append_own_at _ hgd s x 55 ho base 40 i0 _ 2 24 Tryz.underlying55 hi0 hz0 hz1 hz2 rfl (by decide) v n (kAll K) hs hO ⟨ad, 0, none⟩ 1 1 [.string k.str, .int .i64 k.sym] hx rfl ?_ (by simp [Value.oneCell']) (by unfold maxLen; omega) (by omega) (by omega) ?_
  · intro j u hu
    rw [show (⟨ad, 0, none⟩ : Addr).add j = ⟨ad, j, none⟩ by unfold Addr.add; split <;> simp_all, hN.cell]
    simpa using hu
  · intro v' w' h2 hgr _ h4
    refine h v' w' ?_ hgr h4
    rw [kAll_app]
    exact h2
theorem KeysAt.next {W W' : World} {b : Nat} {v : Value} {l : List Ky} (h : KeysAt W b v l) (hb : Below W.heap.size W W') : KeysAt W' b v l := by
  rcases h with h | ⟨g, c, r, h1, h2, h3⟩
  · exact .inl h
  · exact .inr ⟨g, c, r, h1, h2, h3.next hb⟩
/-- two rows are not one block -/
def OffB (v v2 : Value) : Prop := ∀ g, v.ownBlock = some g → v2.ownBlock ≠ some g
theorem KeysAt.grown {W W' : World} {b : Nat} {v v2 : Value} {l : List Ky} (h : KeysAt W b v2 l) (hg : W.grownBy W' v.ownBlock) (ho : OffB v v2) : KeysAt W' b v2 l := by
  rcases h with h | ⟨g, c, r, rfl, h2, h3⟩
  · exact .inl h
  · exact .inr ⟨g, c, r, rfl, h2, (hg.block g h3.lt (fun e => ho g e.symm rfl)).trans h3⟩
theorem KeysAt.lt {W : World} {b : Nat} {v : Value} {l : List Ky} (h : KeysAt W b v l) : ∀ g, v.ownBlock = some g → b ≤ g ∧ g < W.heap.size := fun g hg => by
  rcases h with ⟨_, rfl⟩ | ⟨g', c, r, rfl, h2, h3⟩
  · cases hg
  · simp only [Value.ownBlock, Option.some.injEq] at hg; subst hg; exact ⟨h2, h3.lt⟩
theorem KeysAt.form {W : World} {b : Nat} {v : Value} {l : List Ky} (h : KeysAt W b v l) : ∃ A c, v = .slice A l.length c ∧ ∀ W' i k, l[i]? = some k → KeysAt W' b v l → ∃ g, A = some ⟨g, 0, none⟩ ∧ W'.rangeAt g (i * 2) [.string k.str, .int .i64 k.sym] := by
  rcases h with ⟨rfl, rfl⟩ | ⟨g, c, r, rfl, h2, h3⟩
  · exact ⟨_, _, rfl, fun W' i k hk => by simp at hk⟩
  · refine ⟨_, _, rfl, fun W' i k hk h' => ⟨g, rfl, ?_⟩⟩
    rcases h' with ⟨rfl, _⟩ | ⟨g', c', r', e, _, h4⟩
    · simp at hk
    · simp only [Value.slice.injEq, Option.some.injEq, Addr.mk.injEq] at e
      obtain rfl := e.1.1
      exact kRow_range h4 i k hk
theorem keysAt_of {W : World} {base n : Nat} {v : Value} {K : List Ky} (h : W.ownsRow base 40 2 v n (kAll K)) (hn : K.length = n) (h0 : n = 0 → v = .slice none 0 0) : KeysAt W 0 v K := by
  subst hn
  by_cases hz : K.length = 0
  · exact .inl ⟨List.eq_nil_of_length_eq_zero hz, h0 hz⟩
  · obtain ⟨g, cp, rfl, hg, _⟩ := World.ownsRow.form h (by omega)
    obtain ⟨r, hB⟩ := (RowAt.of h).krow
    exact .inr ⟨g, cp, r, rfl, Nat.zero_le _, hB⟩
/-- a namespace's keys -/
def xKey (x : Ex) : Ky := ⟨x.name, 0⟩
/-- symbols alone -/
def symsOf (K : List Ky) : List Ky := K.filter (fun k => k.sym != 0)
def nsKeys (l : List Ex) (L : List (Ky × Ds)) : List Ky := l.map xKey ++ symsOf (sortK L)
theorem symsOf_take {K : List Ky} {q : Nat} {k : Ky} (h : K[q]? = some k) : symsOf (K.take (q + 1)) = if k.sym = 0 then symsOf (K.take q) else symsOf (K.take q) ++ [k] := by
  unfold symsOf
  rw [List.take_add_one, h, List.filter_append]
  by_cases hk : k.sym = 0
  · simp [hk]
  · simp [hk]
theorem zero162 (w : World) : (zeroValue 162).run Tryz.prog w = .ok (.agg #[.string ⟨#[]⟩, .int .i64 0, .bool false, .float .f64 0, .string ⟨#[]⟩, .int .i64 0]) w := by kernel_rfl
theorem xC_one (x : Ex) : (xC x).toArray.all (·.oneCell') = true := by simp [xC, Value.oneCell']
theorem zero40' (w : World) : (zeroValue 40).run Tryz.prog w = .ok (.agg #[.string ⟨#[]⟩, .int .i64 0]) w := by kernel_rfl
theorem nkeys_any {n0 : Nat} {w : World} {hb : Nat} {ov : Value} {ob : Nat} {tp : Option Addr} {cap fuel deep : Int} {xb : Nat} {ext : Bool} {L : List (Ky × Ds)} (s : StX n0 w hb ov ob tp cap fuel deep (kN xb) ext L) {g xc : Nat} {a : Option Addr} {l : List Ex} (hX : XAt w xb g xc a l) (hg : LGood L) (hlen : L.length ≤ 1000000) : Calls Tryz.prog 285 #[.pointer (some ⟨xb, 0, none⟩), .pointer (some ⟨hb, 0, none⟩), .int .i64 1] w fun e w' => ∃ v, e = .returned (.tuple #[v, .nilIface]) ∧ KeysAt w' 0 v (nsKeys l L) ∧ Below w.heap.size w w' := by
  have hc := hX.blk.cell 0
  have hsm := hX.small
  obtain ⟨n, hn⟩ : ∃ n, l.length = n := ⟨_, rfl⟩
  rw [hn] at hc hsm
  have HN := Lib.hid hn
  have HX := Lib.hid hX
  have HS := Lib.hid s
  have HG := Lib.hid hg
  have HSL := Lib.hid (show (sortK L).length ≤ 1000000 by unfold sortK; rw [(Srt.stable_perm _).length_eq, List.length_map]; exact hlen)
  clear hn hX s hg hlen
  go_enter Tryz.func285, Tryz.ntmps285
  go_wp2
  go_loopg [8, 18] n (fun fu s8 s18 wr => ∃ (i : Nat) (v : Value), v = s8 ∧ s18 = .int .i64 i ∧ i + fu = n ∧ wr.ownsRow w.heap.size 40 2 v i (kAll ((l.take i).map xKey)) ∧ Below w.heap.size w wr ∧ (i = 0 → v = .slice none 0 0))
  case atStart => exact ⟨0, _, rfl, rfl, by omega, ⟨rfl, .inl ⟨rfl, rfl⟩⟩, Below.refl _ _, fun _ => rfl⟩
  case round =>
    obtain ⟨i, v, rfl, rfl, hi, hown, hbW, hv0⟩ := hrel
    have hsW := hbW.size
    by_cases hlt : i < n
    · obtain ⟨x, hx⟩ : ∃ x, l[i]? = some x := ⟨_, List.getElem?_eq_getElem (by rw [HN.out]; exact hlt)⟩
      obtain rfl := HX.out.row.sl hx
      have HRG := Lib.hid (show wr.rangeAt g (i * 6) [.string x.name, .int .i64 x.val.kind, .bool x.val.bool, .float .f64 x.val.num, .string x.val.str, .int .i64 x.val.id] from fun j u hu => xload (HX.out.next hbW) hx j u hu)
      have HXX := Lib.hid hx
      have HO := Lib.hid hown
      obtain ⟨fu, rfl⟩ : ∃ fu, gk = fu + 1 := ⟨gk - 1, by omega⟩
      obtain ⟨i2, hi2⟩ : ∃ i2, i + 1 = i2 := ⟨_, rfl⟩
      have e1 : (i : Int) + 1 = (i2 : Int) := by omega
      have e2 := wrap_nat i2 (by omega)
      have e3 : (0 : Int) ≤ (i : Int) := by omega
      have e4 : (i : Int) < (n : Int) := by omega
      have hi3 : i2 + fu = n := by omega
      have HI3 := Lib.hid (And.intro hi3 hi2)
      clear hx hown hi2 hi3 hi
      go_wp2_with (first | ((with_reducible show wpList _ _ _ (⟨_, .load 162 _, _, _, _, _⟩ :: _) _ _); refine wpList_load_mid rfl 162 _ rfl g (i * 6) rfl [.string x.name, .int .i64 x.val.kind, .bool x.val.bool, .float .f64 x.val.num, .string x.val.str, .int .i64 x.val.id] _ HRG.out Tryz.underlying162 rfl Tryz.size162 ?_) | ((with_reducible show wpList _ _ _ (⟨_, .alloc 162, _, _, _, _⟩ :: _) _ _); refine wpList_alloc_blk rfl 162 rfl _ zero162 ?_; intro wa hA hLa hsa) | ((with_reducible show wpList _ _ _ (⟨_, .store 162 _ _, _, _, _, _⟩ :: _) _ _); refine wpList_store_blk rfl 162 _ _ rfl _ #[.string x.name, .int .i64 x.val.kind, .bool x.val.bool, .float .f64 x.val.num, .string x.val.str, .int .i64 x.val.id] _ 162 rfl rfl hA Tryz.size162 rfl (xC_one x) ?_; intro wb hA2 hOb; have hAB := hLa.trans (hOb.below _ hLa.size (by simp)); have hn2 := hA2.cell 0) | ((with_reducible show wpList _ _ _ (⟨_, .buildSlice 55 _ _, _, _, _, _⟩ :: _) _ _); refine wpList_bs_g rfl 55 40 _ _ rfl #[.string (xKey x).str, .int .i64 (xKey x).sym] (fun w => bs55 (xKey x) w) ?_; intro wc hN hG; have hWC := hAB.trans (hG.below.mono hAB.size); have hszc := hWC.size) | ((with_reducible show wpList _ _ _ (⟨some 27, .call _, _, _, _, _⟩ :: _) _ _); refine wpList_appK rfl _ _ rfl (base := w.heap.size) (K := (l.take i).map xKey) (ownsRow_only HO.out (Only.of_below (S := []) hWC) (by simp)) rfl _ (xKey x) rfl hN (by omega) (by omega) ?_; intro v' wd hown2 hgr hob; have hfin := (hbW.trans (hWC.mono hbW.size)).grown hgr (by omega) (ownsBase HO.out); have HOWN := Lib.hid hown2; clear hown2))
      go_roundg fu
      case measure => omega
      case rel =>
        have e := HI3.out.2
        subst e
        refine ⟨i + 1, _, rfl, by go_num, HI3.out.1, ?_, hfin, fun h => by omega⟩
        rw [List.take_add_one, HXX.out, List.map_append]
        exact HOWN.out
    · obtain rfl : i = n := by omega
      have hlti : ¬ (i : Int) < (i : Int) := by omega
      have htk : l.take i = l := by rw [← HN.out]; exact List.take_length
      rw [htk] at hown
      have HO := Lib.hid hown
      have HV0 := Lib.hid hv0
      clear hown htk hv0
      go_wp2_with (go_at_call 228; refine (hkeys_any (HS.out.below hbW) HG.out).mono ?_; rintro e w2 ⟨v2, rfl, hk2, hb2⟩; have hkw := hk2.weak (Nat.zero_le _); obtain ⟨A2, c2, hv2, hA2⟩ := hkw.form; subst hv2)
      have hb02 := hbW.trans (hb2.mono hbW.size)
      have hoff : OffB v (.slice A2 (sortK L).length c2) := fun k h1 h2 => by
        have h3 := HO.out.lt k h1
        have h4 := hk2.lt k h2
        omega
      replace hk2 := hkw
      clear hkw
      obtain ⟨K, hK⟩ : ∃ K, sortK L = K := ⟨_, rfl⟩
      rw [hK] at HSL hA2 hk2 hoff ⊢
      have HKE := Lib.hid hK
      obtain ⟨m, hm⟩ : ∃ m, K.length = m := ⟨_, rfl⟩
      rw [hm] at HSL hA2 hk2 hoff ⊢
      have HM := Lib.hid hm
      have HA2 := Lib.hid hA2
      have HO2 := Lib.hid (ownsRow_only HO.out (Only.of_below (S := []) hb2) (by simp))
      have HKK := Lib.hid (And.intro hk2 hoff)
      clear hK hm hk2 hA2 hb2 hoff
      go_loopg [8, 33] m (fun fu s8 s33 wr => ∃ (q p : Nat) (v : Value), v = s8 ∧ s33 = .int .i64 q ∧ q + fu = m ∧ (l.map xKey ++ symsOf (K.take q)).length = p ∧ p ≤ i + q ∧ wr.ownsRow w.heap.size 40 2 v p (kAll (l.map xKey ++ symsOf (K.take q))) ∧ Below w.heap.size w wr ∧ (p = 0 → v = .slice none 0 0) ∧ KeysAt wr 0 (.slice A2 m c2) K ∧ OffB v (.slice A2 m c2))
      case atStart =>
        refine ⟨0, i, _, rfl, rfl, by omega, ?_, by omega, ?_, hb02, HV0.out, HKK.out.1, HKK.out.2⟩
        · simp [symsOf, HN.out]
        · simpa [symsOf] using HO2.out
      case round =>
        obtain ⟨q, p, v3, rfl, rfl, hq, hp, hpq, hown, hbX, hv0, hkk, hoff⟩ := hrel
        clear hbW hsW
        have hbW := hbX
        have hsW := hbW.size
        by_cases hlt2 : q < m
        · obtain ⟨k, hk⟩ : ∃ k, K[q]? = some k := ⟨_, List.getElem?_eq_getElem (by rw [HM.out]; exact hlt2)⟩
          obtain ⟨g2, rfl, hr2⟩ := HA2.out wr q k hk hkk
          have HRG := Lib.hid hr2
          have HTK := Lib.hid (symsOf_take hk)
          have HO := Lib.hid hown
          have HSL2 := HSL.out
          obtain ⟨fu, rfl⟩ : ∃ fu, gk = fu + 1 := ⟨gk - 1, by omega⟩
          obtain ⟨q2, hq2⟩ : ∃ q2, q + 1 = q2 := ⟨_, rfl⟩
          have e1 : (q : Int) + 1 = (q2 : Int) := by omega
          have e2 := wrap_nat q2 (by omega)
          have e3 : (0 : Int) ≤ (q : Int) := by omega
          have e4 : (q : Int) < (m : Int) := by omega
          have hipl : p + 1 ≤ 1099511627776 := by omega
          have HI3 := Lib.hid (show q2 + fu = m ∧ q + 1 = q2 ∧ p ≤ i + q ∧ (l.map xKey ++ symsOf (K.take q)).length = p from ⟨by omega, hq2, hpq, hp⟩)
          have HV3 := Lib.hid hv0
          have HKK := Lib.hid (And.intro hkk hoff)
          clear hr2 hk hown hq2 hq hp hpq HSL2 hv0 hkk hoff hbX
          by_cases hsy : k.sym = 0
          · rw [if_pos hsy] at HTK
            go_wp2_with (first | ((with_reducible show wpList _ _ _ (⟨_, .load 40 (.tmp 35), _, _, _, _⟩ :: _) _ _); refine wpList_load_mid rfl 40 _ rfl g2 (q * 2) rfl [.string k.str, .int .i64 k.sym] _ HRG.out Tryz.underlying40 rfl Tryz.size40 ?_) | ((with_reducible show wpList _ _ _ (⟨_, .alloc 40, _, _, _, _⟩ :: _) _ _); refine wpList_alloc_blk rfl 40 rfl _ zero40' ?_; intro wa hA hLa hsa) | ((with_reducible show wpList _ _ _ (⟨_, .store 40 _ _, _, _, _, _⟩ :: _) _ _); refine wpList_store_blk rfl 40 _ _ rfl _ (kArr k) _ 40 rfl rfl hA Tryz.size40 rfl (kArr_one k) ?_; intro wb hA2 hOb; have hAB := hLa.trans (hOb.below _ hLa.size (by simp)); have hkc := hA2.cellK))
            go_roundg fu
            case measure => omega
            case rel =>
              obtain ⟨h1, rfl, h3, h4⟩ := HI3.out
              refine ⟨q + 1, p, _, rfl, by go_num, h1, by rw [HTK.out]; exact h4, by omega, ?_, hbW.trans (hAB.mono hbW.size), HV3.out, HKK.out.1.next hAB, HKK.out.2⟩
              rw [HTK.out]
              exact ownsRow_only HO.out (Only.of_below (S := []) hAB) (by simp)
          · have hne : (k.sym != 0) = true := by simp [hsy]
            have hne2 : (k.sym == 0) = false := by simp [hsy]
            rw [if_neg hsy] at HTK
            go_wp2_with (first | ((with_reducible show wpList _ _ _ (⟨_, .load 40 (.tmp 35), _, _, _, _⟩ :: _) _ _); refine wpList_load_mid rfl 40 _ rfl g2 (q * 2) rfl [.string k.str, .int .i64 k.sym] _ HRG.out Tryz.underlying40 rfl Tryz.size40 ?_) | ((with_reducible show wpList _ _ _ (⟨_, .alloc 40, _, _, _, _⟩ :: _) _ _); refine wpList_alloc_blk rfl 40 rfl _ zero40' ?_; intro wa hA hLa hsa) | ((with_reducible show wpList _ _ _ (⟨_, .store 40 _ _, _, _, _, _⟩ :: _) _ _); refine wpList_store_blk rfl 40 _ _ rfl _ (kArr k) _ 40 rfl rfl hA Tryz.size40 rfl (kArr_one k) ?_; intro wb hA2 hOb; have hAB := hLa.trans (hOb.below _ hLa.size (by simp)); have hkc := hA2.cellK) | ((with_reducible show wpList _ _ _ (⟨_, .load 40 (.tmp 12), _, _, _, _⟩ :: _) _ _); refine wpList_load_blk rfl 40 _ rfl _ rfl hA2 Tryz.row40 Tryz.size40 ?_) | ((with_reducible show wpList _ _ _ (⟨_, .buildSlice 55 _ _, _, _, _, _⟩ :: _) _ _); refine wpList_bs_g rfl 55 40 _ _ rfl #[.string k.str, .int .i64 k.sym] (fun w => bs55 k w) ?_; intro wc hN hG; have hWC := hAB.trans (hG.below.mono hAB.size); have hszc := hWC.size) | ((with_reducible show wpList _ _ _ (⟨some 43, .call _, _, _, _, _⟩ :: _) _ _); refine wpList_appK rfl _ _ rfl (base := w.heap.size) (K := l.map xKey ++ symsOf (K.take q)) (ownsRow_only HO.out (Only.of_below (S := []) hWC) (by simp)) rfl _ k rfl hN (by omega) (by omega) ?_; intro v' wd hown2 hgr hob; have hfin := (hbW.trans (hWC.mono hbW.size)).grown hgr (by omega) (ownsBase HO.out); have HOWN := Lib.hid hown2; clear hown2))
            go_roundg fu
            case measure => omega
            case rel =>
              obtain ⟨h1, rfl, h3, h4⟩ := HI3.out
              have hkc9 := HKK.out.1.next hWC
              refine ⟨q + 1, p + 1, _, rfl, by go_num, h1, by rw [HTK.out, ← List.append_assoc, List.length_append, h4]; rfl, by omega, ?_, hfin, fun h => by omega, hkc9.grown hgr HKK.out.2, ?_⟩
              · rw [HTK.out, ← List.append_assoc]
                exact HOWN.out
              · intro k9 h8 h9
                rcases hob with h7 | h7
                · rw [h7] at h8; exact HKK.out.2 k9 h8 h9
                · have := (hkc9.lt k9 h9).2
                  rw [h8] at h7
                  simp only [Option.some.injEq] at h7
                  omega
        · obtain rfl : q = m := by omega
          have hlti : ¬ (q : Int) < (q : Int) := by omega
          have htk : K.take q = K := by rw [← HM.out]; exact List.take_length
          rw [htk] at hown hp
          have HOZ := Lib.hid hown
          have HVZ := Lib.hid hv0
          have HPZ := Lib.hid hp
          clear hown htk hv0 hp
          go_wp2
          go_ret2
          refine ⟨v3, rfl, ?_, hbX⟩
          unfold nsKeys
          rw [HKE.out]
          exact keysAt_of HOZ.out HPZ.out HVZ.out

end Go.Proofs.YtoalboilghgalaaGreatDoor
