import Derived.Test.YtkkcacpcicnihaaRal
namespace Go.Proofs.Ytkkcacpcicnihaa
open Go.RowKit Go.Maps
open Go.Proofs.Cl

attribute [local go_sem] store_float

/-- the three lists, from place k on -/
structure LInv (wb : World) (os : List Nat) (g cap g2 bW oW k : Nat) (wr : World) : Prop where
  row : ∃ xs, wr.ownsRow wb.heap.size 3 1 (.slice (some ⟨g, 0, none⟩) os.length cap) os.length xs ∧ ∀ j, k ≤ j → j < os.length → xs[j]? = some (.int .i64 ((os.getD j 0 : Nat) : Int))
  again : ∀ j, k ≤ j → j < os.length → wr.cell? ⟨g2, j, none⟩ = some (.int .i64 ((os.getD j 0 : Nat) : Int))
  want : ∀ j, k ≤ j → j < os.length → wr.cell? ⟨bW, oW + j, none⟩ = some (.int .i64 ((os.getD j 0 : Nat) : Int))
  below : Below wb.heap.size wb wr

theorem cell_set_ne {w : World} {g k b o : Nat} (u : Value) (h : o ≠ k) : (w.setCell ⟨g, k, none⟩ u).cell? ⟨b, o, none⟩ = w.cell? ⟨b, o, none⟩ :=
  by
  refine World.cell?_setCell_other _ _ _ _ fun e => ?_
  injection e with _ e _
  exact h e.symm

theorem LInv.next {wb : World} {os : List Nat} {g cap g2 bW oW k : Nat} {wr : World} (h : LInv wb os g cap g2 bW oW k wr) (hg : wb.heap.size ≤ g) (u : Value) : LInv wb os g cap g2 bW oW (k + 1) (wr.setCell ⟨g, k, none⟩ u) := by
  obtain ⟨xs, hr, hx⟩ := h.row
  refine ⟨⟨xs.set k u, (hr.stored k u).1, fun j hj hlt => ?_⟩, fun j hj hlt => ?_, fun j hj hlt => ?_, h.below.setCell hg u⟩
  · rw [List.getElem?_set_ne (by omega)]
    exact hx j (by omega) hlt
  · rw [cell_set_ne u (by omega)]
    exact h.again j (by omega) hlt
  · rw [cell_set_ne u (by omega)]
    exact h.want j (by omega) hlt

theorem LInv.drewN {wb : World} {os : List Nat} {g cap g2 bW oW k : Nat} {wr : World} (h : LInv wb os g cap g2 bW oW k wr) (n : Nat) : LInv wb os g cap g2 bW oW k (wr.drewN n) :=
  ⟨h.row, h.again, h.want, below_drewN h.below n⟩

theorem own_below {w w' : World} {base e size n : Nat} {v : Value} {xs : List Value} (h : w.ownsRow base e size v n xs) (hb : Below w.heap.size w w') : w'.ownsRow base e size v n xs := by
  refine ⟨h.1, ?_⟩
  rcases h.2 with h' | ⟨g, cap, cur, hv, hg, hh, hr⟩
  · exact .inl h'
  · exact .inr ⟨g, cap, cur, hv, hg, (hb.block g (lt_of_block hh)).trans hh, hr⟩

theorem own_slice {w : World} {base n : Nat} {v : Value} {xs : List Value} (h : w.ownsRow base 3 1 v n xs) : ∃ A c, v = .slice A n c ∧ (0 < n → ∃ g, A = some ⟨g, 0, none⟩ ∧ base ≤ g) := by
  rcases h.2 with ⟨rfl, rfl⟩ | ⟨g, cap, cur, rfl, hg, _⟩
  · exact ⟨none, 0, rfl, fun h => absurd h (by omega)⟩
  · exact ⟨_, _, rfl, fun _ => ⟨g, rfl, hg⟩⟩

/-- what a round of the law's loop finds -/
def LRel (wb : World) (os : List Nat) (A1 : Option Addr) (c1 : Nat) (A2 A : Option Addr) (k : Nat) (wr : World) : Prop :=
  k < os.length → ∃ g g2 bW oW, A1 = some ⟨g, 0, none⟩ ∧ A2 = some ⟨g2, 0, none⟩ ∧ A = some ⟨bW, oW, none⟩ ∧ wb.heap.size ≤ g ∧ LInv wb os g c1 g2 bW oW k wr

theorem natCells_get {os : List Nat} {j : Nat} (h : j < os.length) : (natCells os)[j]? = some (.int .i64 ((os.getD j 0 : Nat) : Int)) := natCells_at h

theorem lrel_start {wb w1 w2 w3 : World} {os : List Nat} {A1 A2 A : Option Addr} {c1 c2 : Nat} (h1 : w1.ownsRow wb.heap.size 3 1 (.slice A1 os.length c1) os.length (natCells os)) (h2 : w2.ownsRow w1.heap.size 3 1 (.slice A2 os.length c2) os.length (natCells os))
    (h3 : NatsAt w3 A os) (b1 : Below wb.heap.size wb w1) (b2 : Below w1.heap.size w1 w2) (b3 : Below w2.heap.size w2 w3)
    (s1 : 0 < os.length → ∃ g, A1 = some ⟨g, 0, none⟩ ∧ wb.heap.size ≤ g) (s2 : 0 < os.length → ∃ g, A2 = some ⟨g, 0, none⟩ ∧ w1.heap.size ≤ g) : LRel wb os A1 c1 A2 A 0 w3 := by
  intro hp
  obtain ⟨g, rfl, hg⟩ := s1 hp
  obtain ⟨g2, rfl, hg2⟩ := s2 hp
  obtain ⟨bW, oW, rfl, _, _⟩ := h3 0 hp
  have h1' := own_below (own_below h1 b2) b3
  have h2' := own_below h2 b3
  refine ⟨g, g2, bW, oW, rfl, rfl, rfl, hg, ⟨_, h1', fun j _ hj => natCells_get hj⟩, fun j _ hj => ?_, fun j _ hj => ?_, (b1.trans (b2.mono b1.size)).trans (b3.mono (Nat.le_trans b1.size b2.size))⟩
  · rw [h2'.cellAt j (by omega)]
    exact natCells_get hj
  · obtain ⟨b, off, e, _, hc⟩ := h3 j hj
    injection e with e
    injection e with e1 e2 _
    subst e1
    subst e2
    exact hc

set_option maxRecDepth 100000 in
set_option maxHeartbeats 4000000 in
theorem law_any (L M R : Option Addr) (cl cm cr : Nat) (l m : List Sh) (a b : V) (roots : List V) (w : World) (hL : ShapesAt w L l) (hM : ShapesAt w M m) (hR : ValsAt w R roots)
    (na : a.num < 2 ^ 64) (nb : b.num < 2 ^ 64) (nl : Words l) (nm : Words m) :
    Calls Try.prog 3 #[.slice L l.length cl, vAgg a, .slice M m.length cm, vAgg b, .slice R roots.length cr] w fun e w' => e = .returned (.bool true) ∧ Below w.heap.size w w' := by
  have T0 := Two.new w a b
  have T0' := Lib.hid T0
  by_cases hl : l.length ≤ 200
  · by_cases hm : m.length ≤ 200
    · by_cases hr : roots.length ≤ 200
      · have i1 : ¬ ((200 : Int) < (l.length : Int)) := by omega
        have i2 : ¬ ((200 : Int) < (m.length : Int)) := by omega
        have i3 : ¬ ((200 : Int) < (roots.length : Int)) := by omega
        have HL := Lib.hid (hL.below T0.below_)
        have HM := Lib.hid (hM.below T0.below_)
        have HR := Lib.hid (hR.below T0.below_)
        have NL := Lib.hid nl
        have NM := Lib.hid nm
        clear hL hM hR nl nm T0
        go_enter Try.func3, Try.ntmps3
        go_upto_region 3 with fail
        generalize (w.alloc (.cells (vCells a) 25)).alloc (.cells (vCells b) 25) = wb at *
        have hg := Lib.hid (reach_good l roots)
        have hol := (reach_good l roots).length_le
        have C1 := Lib.hid (fun wX hX hY => preach_any L R cl cr l roots wX hX hY hl hr)
        have C2 := Lib.hid (fun wX hX hY => rreach_any L R cl cr l roots wX hX hY hl hr)
        generalize reach l roots = os at *
        go_wp2_with fail
        refine (C1.out wb HL.out HR.out).mono ?_
        rintro e w1 ⟨v1, rfl, hown1, _, hb1⟩
        obtain ⟨A1, c1, rfl, hs1⟩ := own_slice hown1
        have O1 := Lib.hid hown1
        have S1 := Lib.hid hs1
        have B1 := Lib.hid hb1
        clear hown1 hs1 hb1
        go_wp2_with fail
        refine (C1.out w1 (HL.out.below B1.out) (HR.out.below B1.out)).mono ?_
        rintro e w2 ⟨v2, rfl, hown2, _, hb2⟩
        obtain ⟨A2, c2, rfl, hs2⟩ := own_slice hown2
        have O2 := Lib.hid hown2
        have S2 := Lib.hid hs2
        have B2 := Lib.hid hb2
        clear hown2 hs2 hb2
        go_wp2_with fail
        refine (C2.out w2 ((HL.out.below B1.out).below B2.out) ((HR.out.below B1.out).below B2.out)).mono ?_
        rintro e w3 ⟨A, c, rfl, hA, _, hb3⟩
        have R0 := Lib.hid (lrel_start O1.out O2.out hA B1.out B2.out hb3 S1.out S2.out)
        have BW := Lib.hid ((B1.out.trans (hb3.mono (by have := B1.out.size; have := B2.out.size; omega) |> fun h => B2.out.mono B1.out.size |>.trans h)))
        clear hA hb3
        go_wp2_with fail
        clear O1 S1 O2 S2 C1 C2 B1 B2 HR
        go_loopw [14] (fun i wr => ∃ k : Nat, k ≤ os.length ∧ i = .int .i64 k ∧ Below wb.heap.size wb wr ∧ LRel wb os A1 c1 A2 A k wr)
          (fun i _ => os.length - (intOf i).toNat)
        case atStart => exact ⟨0, Nat.zero_le _, rfl, BW.out, R0.out⟩
        case round =>
          clear R0 BW
          obtain ⟨k, hk, rfl, hb, hrl⟩ := hrel
          have HB := Lib.hid hb
          clear hb
          by_cases hlt : k < os.length
          · obtain ⟨g, g2, bW, oW, rfl, rfl, rfl, hgg, hi⟩ := hrl hlt
            have HI := Lib.hid hi
            have HG := Lib.hid hgg
            obtain ⟨xs, hrow, hxs⟩ := hi.row
            have f1 := (hrow.cellAt k (by omega)).trans (hxs k (Nat.le_refl _) hlt)
            have f2 := hi.again k (Nat.le_refl _) hlt
            have f3 := hi.want k (Nat.le_refl _) hlt
            have f4 := hrow.frozenAt k
            have hik : (k : Int) < (os.length : Int) := by omega
            clear hi hgg hrl hrow hxs
            generalize os.getD k 0 = x at *
            go_wp2_with fail
            go_quiet (fail)
            go_wp2
            go_roundw
            case rel => exact ⟨k + 1, by omega, by go_num, below_drewN (HB.out.setCell HG.out _) _, fun _ => ⟨g, g2, bW, oW, rfl, rfl, rfl, HG.out, (HI.out.next HG.out _).drewN _⟩⟩
            case measure => simp [intOf]; omega
          · have hke : k = os.length := by omega
            subst hke
            have HBW := Lib.hid (T0'.out.keep (HB.out.mono (Nat.le_refl _)))
            have C7 := Lib.hid (fun z : Later.Later wr => palike_any L M cl cm l m a b z.w ((HL.out.below (HB.out.mono (Nat.le_refl _))).below z.ok) ((HM.out.below (HB.out.mono (Nat.le_refl _))).below z.ok) hl hm)
            have C8 := Lib.hid (fun z : Later.Later wr => ralike_any L M cl cm l m a b z.w ((HL.out.below (HB.out.mono (Nat.le_refl _))).below z.ok) ((HM.out.below (HB.out.mono (Nat.le_refl _))).below z.ok) hl hm na nb NL.out NM.out)
            obtain ⟨x1, x2, x3, x4, x5, y1, y2, y3, y4, y5, _, _⟩ := HBW.out
            generalize alike l a m b = res at *
            have f1 := Later.cell x1
            have f2 := Later.cell x2
            have f3 := Later.cell x3
            have f4 := Later.cell x4
            have f5 := Later.cell x5
            have g1 := Later.cell y1
            have g2 := Later.cell y2
            have g3 := Later.cell y3
            have g4 := Later.cell y4
            have g5 := Later.cell y5
            clear x1 x2 x3 x4 x5 y1 y2 y3 y4 y5 hrl
            go_wp2_with fail
            refine Later.region (by kernel_rfl) (by kernel_rfl) ?_
            repeat (go_big_quiet_step (first | (go_at_call 7; with_reducible exact Later.call (C7.out _)) | (go_at_call 8; with_reducible exact Later.call (C8.out _))))
            refine wpQuiet_nil ?_
            rintro w7 ⟨⟨_, hb7⟩, rfl⟩
            have HB7 := Lib.hid (HBW.out.below_.trans (hb7.mono HBW.out.below_.size))
            clear hb7 f1 f2 f3 f4 f5 g1 g2 g3 g4 g5
            go_wp2
            go_ret
            exact ⟨ret_b (by simp), HB7.out⟩
      · have i1 : ¬ ((200 : Int) < (l.length : Int)) := by omega
        have i2 : ¬ ((200 : Int) < (m.length : Int)) := by omega
        have i3 : (200 : Int) < (roots.length : Int) := by omega
        clear hL hM hR nl nm T0
        go_enter Try.func3, Try.ntmps3
        go_wp2
        go_ret
        exact ⟨rfl, T0'.out.below_⟩
    · have i1 : ¬ ((200 : Int) < (l.length : Int)) := by omega
      have i2 : (200 : Int) < (m.length : Int) := by omega
      clear hL hM hR nl nm T0
      go_enter Try.func3, Try.ntmps3
      go_wp2
      go_ret
      exact ⟨rfl, T0'.out.below_⟩
  · have i1 : (200 : Int) < (l.length : Int) := by omega
    clear hL hM hR nl nm T0
    go_enter Try.func3, Try.ntmps3
    go_wp2
    go_ret
    exact ⟨rfl, T0'.out.below_⟩

end Go.Proofs.Ytkkcacpcicnihaa
