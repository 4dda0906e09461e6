import Derived.Test.YtkkcacpcicnihaaJoined
import Derived.Deep.LoopGhost
import Derived.Maps.RangeWalk
import Derived.Deep.RegionHeld3
namespace Go.Proofs.Ytkkcacpcicnihaa
open Go.RowKit
open Go.Proofs.Cl

/-- the cells of a shape -/
abbrev sCells (s : Sh) (A : Option Addr) (cap : Nat) : List Value :=
  [.int .i64 s.cls, .int .i64 s.proto.kind, .bool s.proto.bool, .float .f64 s.proto.num, .string s.proto.str, .int .i64 s.proto.id, .bool s.ext, .slice A s.props.length cap]
theorem sCells_one (s : Sh) (A : Option Addr) (cap : Nat) : (sCells s A cap).toArray.all (·.oneCell') = true := all_oneCell_toArray (by
  intro v hv
  simp only [List.mem_cons, List.not_mem_nil, or_false] at hv
  rcases hv with rfl | rfl | rfl | rfl | rfl | rfl | rfl | rfl <;> rfl)

/-- the cells of a descriptor -/
abbrev dCells (d : Ds) : List Value :=
  [.int .i64 d.val.kind, .bool d.val.bool, .float .f64 d.val.num, .string d.val.str, .int .i64 d.val.id,
   .int .i64 d.get.kind, .bool d.get.bool, .float .f64 d.get.num, .string d.get.str, .int .i64 d.get.id,
   .int .i64 d.set.kind, .bool d.set.bool, .float .f64 d.set.num, .string d.set.str, .int .i64 d.set.id, .int .i64 d.w, .int .i64 d.e, .int .i64 d.c]
theorem dCells_one (d : Ds) : (dCells d).toArray.all (·.oneCell') = true := all_oneCell_toArray (by
  intro v hv
  simp only [List.mem_cons, List.not_mem_nil, or_false] at hv
  rcases hv with rfl | rfl | rfl | rfl | rfl | rfl | rfl | rfl | rfl | rfl | rfl | rfl | rfl | rfl | rfl | rfl | rfl | rfl <;> rfl)

theorem rangeAt_drop {w : World} {b off : Nat} {cs : List Value} (h : w.rangeAt b off cs) (k : Nat) : w.rangeAt b (off + k) (cs.drop k) := fun j v hv => by
  have := h (k + j) v (by simpa using hv)
  rwa [← Nat.add_assoc] at this

theorem PropAt.desc {w : World} {b off : Nat} {p : Pr} (h : PropAt w b off p) : w.rangeAt b (off + 2) (dCells p.d) := rangeAt_drop h 2

/-- a shape as it lies at a place -/
def ShAt (w : World) (b off : Nat) (s : Sh) : Prop := ∃ A cap, w.rangeAt b off (sCells s A cap) ∧ PropsAt w A s.props ∧ s.props.length * 192 ≤ 140737488351232

/-- a slice's shapes -/
def ShapesAt (w : World) (A : Option Addr) (l : List Sh) : Prop :=
  ∀ i, (h : i < l.length) → ∃ b off, A = some ⟨b, off, none⟩ ∧ b < w.heap.size ∧ ShAt w b (off + i * 8) l[i]

/-- a slice's values -/
def ValsAt (w : World) (A : Option Addr) (vs : List V) : Prop :=
  ∀ i, (h : i < vs.length) → ∃ b off, A = some ⟨b, off, none⟩ ∧ b < w.heap.size ∧ w.rangeAt b (off + i * 5) (vCells vs[i]).toList

theorem ShapesAt.below {w w' : World} {A : Option Addr} {l : List Sh} (h : ShapesAt w A l) (hb : Below w.heap.size w w') : ShapesAt w' A l := fun i hi => by
  obtain ⟨b, off, hA, hlt, A', cap, hr, hp, hl⟩ := h i hi
  exact ⟨b, off, hA, Nat.lt_of_lt_of_le hlt hb.size, A', cap, rangeAt_below hr hb hlt, hp.below hb, hl⟩
theorem ValsAt.below {w w' : World} {A : Option Addr} {vs : List V} (h : ValsAt w A vs) (hb : Below w.heap.size w w') : ValsAt w' A vs := fun i hi => by
  obtain ⟨b, off, hA, hlt, hr⟩ := h i hi
  exact ⟨b, off, hA, Nat.lt_of_lt_of_le hlt hb.size, rangeAt_below hr hb hlt⟩

/-- a list of objects that is handed back -/
def OutPost (w : World) (n : Nat) (os : List Nat) (e : Ending) (w' : World) : Prop := ∃ A c, e = .returned (.slice A os.length c) ∧ NatsAt w' A os ∧ Cl.Good n os ∧ Below w.heap.size w w'

theorem joined_good (A : Option Addr) (cap : Nat) (os : List Nat) (v : V) (n : Nat) (w : World) (hos : NatsAt w A os) (hg : Cl.Good n os) (hn : n ≤ 200) :
    Calls Try.prog 20 #[.slice A os.length cap, vAgg v, .int .i64 (n : Int)] w (OutPost w n (joinV n os v)) :=
  (joined_any A cap os v n w hos (by have := hg.length_le; omega)).mono fun _ _ ⟨A', c, he, hn', hb⟩ => ⟨A', c, he, hn', hg.joinV v, hb⟩

theorem joinAll_snoc (n : Nat) (out : List Nat) (a b : List V) : joinAll n out (a ++ b) = joinAll n (joinAll n out a) b := by simp [joinAll]

/-- the first loop: the roots -/
theorem roots_succ (n : Nat) (roots : List V) (k : Nat) (hk : k < roots.length) : joinAll n [] (roots.take (k + 1)) = joinV n (joinAll n [] (roots.take k)) roots[k] := by
  rw [List.take_succ_eq_append_getElem hk, joinAll_snoc]; rfl

/-- the loops over the objects: after i rounds, and k properties of the object at hand -/
theorem leads_succ (n : Nat) (out : List Nat) (s : Sh) (k : Nat) (hk : k < s.props.length) :
    joinAll n out (leadsTo s (k + 1)) = joinV n (joinV n (joinV n (joinAll n out (leadsTo s k)) s.props[k].d.val) s.props[k].d.get) s.props[k].d.set := by
  rw [leadsTo_succ s k hk, joinAll_snoc]; rfl
theorem leads_zero (n : Nat) (out : List Nat) (s : Sh) : joinAll n out (leadsTo s 0) = joinV n out s.proto := rfl

theorem after_succ (l : List Sh) (roots : List V) (i : Nat) (h : i < (after l roots i).length) :
    after l roots (i + 1) = joinAll l.length (after l roots i) (leadsOf (shAt l ((after l roots i)[i]))) := by rw [after, dif_pos h]

theorem shAt_get (l : List Sh) (q : Nat) (h : q < l.length) : shAt l (q + 1) = l[q] := by
  unfold shAt
  rw [Nat.add_sub_cancel, List.getD_eq_getElem?_getD, List.getElem?_eq_getElem h]; rfl

/-- the descriptor's values in a block of its own, and nothing older has turned -/
def DescS (wr : World) (d : Ds) (w' : World) : Prop := w'.cell? ⟨wr.heap.size, 0, none⟩ = some (.int .i64 d.val.kind) ∧ w'.cell? ⟨wr.heap.size, 1, none⟩ = some (.bool d.val.bool) ∧ w'.cell? ⟨wr.heap.size, 2, none⟩ = some (.float .f64 d.val.num) ∧ w'.cell? ⟨wr.heap.size, 3, none⟩ = some (.string d.val.str) ∧ w'.cell? ⟨wr.heap.size, 4, none⟩ = some (.int .i64 d.val.id) ∧ w'.cell? ⟨wr.heap.size, 5, none⟩ = some (.int .i64 d.get.kind) ∧ w'.cell? ⟨wr.heap.size, 6, none⟩ = some (.bool d.get.bool) ∧ w'.cell? ⟨wr.heap.size, 7, none⟩ = some (.float .f64 d.get.num) ∧ w'.cell? ⟨wr.heap.size, 8, none⟩ = some (.string d.get.str) ∧ w'.cell? ⟨wr.heap.size, 9, none⟩ = some (.int .i64 d.get.id) ∧ w'.cell? ⟨wr.heap.size, 10, none⟩ = some (.int .i64 d.set.kind) ∧ w'.cell? ⟨wr.heap.size, 11, none⟩ = some (.bool d.set.bool) ∧ w'.cell? ⟨wr.heap.size, 12, none⟩ = some (.float .f64 d.set.num) ∧ w'.cell? ⟨wr.heap.size, 13, none⟩ = some (.string d.set.str) ∧ w'.cell? ⟨wr.heap.size, 14, none⟩ = some (.int .i64 d.set.id) ∧ Below (wr.heap.size + 1) (wr.alloc (.cells (dCells d).toArray 57)) w'
theorem DescS.mk_ {wr w' : World} {d : Ds} (h : Below (wr.heap.size + 1) (wr.alloc (.cells (dCells d).toArray 57)) w') : DescS wr d w' := by
  have hc : ∀ i, w'.cell? ⟨wr.heap.size, i, none⟩ = (dCells d).toArray[i]? := fun i => (h.cell (p := ⟨wr.heap.size, i, none⟩) (by simp)).trans (cell_of_row _ _ _ _ _ _ (heap_alloc_new wr _))
  exact ⟨hc 0, hc 1, hc 2, hc 3, hc 4, hc 5, hc 6, hc 7, hc 8, hc 9, hc 10, hc 11, hc 12, hc 13, hc 14, h⟩
theorem DescS.below_ {wr w' : World} {d : Ds} (h : DescS wr d w') : Below (wr.heap.size + 1) (wr.alloc (.cells (dCells d).toArray 57)) w' := h.2.2.2.2.2.2.2.2.2.2.2.2.2.2.2
theorem DescS.keep {wr w' w'' : World} {d : Ds} (h : DescS wr d w') (hb : Below w'.heap.size w' w'') : DescS wr d w'' :=
  DescS.mk_ (h.below_.trans (hb.mono (by have := h.below_.size; simpa using this)))

set_option maxRecDepth 100000 in
set_option maxHeartbeats 4000000 in
theorem rreach_any (L R : Option Addr) (cl cr : Nat) (l : List Sh) (roots : List V) (w : World) (hL : ShapesAt w L l) (hR : ValsAt w R roots) (hn : l.length ≤ 200) (hr : roots.length ≤ 200) :
    Calls Try.prog 6 #[.slice L l.length cl, .slice R roots.length cr] w (OutPost w l.length (reach l roots)) := by
  have HL := Lib.hid hL
  have HR := Lib.hid hR
  clear hL hR
  go_enter Try.func6, Try.ntmps6
  go_wp2_with fail
  go_loopw [5, 7] (fun v i wr => ∃ (k : Nat) (A : Option Addr) (c : Nat), k ≤ roots.length ∧ i = .int .i64 k ∧ v = .slice A (joinAll l.length [] (roots.take k)).length c ∧ NatsAt wr A (joinAll l.length [] (roots.take k)) ∧ Below w.heap.size w wr)
    (fun _ i _ => roots.length - (intOf i).toNat)
  case atStart => exact ⟨0, none, 0, Nat.zero_le _, rfl, rfl, fun i hi => absurd hi (by simp [joinAll]), Below.refl _ _⟩
  case round =>
    obtain ⟨k, A, c, hk, rfl, rfl, hA, hb⟩ := hrel
    have HA := Lib.hid hA
    have HB := Lib.hid hb
    clear hA hb
    by_cases hlt : k < roots.length
    · have hs := Lib.hid (roots_succ l.length roots k hlt)
      have hg := Lib.hid ((Cl.Good.nil l.length).joinAll (roots.take k))
      obtain ⟨b, off, rfl, hbs, hra⟩ := HR.out k hlt
      have hrb := Lib.hid (rangeAt_below hra HB.out hbs)
      clear hra
      generalize roots[k] = v at *
      go_wp2_with (first
        | ((with_reducible show wpList _ _ _ (⟨some 24, .load _ _, _, _, _, _⟩ :: _) _ _); refine wpList_load_mid rfl 25 (.tmp 23) rfl b (off + k * 5) rfl (vCells v).toList _ hrb.out Try.underlying25 rfl (by kernel_rfl) ?_)
        | (go_at_call 20; refine (joined_good _ _ _ _ _ _ HA.out hg.out hn).mono ?_; rintro e w1 ⟨A', c', rfl, hA', hg', hb'⟩))
      have HA' := Lib.hid hA'
      have HB' := Lib.hid hb'
      clear hA' hb' hg'
      go_roundw
      case rel => exact ⟨k + 1, A', c', by omega, by go_num, by rw [hs.out], by rw [hs.out]; exact HA'.out, HB.out.trans (HB'.out.mono HB.out.size)⟩
      case measure => simp [intOf]; omega
    · have hk' : k = roots.length := by omega
      subst hk'
      have e0 : joinAll l.length [] (roots.take roots.length) = after l roots 0 := by rw [List.take_length]; rfl
      have hA := HA.out
      rw [e0] at hA ⊢
      have HA0 := Lib.hid hA
      clear HA hA e0
      go_wp2_with fail
      go_loopw [5, 8] (fun v i wr => ∃ (k : Nat) (A : Option Addr) (c : Nat), k ≤ l.length ∧ i = .int .i64 k ∧ v = .slice A (after l roots k).length c ∧ NatsAt wr A (after l roots k) ∧ Below w.heap.size w wr)
        (fun _ i _ => l.length - (intOf i).toNat)
      case atStart => exact ⟨0, A, c, Nat.zero_le _, rfl, rfl, HA0.out, HB.out⟩
      case round =>
        clear HA0 HB
        obtain ⟨k, A, c, hk, rfl, rfl, hA, hb⟩ := hrel
        have HA := Lib.hid hA
        have HB := Lib.hid hb
        clear hA hb
        have hle := after_le l roots k
        by_cases hlt : k < (after l roots k).length
        · have hsu := Lib.hid (after_succ l roots k hlt)
          have hg := Lib.hid (after_good l roots k)
          generalize after l roots k = out at *
          obtain ⟨b, off, rfl, hbs, hcell⟩ := HA.out k hlt
          have ho := hg.out.2 out[k] (List.getElem_mem hlt)
          obtain ⟨q, hq⟩ : ∃ q, out[k] = q + 1 := ⟨out[k] - 1, by omega⟩
          rw [List.getD_eq_getElem?_getD, List.getElem?_eq_getElem hlt, Option.getD_some, hq] at hcell
          have hql : q < l.length := by omega
          rw [hq] at hsu
          rw [shAt_get l q hql] at hsu
          obtain ⟨b2, off2, rfl, hbs2, P, cp, hra, hpr, hpl⟩ := HL.out q hql
          have hrb := Lib.hid (rangeAt_below hra HB.out hbs2)
          have HP := Lib.hid (hpr.below HB.out)
          clear hra hpr ho hq
          generalize l[q] = s at *
          obtain ⟨wo, rfl⟩ : ∃ wo : World, wo = wr := ⟨_, rfl⟩
          have hwo := HB.out.size
          go_wp2_with (first
            | ((with_reducible show wpList _ _ _ (⟨some 40, .load _ _, _, _, _, _⟩ :: _) _ _); refine wpList_load_mid rfl 51 (.tmp 39) rfl b2 (off2 + q * 8) rfl (sCells s P cp) _ hrb.out Try.underlying51 rfl (by kernel_rfl) ?_)
            | ((with_reducible show wpList _ _ _ (⟨_, .store 51 _ _, _, _, _, _⟩ :: _) _ _); refine wpList_store_new rfl 51 (.tmp 9) (.tmp 40) rfl (sCells s P cp).toArray _ 51 rfl rfl (by kernel_rfl) rfl (sCells_one s P cp) ?_)
            | (go_at_call 20; refine (joined_good _ _ _ _ _ _ (HA.out.alloc _) hg.out hn).mono ?_; rintro e w1 ⟨A', c', rfl, hA', hg', hb'⟩))
          have HX := Lib.hid hA'
          have HG := Lib.hid hg'
          have HY : Hid (Below (wo.heap.size + 1) (wo.alloc (.cells (sCells s P cp).toArray 51)) w1) := Lib.hid (hb'.mono (by simp))
          clear hA' hb' hg'
          go_loopw [5, 10] (fun v i wr => ∃ (j : Nat) (A : Option Addr) (c : Nat), j ≤ s.props.length ∧ i = .int .i64 j ∧ v = .slice A (joinAll l.length out (leadsTo s j)).length c ∧ NatsAt wr A (joinAll l.length out (leadsTo s j)) ∧ Cl.Good l.length (joinAll l.length out (leadsTo s j)) ∧
              Below (wo.heap.size + 1) (wo.alloc (.cells (sCells s P cp).toArray 51)) wr)
            (fun _ i _ => s.props.length - (intOf i).toNat)
          case atStart => exact ⟨0, A', c', Nat.zero_le _, rfl, rfl, HX.out, HG.out, HY.out⟩
          case round =>
            clear HX HG HY
            obtain ⟨j, A, c, hj, rfl, rfl, hA, hg', hb⟩ := hrel
            have HA' := Lib.hid hA
            have HG' := Lib.hid hg'
            have HY' := Lib.hid hb
            have hcell7 : wr.cell? ⟨wo.heap.size, 7, none⟩ = some (.slice P s.props.length cp) := (hb.cell (p := ⟨wo.heap.size, 7, none⟩) (by simp)).trans (by rw [cell_of_row _ _ _ _ _ _ (heap_alloc_new wo _)]; rfl)
            clear hA hg' hb
            by_cases hlj : j < s.props.length
            · have hsu' := Lib.hid (leads_succ l.length out s j hlj)
              have hpp := HP.out.below ((Below.refl _ _).alloc (Nat.le_refl _) (.cells (sCells s P cp).toArray 51))
              obtain ⟨b3, off3, rfl, hbs3, hpa⟩ := hpp j hlj
              have hpd := Lib.hid (rangeAt_below hpa.desc HY'.out (by simpa using hbs3))
              clear hpa hpp
              generalize s.props[j] = p at *
              go_wp2_with (first
                | ((with_reducible show wpList _ _ _ (⟨some 58, .load _ _, _, _, _, _⟩ :: _) _ _); refine wpList_load_mid rfl 57 (.tmp 57) rfl b3 (off3 + j * 20 + 2) rfl (dCells p.d) _ hpd.out Try.underlying57 rfl (by kernel_rfl) ?_)
                | ((with_reducible show wpList _ _ _ (⟨_, .store 57 _ _, _, _, _, _⟩ :: _) _ _); refine wpList_store_new rfl 57 (.tmp 11) (.tmp 58) rfl (dCells p.d).toArray _ 57 rfl rfl (by kernel_rfl) rfl (dCells_one p.d) ?_; go_frame)
                | fail)
              have D0 := DescS.mk_ (d := p.d) (Below.refl (wr.heap.size + 1) (wr.alloc (.cells (dCells p.d).toArray 57)))
              have D0' := Lib.hid D0
              have N0 := HA'.out.alloc (.cells (dCells p.d).toArray 57)
              have G0 := HG'.out
              obtain ⟨d0, d1, d2, d3, d4, d5, d6, d7, d8, d9, d10, d11, d12, d13, d14, _⟩ := D0
              go_region_held3 (fun w' => w'.cell? ⟨wr.heap.size, 0, none⟩ = some (.int .i64 p.d.val.kind) ∧ w'.cell? ⟨wr.heap.size, 1, none⟩ = some (.bool p.d.val.bool) ∧ w'.cell? ⟨wr.heap.size, 2, none⟩ = some (.float .f64 p.d.val.num) ∧ w'.cell? ⟨wr.heap.size, 3, none⟩ = some (.string p.d.val.str) ∧ w'.cell? ⟨wr.heap.size, 4, none⟩ = some (.int .i64 p.d.val.id) ∧ w'.cell? ⟨wr.heap.size, 5, none⟩ = some (.int .i64 p.d.get.kind) ∧ w'.cell? ⟨wr.heap.size, 6, none⟩ = some (.bool p.d.get.bool) ∧ w'.cell? ⟨wr.heap.size, 7, none⟩ = some (.float .f64 p.d.get.num) ∧ w'.cell? ⟨wr.heap.size, 8, none⟩ = some (.string p.d.get.str) ∧ w'.cell? ⟨wr.heap.size, 9, none⟩ = some (.int .i64 p.d.get.id) ∧ w'.cell? ⟨wr.heap.size, 10, none⟩ = some (.int .i64 p.d.set.kind) ∧ w'.cell? ⟨wr.heap.size, 11, none⟩ = some (.bool p.d.set.bool) ∧ w'.cell? ⟨wr.heap.size, 12, none⟩ = some (.float .f64 p.d.set.num) ∧ w'.cell? ⟨wr.heap.size, 13, none⟩ = some (.string p.d.set.str) ∧ w'.cell? ⟨wr.heap.size, 14, none⟩ = some (.int .i64 p.d.set.id) ∧ Below (wr.heap.size + 1) (wr.alloc (.cells (dCells p.d).toArray 57)) w') (first | exact DescS.mk_ D0'.out.below_.drew | exact DescS.keep (by assumption) (by assumption) | assumption)
                (first | (go_at_call 20; refine (joined_good _ _ _ _ _ _ (by assumption) (by assumption) hn).mono ?_; rintro e w1 ⟨A1, c1, rfl, hA1, hg1, hb1⟩))
              have HX : Hid (NatsAt w1 A1 _) := Lib.hid hA1
              have HG : Hid (Cl.Good l.length _) := Lib.hid hg1
              have HD : DescS wr p.d w1 := by assumption
              have hzz : wo.heap.size + 1 ≤ wr.heap.size := by simpa using HY'.out.size
              have HY := Lib.hid ((HY'.out.alloc hzz (.cells (dCells p.d).toArray 57)).trans (HD.below_.mono (by omega)))
              clear hA1 hg1 HD d0 d1 d2 d3 d4 d5 d6 d7 d8 d9 d10 d11 d12 d13 d14 N0 G0
              go_wp2
              go_roundw
              case rel => exact ⟨j + 1, A1, c1, by omega, by go_num, by rw [hsu'.out], by rw [hsu'.out]; exact HX.out, by rw [hsu'.out]; exact HG.out, HY.out⟩
              case measure => simp [intOf]; omega
            · have hj' : j = s.props.length := by omega
              subst hj'
              rw [leadsTo_all] at HA' HG' ⊢
              rw [← hsu.out] at HA' HG' ⊢
              go_wp2_with fail
              go_roundw
              case rel => exact ⟨k + 1, A, c, by omega, by go_num, rfl, HA'.out, HB.out.trans (((Below.refl wo.heap.size wo).alloc (Nat.le_refl _) _).trans (HY'.out.mono (by omega)) |>.mono hwo)⟩
              case measure => simp [intOf]; omega
        · have hk' : (after l roots k).length ≤ k := by omega
          have hd := after_done l roots k hk' hk
          have hA := HA.out
          have hg := after_good l roots k
          rw [hd] at hA hg hlt ⊢
          have HA1 := Lib.hid hA
          have HG1 := Lib.hid hg
          clear HA hA hg hd hk' hle
          go_wp2
          go_ret
          exact ⟨A, c, rfl, HA1.out, HG1.out, HB.out⟩

end Go.Proofs.Ytkkcacpcicnihaa
