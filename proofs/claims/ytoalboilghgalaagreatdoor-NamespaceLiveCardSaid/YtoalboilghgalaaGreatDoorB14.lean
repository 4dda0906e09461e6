/- Lemmas for this claim, in parts: Tnew, App, Put0. -/
import Derived.Test.YtoalboilghgalaaGreatDoorB13
import Derived.Carry
import Derived.Deep.AppendLies
import Derived.Maps.AppendAt
import Derived.BigRegion
import Derived.Deep.RegionHeld3
import Derived.StillTactics
set_option maxRecDepth 100000
set_option maxHeartbeats 4000000
set_option linter.unusedVariables false
set_option linter.unusedSimpArgs false
/- table.New. -/
namespace Go.Proofs.YtoalboilghgalaaGreatDoor
open Go.RowKit
open Go.Proofs.Dc (V Ds Ky)
attribute [local go_sem] run_store_float

theorem tnew_any (w : World) : Calls Tryz.prog 136 #[] w fun e w' => ∃ tb mb, e = .returned (.pointer (some ⟨tb, 0, none⟩)) ∧ w.heap.size ≤ tb ∧ w.heap.size ≤ mb ∧ TabSt w.heap.size w' tb (.slice none 0 0) mb [] ∧ Below w.heap.size w w' := by
  have hm := fun w => run_makeMap (P := Tryz.prog) 227 w
  go_enter Tryz.func136, Tryz.ntmps136
  go_wp2
  go_ret
  have h1 := Blk.new (w.alloc (.map #[] 0)) (tArr (.slice none 0 0) w.heap.size 0) 229
  rw [World.size_alloc] at h1
  refine ⟨w.heap.size + 1, w.heap.size, rfl, by omega, Nat.le_refl _, ⟨h1, ⟨rfl, .inl ⟨rfl, rfl⟩⟩, ⟨#[], 0, ?_, rfl⟩, by simp⟩, two _ _ _⟩
  exact (Below.heap_alloc _ _ _ (by simp)).trans (heap_alloc_new w _)

end Go.Proofs.YtoalboilghgalaaGreatDoor

/- An append inside a region that draws its order: its value and its world by name. -/
namespace Go.Proofs.YtoalboilghgalaaGreatDoor
open Go.RowKit
open Go.Proofs.Dc (V Ds Ky)
attribute [local go_sem] run_store_float

/-- the append goes through -/
def AppOk (t ty : TypeId) (W : World) (sv xv : Value) : Prop := ∃ r : Value × World, (Builtin.append_ #[t, t] ty #[sv, xv]).run Tryz.prog W = .ok r.1 r.2
open Classical in
/-- .. its value and its world -/
noncomputable def app (t ty : TypeId) (W : World) (sv xv : Value) : Value × World := if h : AppOk t ty W sv xv then Classical.choose h else (.nilIface, W)
noncomputable def appV (t ty : TypeId) (W : World) (sv xv : Value) : Value := (app t ty W sv xv).1
noncomputable def appW (t ty : TypeId) (W : World) (sv xv : Value) : World := (app t ty W sv xv).2
theorem app_run {t ty : TypeId} {W : World} {sv xv : Value} (h : AppOk t ty W sv xv) : (Builtin.append_ #[t, t] ty #[sv, xv]).run Tryz.prog W = .ok (appV t ty W sv xv) (appW t ty W sv xv) := by
  have := Classical.choose_spec h
  unfold appV appW app
  rw [dif_pos h]
  exact this
theorem app_is {t ty : TypeId} {W W' : World} {sv xv v : Value} (h : (Builtin.append_ #[t, t] ty #[sv, xv]).run Tryz.prog W = .ok v W') : AppOk t ty W sv xv ∧ appV t ty W sv xv = v ∧ appW t ty W sv xv = W' := by
  have h0 : AppOk t ty W sv xv := ⟨(v, W'), h⟩
  have h1 := app_run h0
  rw [h] at h1
  simp only [Result.ok.injEq] at h1
  exact ⟨h0, h1.1.symm, h1.2.symm⟩

/-- an append from the values that its slots hold -/
def AppAt (o : Oper) (t : TypeId) (sv xv : Value) (A : Act) (W : World) (K : Act → World → Prop) (Q : Exit → Act → World → Prop) : Prop :=
  Oper.upon Tryz.prog o A K Q (((Builtin.append_ #[t, t] o.type #[sv, xv]).run Tryz.prog W).andThen fun v w' => .ok (Next.value v) w')

theorem app_op {dst : Option Nat} {s x : Operand} {t ty : TypeId} {pos : String} {af : Array Edge} {gd : Option (Nat × Bool)} {A : Act} {W : World} {K : Act → World → Prop} {Q : Exit → Act → World → Prop} :
    Oper.wp Tryz.prog ⟨dst, .call { callee := .builtin .append, args := #[s, x], argTypes := #[t, t] }, ty, pos, af, gd⟩ A W K Q = AppAt ⟨dst, .call { callee := .builtin .append, args := #[s, x], argTypes := #[t, t] }, ty, pos, af, gd⟩ t (A.eval s) (A.eval x) A W K Q := by
  unfold Oper.wp execOp AppAt
  simp only [resolve, invoke, builtin, Sem.run_bind, Sem.run_pure, Result.andThen_ok, List.map_toArray, List.map_cons, List.map_nil]
theorem app_at {o : Oper} {t : TypeId} {sv xv : Value} {A : Act} {W : World} {K : Act → World → Prop} {Q : Exit → Act → World → Prop} (h : AppOk t o.type W sv xv) : AppAt o t sv xv A W K Q = K (A.put o.dst (appV t o.type W sv xv)) (appW t o.type W sv xv) := by
  unfold AppAt
  rw [app_run h]
  rfl

end Go.Proofs.YtoalboilghgalaaGreatDoor

/- table.Put: what it leaves. -/
namespace Go.Proofs.YtoalboilghgalaaGreatDoor
open Go.RowKit
open Go.Proofs.Dc (V Ds Ky)
attribute [local go_sem] run_store_float

attribute [local go_sem ↓] app_op app_at
theorem Tryz.info245 : (Tryz.prog.info? 245).map (fun i => (i.zero, i.size, i.bytes)) = some (some (.agg #[.string ⟨#[]⟩, .int .i64 0, .int .i64 0, .bool false, .float .f64 0, .string ⟨#[]⟩, .int .i64 0, .int .i64 0, .bool false, .float .f64 0, .string ⟨#[]⟩, .int .i64 0, .int .i64 0, .bool false, .float .f64 0, .string ⟨#[]⟩, .int .i64 0, .int .i64 0, .int .i64 0, .int .i64 0, .int .u64 0, .bool false]), 22, 208) := by kernel_rfl

theorem ownsRow_only {W W' : World} {base : Nat} {e : TypeId} {size n : Nat} {v : Value} {xs : List Value} {S : List Nat} (h : W.ownsRow base e size v n xs) (ho : Only S W W') (hS : ∀ g, v.ownBlock = some g → g ∉ S) : W'.ownsRow base e size v n xs := by
  obtain ⟨h1, h2⟩ := h
  refine ⟨h1, ?_⟩
  rcases h2 with h2 | ⟨g, cap, cur, hv, hg, hh, r⟩
  · exact .inl h2
  · exact .inr ⟨g, cap, cur, hv, hg, (ho.block g (Array.getElem?_eq_some_iff.1 hh).1 (hS g (by rw [hv]; rfl))).trans hh, r⟩
theorem ownsRow_ne {W : World} {base : Nat} {e : TypeId} {size n : Nat} {v : Value} {xs : List Value} (h : W.ownsRow base e size v n xs) {b : Nat} {C : Array Value} {t : TypeId} (hb : Blk W b C t) (ht : e ≠ t) : ∀ g, v.ownBlock = some g → g ≠ b := by
  rintro g hg rfl
  obtain ⟨_, h2⟩ := h
  rcases h2 with ⟨rfl, _⟩ | ⟨g', cap, cur, rfl, _, hh, _⟩
  · cases hg
  · obtain rfl : g' = g := by simpa [Value.ownBlock] using hg
    rw [show W.heap[g']? = some (.cells C t (0, 0)) from hb] at hh
    simp only [Option.some.injEq, Obj.cells.injEq] at hh
    exact ht hh.2.1.symm
theorem row_slice {W : World} {base : Nat} {e : TypeId} {size n : Nat} {v : Value} {xs : List Value} (h : W.ownsRow base e size v n xs) : ∃ p cap, v = .slice p n cap := by
  obtain ⟨_, h2⟩ := h
  rcases h2 with ⟨h, hn⟩ | ⟨g, cap, cur, h, _⟩
  · exact ⟨none, 0, by rw [h, hn]⟩
  · exact ⟨_, cap, h⟩
theorem ownsRow_lt {W : World} {base : Nat} {e : TypeId} {size n : Nat} {v : Value} {xs : List Value} (h : W.ownsRow base e size v n xs) : ∀ g, v.ownBlock = some g → g < W.heap.size := by
  intro g hg
  obtain ⟨_, h2⟩ := h
  rcases h2 with ⟨rfl, _⟩ | ⟨g', cap, cur, rfl, _, hh, _⟩
  · cases hg
  · obtain rfl : g' = g := by simpa [Value.ownBlock] using hg
    exact (Array.getElem?_eq_some_iff.1 hh).1
theorem ownsRow_nmap {W : World} {base : Nat} {e : TypeId} {size n : Nat} {v : Value} {xs : List Value} (h : W.ownsRow base e size v n xs) {b : Nat} {K : List Ky} (hb : MapIs W b K) : ∀ g, v.ownBlock = some g → g ≠ b := by
  rintro g hg rfl
  obtain ⟨_, h2⟩ := h
  obtain ⟨es, clock, hb, _⟩ := hb
  rcases h2 with ⟨rfl, _⟩ | ⟨g', cap, cur, rfl, _, hh, _⟩
  · cases hg
  · obtain rfl : g' = g := by simpa [Value.ownBlock] using hg
    rw [hb] at hh; cases hh

theorem MapIs.keep {W W' : World} {b : Nat} {K : List Ky} (h : MapIs W b K) (he : W'.heap[b]? = W.heap[b]?) : MapIs W' b K := by
  obtain ⟨es, clock, h1, h2⟩ := h
  exact ⟨es, clock, he.trans h1, h2⟩
theorem MapIs.lt {W : World} {b : Nat} {K : List Ky} (h : MapIs W b K) : b < W.heap.size := by
  obtain ⟨es, clock, h1, _⟩ := h
  exact (Array.getElem?_eq_some_iff.1 h1).1
theorem MapIs.ne {W : World} {b c : Nat} {K : List Ky} {C : Array Value} {t : TypeId} (h : MapIs W b K) (hb : Blk W c C t) : b ≠ c := by
  rintro rfl
  obtain ⟨es, clock, h1, _⟩ := h
  rw [show W.heap[b]? = some (.cells C t (0, 0)) from hb] at h1
  cases h1

theorem only_grown {W W' : World} {v : Value} (h : W.grownBy W' v.ownBlock) : Only v.ownBlock.toList W W' := ⟨h.os, h.tape, h.output, h.size, fun k hk hn => h.block k hk fun e => hn (by rw [← e]; simp)⟩

/-- behind Put of a new key -/
theorem tput_end (base : Nat) (k : Ky) (d : Ds) (tb mb : Nat) (ev : Value) (L : List (Ky × Ds)) (w w2 W3 W4 W5 W6 : World) (gg cap : Nat) (C5 : Array Value)
    (hB : Blk w tb (tArr ev mb L.length) 229) (hmap : MapIs w mb (L.map (·.1))) (hrow : w.ownsRow base 245 22 ev L.length (eAll L)) (hlen : L.length < 1000000)
    (h2 : Below w.heap.size w w2) (hO3 : Only [tb] w2 W3) (hm4 : MapIs W4 mb (L.map (·.1) ++ [k])) (hO4 : Only [mb] W3.drew W4) (hW5 : W5 = (W4.alloc (.cells C5 245)).drew) (hB6 : Blk W6 tb (tArr ev mb (L.length + 1)) 229)
    (hown6 : W6.ownsRow base 245 22 (.slice (some ⟨gg, 0, none⟩) (L.length + 1) cap) (L.length + 1) (eAll L ++ eCells (k, d) (L.length + 1))) (hgrow : W5.grownBy W6 ev.ownBlock) (hat : ev.ownBlock = some gg ∨ gg = W5.heap.size) :
    TabSt base (W6.setCell ⟨tb, 0, none⟩ (.slice (some ⟨gg, 0, none⟩) (L.length + 1) cap)) tb (.slice (some ⟨gg, 0, none⟩) (L.length + 1) cap) mb (L ++ [(k, d)]) ∧
    Only (tb :: mb :: ev.ownBlock.toList) w (W6.setCell ⟨tb, 0, none⟩ (.slice (some ⟨gg, 0, none⟩) (L.length + 1) cap)) ∧
    ((Value.slice (some ⟨gg, 0, none⟩) (L.length + 1) cap).ownBlock = ev.ownBlock ∨ ∃ g, (Value.slice (some ⟨gg, 0, none⟩) (L.length + 1) cap).ownBlock = some g ∧ w.heap.size ≤ g) := by
  have h7 := only_setCell (o := 0) (v := .slice (some ⟨gg, 0, none⟩) (L.length + 1) cap) hB6
  have hs5 : W5.heap.size = W4.heap.size + 1 := by rw [hW5]; simp
  have h45 : Only [] W4 W5 := by rw [hW5]; exact (Only.of_below (one W4 _)).drew
  have h3d : W3.drew.heap.size = W3.heap.size := rfl
  have hsz := h2.size
  have hsz3 := hO3.size
  have hsz4 := hO4.size
  have hO34 : Only [mb] W3 W4 := ⟨hO4.os, hO4.tape, hO4.output, hO4.size, hO4.block⟩
  have hall : Only (tb :: mb :: ev.ownBlock.toList) w W6 := by
    refine (((((Only.of_below h2).mono (S := []) (by simp)).then hO3 (by simp)).then hO34 (by simp)).then h45 (by simp)).then (only_grown hgrow) (by simp +contextual)
  refine ⟨⟨?_, ?_, ?_, ?_⟩, hall.then h7.2 (by simp), ?_⟩
  · have := h7.1
    rw [show (tArr ev mb (L.length + 1)).setIfInBounds 0 (.slice (some ⟨gg, 0, none⟩) (L.length + 1) cap) = tArr (.slice (some ⟨gg, 0, none⟩) (L.length + 1) cap) mb (L.length + 1) by simp [tArr]] at this
    simpa using this
  · have h := ownsRow_only hown6 h7.2 (by intro g hg; simp; exact ownsRow_ne hown6 hB6 (by decide) g hg)
    rw [show eAll (L ++ [(k, d)]) = eAll L ++ eCells (k, d) (L.length + 1) by unfold eAll; rw [eFrom_append]; simp]
    simpa using h
  · have hne : mb ≠ tb := hmap.ne hB
    have h5 := hm4.keep (h45.block mb hm4.lt (by simp))
    have h6 : MapIs W6 mb (L.map (·.1) ++ [k]) := h5.keep (hgrow.block mb h5.lt (fun e => (ownsRow_nmap hrow hmap mb e.symm) rfl))
    have h7' := h6.keep (h7.2.block mb h6.lt (by simpa using hne))
    simpa using h7'
  · simp; omega
  · rcases hat with hat | hat
    · exact .inl (by rw [hat]; rfl)
    · exact .inr ⟨gg, rfl, by omega⟩


end Go.Proofs.YtoalboilghgalaaGreatDoor
