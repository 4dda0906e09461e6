/- Lemmas for this claim, in parts: Tnew, App, Put0, State, Heap1. -/
import Derived.Test.YtoalboilghgalaaGreatDoorC15
import Derived.Carry
import Derived.Deep.AppendLies
import Derived.Maps.AppendAt
import Derived.BigRegion
import Derived.Deep.RegionHeld3
import Derived.StillTactics
set_option maxRecDepth 100000
set_option maxHeartbeats 4000000
set_option linter.unusedVariables false
set_option linter.unusedSimpArgs false
/- table.New. -/
namespace Go.Proofs.YtoalboilghgalaaGreatDoor
open Go.RowKit
open Go.Proofs.Dc (V Ds Ky)
attribute [local go_sem] run_store_float

theorem tnew_any (w : World) : Calls Tryz.prog 136 #[] w fun e w' => ∃ tb mb, e = .returned (.pointer (some ⟨tb, 0, none⟩)) ∧ w.heap.size ≤ tb ∧ w.heap.size ≤ mb ∧ TabG w.heap.size w' tb (.slice none 0 0) mb [] [] 0 ∧ Below w.heap.size w w' := by
  have hm := fun w => run_makeMap (P := Tryz.prog) 227 w
  go_enter Tryz.func136, Tryz.ntmps136
  go_wp2
  go_ret
  have h1 := Blk.new (w.alloc (.map #[] 0)) (tArr (.slice none 0 0) w.heap.size 0) 229
  rw [World.size_alloc] at h1
  refine ⟨w.heap.size + 1, w.heap.size, rfl, by omega, Nat.le_refl _, ⟨h1, ⟨rfl, .inl ⟨rfl, rfl⟩⟩, ⟨#[], 0, ?_, rfl⟩, GOk.nil⟩, two _ _ _⟩
  exact (Below.heap_alloc _ _ _ (by simp)).trans (heap_alloc_new w _)

end Go.Proofs.YtoalboilghgalaaGreatDoor

/- An append inside a region that draws its order: its value and its world by name. -/
namespace Go.Proofs.YtoalboilghgalaaGreatDoor
open Go.RowKit
open Go.Proofs.Dc (V Ds Ky)
attribute [local go_sem] run_store_float

/-- the append goes through -/
def AppOk (t ty : TypeId) (W : World) (sv xv : Value) : Prop := ∃ r : Value × World, (Builtin.append_ #[t, t] ty #[sv, xv]).run Tryz.prog W = .ok r.1 r.2
open Classical in
/-- .. its value and its world -/
noncomputable def app (t ty : TypeId) (W : World) (sv xv : Value) : Value × World := if h : AppOk t ty W sv xv then Classical.choose h else (.nilIface, W)
noncomputable def appV (t ty : TypeId) (W : World) (sv xv : Value) : Value := (app t ty W sv xv).1
noncomputable def appW (t ty : TypeId) (W : World) (sv xv : Value) : World := (app t ty W sv xv).2
theorem app_run {t ty : TypeId} {W : World} {sv xv : Value} (h : AppOk t ty W sv xv) : (Builtin.append_ #[t, t] ty #[sv, xv]).run Tryz.prog W = .ok (appV t ty W sv xv) (appW t ty W sv xv) := by
  have := Classical.choose_spec h
  unfold appV appW app
  rw [dif_pos h]
  exact this
theorem app_is {t ty : TypeId} {W W' : World} {sv xv v : Value} (h : (Builtin.append_ #[t, t] ty #[sv, xv]).run Tryz.prog W = .ok v W') : AppOk t ty W sv xv ∧ appV t ty W sv xv = v ∧ appW t ty W sv xv = W' := by
  have h0 : AppOk t ty W sv xv := ⟨(v, W'), h⟩
  have h1 := app_run h0
  rw [h] at h1
  simp only [Result.ok.injEq] at h1
  exact ⟨h0, h1.1.symm, h1.2.symm⟩

/-- an append from the values that its slots hold -/
def AppAt (o : Oper) (t : TypeId) (sv xv : Value) (A : Act) (W : World) (K : Act → World → Prop) (Q : Exit → Act → World → Prop) : Prop :=
  Oper.upon Tryz.prog o A K Q (((Builtin.append_ #[t, t] o.type #[sv, xv]).run Tryz.prog W).andThen fun v w' => .ok (Next.value v) w')

theorem app_op {dst : Option Nat} {s x : Operand} {t ty : TypeId} {pos : String} {af : Array Edge} {gd : Option (Nat × Bool)} {A : Act} {W : World} {K : Act → World → Prop} {Q : Exit → Act → World → Prop} :
    Oper.wp Tryz.prog ⟨dst, .call { callee := .builtin .append, args := #[s, x], argTypes := #[t, t] }, ty, pos, af, gd⟩ A W K Q = AppAt ⟨dst, .call { callee := .builtin .append, args := #[s, x], argTypes := #[t, t] }, ty, pos, af, gd⟩ t (A.eval s) (A.eval x) A W K Q := by
  unfold Oper.wp execOp AppAt
  simp only [resolve, invoke, builtin, Sem.run_bind, Sem.run_pure, Result.andThen_ok, List.map_toArray, List.map_cons, List.map_nil]
theorem app_at {o : Oper} {t : TypeId} {sv xv : Value} {A : Act} {W : World} {K : Act → World → Prop} {Q : Exit → Act → World → Prop} (h : AppOk t o.type W sv xv) : AppAt o t sv xv A W K Q = K (A.put o.dst (appV t o.type W sv xv)) (appW t o.type W sv xv) := by
  unfold AppAt
  rw [app_run h]
  rfl

end Go.Proofs.YtoalboilghgalaaGreatDoor

/- table.Put: what it leaves. -/
namespace Go.Proofs.YtoalboilghgalaaGreatDoor
open Go.RowKit
open Go.Proofs.Dc (V Ds Ky)
attribute [local go_sem] run_store_float

attribute [local go_sem ↓] app_op app_at
theorem Tryz.info245 : (Tryz.prog.info? 245).map (fun i => (i.zero, i.size, i.bytes)) = some (some (.agg #[.string ⟨#[]⟩, .int .i64 0, .int .i64 0, .bool false, .float .f64 0, .string ⟨#[]⟩, .int .i64 0, .int .i64 0, .bool false, .float .f64 0, .string ⟨#[]⟩, .int .i64 0, .int .i64 0, .bool false, .float .f64 0, .string ⟨#[]⟩, .int .i64 0, .int .i64 0, .int .i64 0, .int .i64 0, .int .u64 0, .bool false]), 22, 208) := by kernel_rfl

theorem ownsRow_only {W W' : World} {base : Nat} {e : TypeId} {size n : Nat} {v : Value} {xs : List Value} {S : List Nat} (h : W.ownsRow base e size v n xs) (ho : Only S W W') (hS : ∀ g, v.ownBlock = some g → g ∉ S) : W'.ownsRow base e size v n xs := by
  obtain ⟨h1, h2⟩ := h
  refine ⟨h1, ?_⟩
  rcases h2 with h2 | ⟨g, cap, cur, hv, hg, hh, r⟩
  · exact .inl h2
  · exact .inr ⟨g, cap, cur, hv, hg, (ho.block g (Array.getElem?_eq_some_iff.1 hh).1 (hS g (by rw [hv]; rfl))).trans hh, r⟩
theorem ownsRow_ne {W : World} {base : Nat} {e : TypeId} {size n : Nat} {v : Value} {xs : List Value} (h : W.ownsRow base e size v n xs) {b : Nat} {C : Array Value} {t : TypeId} (hb : Blk W b C t) (ht : e ≠ t) : ∀ g, v.ownBlock = some g → g ≠ b := by
  rintro g hg rfl
  obtain ⟨_, h2⟩ := h
  rcases h2 with ⟨rfl, _⟩ | ⟨g', cap, cur, rfl, _, hh, _⟩
  · cases hg
  · obtain rfl : g' = g := by simpa [Value.ownBlock] using hg
    rw [show W.heap[g']? = some (.cells C t (0, 0)) from hb] at hh
    simp only [Option.some.injEq, Obj.cells.injEq] at hh
    exact ht hh.2.1.symm
theorem row_slice {W : World} {base : Nat} {e : TypeId} {size n : Nat} {v : Value} {xs : List Value} (h : W.ownsRow base e size v n xs) : ∃ p cap, v = .slice p n cap := by
  obtain ⟨_, h2⟩ := h
  rcases h2 with ⟨h, hn⟩ | ⟨g, cap, cur, h, _⟩
  · exact ⟨none, 0, by rw [h, hn]⟩
  · exact ⟨_, cap, h⟩
theorem ownsRow_lt {W : World} {base : Nat} {e : TypeId} {size n : Nat} {v : Value} {xs : List Value} (h : W.ownsRow base e size v n xs) : ∀ g, v.ownBlock = some g → g < W.heap.size := by
  intro g hg
  obtain ⟨_, h2⟩ := h
  rcases h2 with ⟨rfl, _⟩ | ⟨g', cap, cur, rfl, _, hh, _⟩
  · cases hg
  · obtain rfl : g' = g := by simpa [Value.ownBlock] using hg
    exact (Array.getElem?_eq_some_iff.1 hh).1
theorem ownsRow_nmap {W : World} {base : Nat} {e : TypeId} {size n : Nat} {v : Value} {xs : List Value} (h : W.ownsRow base e size v n xs) {b : Nat} {K : List (Ky × Nat)} (hb : MapIs W b K) : ∀ g, v.ownBlock = some g → g ≠ b := by
  rintro g hg rfl
  obtain ⟨_, h2⟩ := h
  obtain ⟨es, clock, hb, _⟩ := hb
  rcases h2 with ⟨rfl, _⟩ | ⟨g', cap, cur, rfl, _, hh, _⟩
  · cases hg
  · obtain rfl : g' = g := by simpa [Value.ownBlock] using hg
    rw [hb] at hh; cases hh

theorem MapIs.keep {W W' : World} {b : Nat} {K : List (Ky × Nat)} (h : MapIs W b K) (he : W'.heap[b]? = W.heap[b]?) : MapIs W' b K := by
  obtain ⟨es, clock, h1, h2⟩ := h
  exact ⟨es, clock, he.trans h1, h2⟩
theorem MapIs.lt {W : World} {b : Nat} {K : List (Ky × Nat)} (h : MapIs W b K) : b < W.heap.size := by
  obtain ⟨es, clock, h1, _⟩ := h
  exact (Array.getElem?_eq_some_iff.1 h1).1
theorem MapIs.ne {W : World} {b c : Nat} {K : List (Ky × Nat)} {C : Array Value} {t : TypeId} (h : MapIs W b K) (hb : Blk W c C t) : b ≠ c := by
  rintro rfl
  obtain ⟨es, clock, h1, _⟩ := h
  rw [show W.heap[b]? = some (.cells C t (0, 0)) from hb] at h1
  cases h1

theorem only_grown {W W' : World} {v : Value} (h : W.grownBy W' v.ownBlock) : Only v.ownBlock.toList W W' := ⟨h.os, h.tape, h.output, h.size, fun k hk hn => h.block k hk fun e => hn (by rw [← e]; simp)⟩

/-- behind Put of a new key -/
theorem tput_end (base : Nat) (k : Ky) (d : Ds) (tb mb : Nat) (ev : Value) (E : List GE) (M : List (Ky × Nat)) (last : Nat) (w w2 W3 W4 W5 W6 : World) (gg cap : Nat) (C5 : Array Value)
    (hB : Blk w tb (tArr ev mb last) 229) (hmap : MapIs w mb M) (hrow : w.ownsRow base 245 22 ev E.length (gAll E)) (hok : GOk E M last) (hf : findE E k = none)
    (h2 : Below w.heap.size w w2) (hO3 : Only [tb] w2 W3) (hm4 : MapIs W4 mb (M ++ [(k, E.length)])) (hO4 : Only [mb] W3.drew W4) (hW5 : W5 = (W4.alloc (.cells C5 245)).drew) (hB6 : Blk W6 tb (tArr ev mb (last + 1)) 229)
    (hown6 : W6.ownsRow base 245 22 (.slice (some ⟨gg, 0, none⟩) (E.length + 1) cap) (E.length + 1) (gAll E ++ gCells ⟨(k, d), last + 1, false⟩)) (hgrow : W5.grownBy W6 ev.ownBlock) (hat : ev.ownBlock = some gg ∨ gg = W5.heap.size) :
    TabG base (W6.setCell ⟨tb, 0, none⟩ (.slice (some ⟨gg, 0, none⟩) (E.length + 1) cap)) tb (.slice (some ⟨gg, 0, none⟩) (E.length + 1) cap) mb (E ++ [⟨(k, d), last + 1, false⟩]) (M ++ [(k, E.length)]) (last + 1) ∧
    Only (tb :: mb :: ev.ownBlock.toList) w (W6.setCell ⟨tb, 0, none⟩ (.slice (some ⟨gg, 0, none⟩) (E.length + 1) cap)) ∧
    ((Value.slice (some ⟨gg, 0, none⟩) (E.length + 1) cap).ownBlock = ev.ownBlock ∨ ∃ g, (Value.slice (some ⟨gg, 0, none⟩) (E.length + 1) cap).ownBlock = some g ∧ w.heap.size ≤ g) := by
  have h7 := only_setCell (o := 0) (v := .slice (some ⟨gg, 0, none⟩) (E.length + 1) cap) hB6
  have hs5 : W5.heap.size = W4.heap.size + 1 := by rw [hW5]; simp
  have h45 : Only [] W4 W5 := by rw [hW5]; exact (Only.of_below (one W4 _)).drew
  have h3d : W3.drew.heap.size = W3.heap.size := rfl
  have hsz := h2.size
  have hsz3 := hO3.size
  have hsz4 := hO4.size
  have hO34 : Only [mb] W3 W4 := ⟨hO4.os, hO4.tape, hO4.output, hO4.size, hO4.block⟩
  have hall : Only (tb :: mb :: ev.ownBlock.toList) w W6 := by
    refine (((((Only.of_below h2).mono (S := []) (by simp)).then hO3 (by simp)).then hO34 (by simp)).then h45 (by simp)).then (only_grown hgrow) (by simp +contextual)
  refine ⟨⟨?_, ?_, ?_, ?_⟩, hall.then h7.2 (by simp), ?_⟩
  · have := h7.1
    rw [show (tArr ev mb (last + 1)).setIfInBounds 0 (.slice (some ⟨gg, 0, none⟩) (E.length + 1) cap) = tArr (.slice (some ⟨gg, 0, none⟩) (E.length + 1) cap) mb (last + 1) by simp [tArr]] at this
    simpa using this
  · have h := ownsRow_only hown6 h7.2 (by intro g hg; simp; exact ownsRow_ne hown6 hB6 (by decide) g hg)
    rw [gAll_snoc]
    simpa using h
  · have hne : mb ≠ tb := hmap.ne hB
    have h5 := hm4.keep (h45.block mb hm4.lt (by simp))
    have h6 : MapIs W6 mb (M ++ [(k, E.length)]) := h5.keep (hgrow.block mb h5.lt (fun e => (ownsRow_nmap hrow hmap mb e.symm) rfl))
    have h7' := h6.keep (h7.2.block mb h6.lt (by simpa using hne))
    simpa using h7'
  · exact hok.new d hf
  · rcases hat with hat | hat
    · exact .inl (by rw [hat]; rfl)
    · exact .inr ⟨gg, rfl, by omega⟩


end Go.Proofs.YtoalboilghgalaaGreatDoor

/- A heap with one object: how it lies in memory, and what calls keep of the rest. -/
namespace Go.Proofs.YtoalboilghgalaaGreatDoor
open Go.RowKit
open Go.Proofs.Dc (V Ds Ky)

/-- a place in a map whose key is a struct -/
def aggKey (e : MapEntry) : Bool := match e.key with
  | .agg _ => true
  | _ => false
/-- a block of the heap's own, by its kind: a map too, if it is from keys to places, and not empty -/
def Mine : Obj → Bool
  | .cells _ t _ => t == 102 || t == 146 || t == 138 || t == 229 || t == 245
  | .map es _ => es.toList.any aggKey
  | _ => false
theorem MapEs.mine {es : Array MapEntry} {K : List (Ky × Nat)} (h : MapEs es K) (hK : K ≠ []) (c : Nat) : Mine (.map es c) = true := by
  unfold MapEs at h
  cases K with
  | nil => exact absurd rfl hK
  | cons a r =>
    cases he : es.toList with
    | nil => rw [he] at h; cases h
    | cons e q =>
      rw [he] at h
      simp only [List.map_cons, List.cons.injEq, Prod.mk.injEq] at h
      show es.toList.any aggKey = true
      rw [he, List.any_cons]
      have : aggKey e = true := by unfold aggKey; rw [h.1.1]
      rw [this]; rfl

/-- w' is w below n0, and but for the heap's own blocks -/
structure Keeps (n0 : Nat) (w w' : World) : Prop where
  below : Below n0 w w'
  free : ∀ (k : Nat) (o : Obj), w.heap[k]? = some o → Mine o = false → w'.heap[k]? = some o

theorem Keeps.refl (n0 : Nat) (w : World) : Keeps n0 w w := ⟨Below.refl _ _, fun _ _ h _ => h⟩
theorem Keeps.trans {n0 : Nat} {a b c : World} (h : Keeps n0 a b) (k : Keeps n0 b c) : Keeps n0 a c :=
  ⟨h.below.trans k.below, fun i o hi ho => k.free i o (h.free i o hi ho) ho⟩
theorem Keeps.of_below {n0 : Nat} {w w' : World} (h : Below w.heap.size w w') (hn : n0 ≤ w.heap.size) : Keeps n0 w w' :=
  ⟨h.mono hn, fun k _ hk _ => (h.block k (Array.getElem?_eq_some_iff.1 hk).1).trans hk⟩
theorem Keeps.of_only {n0 : Nat} {S : List Nat} {w w' : World} (h : Only S w w') (hS : ∀ b, b ∈ S → n0 ≤ b ∧ (w.heap.size ≤ b ∨ ∃ o, w.heap[b]? = some o ∧ Mine o = true)) (hn : n0 ≤ w.heap.size) : Keeps n0 w w' :=
  ⟨h.below n0 hn (fun b hb => (hS b hb).1), fun k o hk ho => (h.block k (Array.getElem?_eq_some_iff.1 hk).1 fun hm => by
    rcases (hS k hm).2 with h2 | ⟨o', h2, h3⟩
    · have := (Array.getElem?_eq_some_iff.1 hk).1; omega
    · rw [hk] at h2; cases h2; rw [h3] at ho; cases ho).trans hk⟩
theorem Keeps.size {n0 : Nat} {w w' : World} (h : Keeps n0 w w') : w.heap.size ≤ w'.heap.size := h.below.size
theorem Keeps.drew {n0 : Nat} {w w' : World} (h : Keeps n0 w w') : Keeps n0 w w'.drew := ⟨h.below.drew, h.free⟩
theorem Blk.keeps {n0 : Nat} {W W' : World} {b : Nat} {C : Array Value} {t : TypeId} (h : Blk W b C t) (hk : Keeps n0 W W') (ht : Mine (.cells C t) = false) : Blk W' b C t := hk.free _ _ h ht

/-- what an object is besides its properties -/
structure Kd where
  cls : Int
  proto : V
  mv : Value
  sv : Value
  /-- how deep calls may go -/
  dp : Int
  /-- what may be spent: no number of a table is greater than what is left of it -/
  b : Int
/-- .. a property more -/
def Kd.up (kd : Kd) : Kd := { kd with b := kd.b + 1 }

def vN : V := ⟨2, false, 0, ByteArray.empty, 0⟩
/-- an ordinary object without a prototype -/
def kO : Kd := ⟨1, vN, .iface 105 (.agg #[]), .nilIface, 10, 1000000⟩

def oArr (kd : Kd) (ext : Bool) (tp : Option Addr) : Array Value :=
  #[.int .i64 kd.cls, .int .i64 kd.proto.kind, .bool kd.proto.bool, .float .f64 kd.proto.num, .string kd.proto.str, .int .i64 kd.proto.id, .bool ext, kd.mv, kd.sv, .pointer tp]
theorem Blk.cellO {W : World} {b : Nat} {kd : Kd} {ext : Bool} {tp : Option Addr} (h : Blk W b (oArr kd ext tp) 146) : ∀ j, W.cell? ⟨b, j, none⟩ =
    #[.int .i64 kd.cls, .int .i64 kd.proto.kind, .bool kd.proto.bool, .float .f64 kd.proto.num, .string kd.proto.str, .int .i64 kd.proto.id, .bool ext, kd.mv, kd.sv, .pointer tp][j]? := h.cell
theorem set_ext (kd : Kd) (ext x : Bool) (tp : Option Addr) : (oArr kd ext tp).setIfInBounds 6 (.bool x) = oArr kd x tp := rfl
theorem set_tab (kd : Kd) (ext : Bool) (tp tq : Option Addr) : (oArr kd ext tp).setIfInBounds 9 (.pointer tq) = oArr kd ext tq := rfl

/-- the object's table, or none -/
def TabAt (n0 : Nat) (W : World) (tp : Option Addr) (L : List (Ky × Ds)) (q : Int) : Prop :=
  (tp = none ∧ L = [] ∧ 0 ≤ q) ∨ ∃ tb mb ev, tp = some ⟨tb, 0, none⟩ ∧ n0 ≤ tb ∧ n0 ≤ mb ∧ TabSt n0 W tb ev mb L q ∧ L ≠ []
theorem TabSt.mono {base : Nat} {W : World} {tb mb : Nat} {ev : Value} {L : List (Ky × Ds)} {q q' : Int} (h : TabSt base W tb ev mb L q) (hq : q ≤ q') : TabSt base W tb ev mb L q' := by
  obtain ⟨E, M, last, h1, h2, h3⟩ := h
  exact ⟨E, M, last, h1, h2, by omega⟩
theorem TabAt.mono {n0 : Nat} {W : World} {tp : Option Addr} {L : List (Ky × Ds)} {q q' : Int} (h : TabAt n0 W tp L q) (hq : q ≤ q') : TabAt n0 W tp L q' := by
  rcases h with ⟨h1, h2, h3⟩ | ⟨tb, mb, ev, h1, h2, h3, h4, hne⟩
  · exact .inl ⟨h1, h2, by omega⟩
  · exact .inr ⟨tb, mb, ev, h1, h2, h3, h4.mono hq, hne⟩

/-- the heap hb with the one object ob -/
structure StX (n0 : Nat) (W : World) (hb : Nat) (ov : Value) (ob : Nat) (tp : Option Addr) (cap fuel deep : Int) (kd : Kd) (ext : Bool) (L : List (Ky × Ds)) : Prop where
  h : Blk W hb (hArr cap fuel kd.dp deep ov) 102
  row : W.ownsRow n0 138 1 ov 1 [.pointer (some ⟨ob, 0, none⟩)]
  o : Blk W ob (oArr kd ext tp) 146
  tab : TabAt n0 W tp L (kd.b - fuel - deep)
  hn : n0 ≤ hb
  on : n0 ≤ ob
  tabs : Tabs W
  tn : Tryz.lays197_ren.g 3 < n0 ∧ Tryz.lays197_ren.g 4 < n0
  sz : n0 ≤ W.heap.size
  bd : kd.b ≤ 1000000 ∧ 0 ≤ fuel ∧ 0 ≤ deep

def St (n0 : Nat) (W : World) (hb : Nat) (cap fuel deep : Int) (kd : Kd) (ext : Bool) (L : List (Ky × Ds)) : Prop :=
  ∃ ov ob tp, StX n0 W hb ov ob tp cap fuel deep kd ext L

theorem TabG.only {base : Nat} {W W' : World} {tb mb : Nat} {ev : Value} {E : List GE} {M : List (Ky × Nat)} {last : Nat} {S : List Nat} (h : TabG base W tb ev mb E M last) (ho : Only S W W') (h1 : tb ∉ S) (h2 : mb ∉ S) (h3 : ∀ g, ev.ownBlock = some g → g ∉ S) : TabG base W' tb ev mb E M last :=
  ⟨h.tab.only ho h1, ownsRow_only h.row ho h3, h.map.keep (ho.block mb h.map.lt h2), h.ok⟩
theorem TabG.below {base : Nat} {W W' : World} {tb mb : Nat} {ev : Value} {E : List GE} {M : List (Ky × Nat)} {last : Nat} (h : TabG base W tb ev mb E M last) (hb : Below W.heap.size W W') : TabG base W' tb ev mb E M last :=
  h.only (S := []) (Only.of_below hb) (by simp) (by simp) (by simp)
theorem TabSt.only {base : Nat} {W W' : World} {tb mb : Nat} {ev : Value} {L : List (Ky × Ds)} {q : Int} {S : List Nat} (h : TabSt base W tb ev mb L q) (ho : Only S W W') (h1 : tb ∉ S) (h2 : mb ∉ S) (h3 : ∀ g, ev.ownBlock = some g → g ∉ S) : TabSt base W' tb ev mb L q := by
  obtain ⟨E, M, last, h, r⟩ := h
  exact ⟨E, M, last, h.only ho h1 h2 h3, r⟩
theorem TabSt.below {base : Nat} {W W' : World} {tb mb : Nat} {ev : Value} {L : List (Ky × Ds)} {q : Int} (h : TabSt base W tb ev mb L q) (hb : Below W.heap.size W W') : TabSt base W' tb ev mb L q :=
  h.only (S := []) (Only.of_below hb) (by simp) (by simp) (by simp)
theorem TabSt.tab {base : Nat} {W : World} {tb mb : Nat} {ev : Value} {L : List (Ky × Ds)} {q : Int} (h : TabSt base W tb ev mb L q) : ∃ n, Blk W tb (tArr ev mb n) 229 := by
  obtain ⟨E, M, last, h, _⟩ := h; exact ⟨_, h.tab⟩
theorem TabSt.row {base : Nat} {W : World} {tb mb : Nat} {ev : Value} {L : List (Ky × Ds)} {q : Int} (h : TabSt base W tb ev mb L q) : ∃ n xs, W.ownsRow base 245 22 ev n xs := by
  obtain ⟨E, M, last, h, _⟩ := h; exact ⟨_, _, h.row⟩
theorem TabSt.map {base : Nat} {W : World} {tb mb : Nat} {ev : Value} {L : List (Ky × Ds)} {q : Int} (h : TabSt base W tb ev mb L q) : ∃ M, MapIs W mb M ∧ (L ≠ [] → M ≠ []) := by
  obtain ⟨E, M, last, h, rfl, _⟩ := h
  refine ⟨M, h.map, fun hL hM => hL ?_⟩
  have := h.ok.len
  rw [hM] at this
  unfold liveP
  rw [List.eq_nil_of_length_eq_zero this.symm]; rfl
theorem TabAt.only {n0 : Nat} {W W' : World} {tp : Option Addr} {L : List (Ky × Ds)} {q : Int} {S : List Nat} (h : TabAt n0 W tp L q) (ho : Only S W W')
    (hS : ∀ b, b ∈ S → ∃ C t, Blk W b C t ∧ t ≠ 229 ∧ t ≠ 245) : TabAt n0 W' tp L q := by
  rcases h with h | ⟨tb, mb, ev, h1, h2, h3, h4, hne⟩
  · exact .inl h
  · obtain ⟨n, ht⟩ := h4.tab
    obtain ⟨m, xs, hr⟩ := h4.row
    obtain ⟨M, hm', _⟩ := h4.map
    refine .inr ⟨tb, mb, ev, h1, h2, h3, h4.only ho (fun hm => ?_) (fun hm => ?_) (fun g hg hm => ?_), hne⟩
    · obtain ⟨C, t, hb, n1, _⟩ := hS _ hm
      have := ht; unfold Blk at this hb; rw [hb] at this; simp only [Option.some.injEq, Obj.cells.injEq] at this
      exact n1 this.2.1
    · obtain ⟨C, t, hb, _⟩ := hS _ hm
      exact hm'.ne hb rfl
    · obtain ⟨C, t, hb, _, n2⟩ := hS _ hm
      exact ownsRow_ne hr hb (Ne.symm n2) g hg rfl

theorem Blk.ne {W : World} {b c : Nat} {C D : Array Value} {t u : TypeId} (h : Blk W b C t) (k : Blk W c D u) (hn : t ≠ u) : b ≠ c := by
  rintro rfl
  unfold Blk at h k
  rw [h] at k
  simp only [Option.some.injEq, Obj.cells.injEq] at k
  exact hn k.2.1

theorem StX.below {n0 : Nat} {W W' : World} {hb : Nat} {ov : Value} {ob : Nat} {tp : Option Addr} {cap fuel deep : Int} {kd : Kd} {ext : Bool} {L : List (Ky × Ds)} (s : StX n0 W hb ov ob tp cap fuel deep kd ext L) (h : Below W.heap.size W W') : StX n0 W' hb ov ob tp cap fuel deep kd ext L :=
  ⟨s.h.next h, ownsRow_only s.row (Only.of_below (S := []) h) (by simp), s.o.next h, s.tab.only (Only.of_below (S := []) h) (by simp), s.hn, s.on, s.tabs.below h, s.tn, Nat.le_trans s.sz h.size, s.bd⟩
theorem St.below {n0 : Nat} {W W' : World} {hb : Nat} {cap fuel deep : Int} {kd : Kd} {ext : Bool} {L : List (Ky × Ds)} (s : St n0 W hb cap fuel deep kd ext L) (h : Below W.heap.size W W') : St n0 W' hb cap fuel deep kd ext L := by
  obtain ⟨ov, ob, tp, s⟩ := s; exact ⟨ov, ob, tp, s.below h⟩
theorem St.keeps {n0 : Nat} {W W' : World} {hb : Nat} {cap fuel deep : Int} {kd : Kd} {ext : Bool} {L : List (Ky × Ds)} (s : St n0 W hb cap fuel deep kd ext L) (h : Below W.heap.size W W') : Keeps n0 W W' := by
  obtain ⟨ov, ob, tp, s⟩ := s; exact Keeps.of_below h s.sz
theorem St.drew {n0 : Nat} {W : World} {hb : Nat} {cap fuel deep : Int} {kd : Kd} {ext : Bool} {L : List (Ky × Ds)} (s : St n0 W hb cap fuel deep kd ext L) : St n0 W.drew hb cap fuel deep kd ext L := s.below (Below.refl _ _).drew

/-- the heap's own words are written -/
theorem StX.heap {n0 : Nat} {W W' : World} {hb : Nat} {ov : Value} {ob : Nat} {tp : Option Addr} {cap fuel deep fuel' deep' : Int} {kd : Kd} {ext : Bool} {L : List (Ky × Ds)} (s : StX n0 W hb ov ob tp cap fuel deep kd ext L)
    (h : Blk W' hb (hArr cap fuel' kd.dp deep' ov) 102) (ho : Only [hb] W W') {kd' : Kd} (hk : kd' = { kd with b := kd'.b }) (hq : kd.b - fuel - deep ≤ kd'.b - fuel' - deep') (hbd : kd'.b ≤ 1000000 ∧ 0 ≤ fuel' ∧ 0 ≤ deep') : StX n0 W' hb ov ob tp cap fuel' deep' kd' ext L ∧ Keeps n0 W W' := by
  have h3 : Tryz.lays197_ren.g 3 ∉ [hb] := by simp; have := s.tn; have := s.hn; omega
  have h4 : Tryz.lays197_ren.g 4 ∉ [hb] := by simp; have := s.tn; have := s.hn; omega
  have e1 : kd'.dp = kd.dp := by rw [hk]
  have e2 : oArr kd' ext tp = oArr kd ext tp := by rw [hk]; rfl
  refine ⟨⟨by rw [e1]; exact h, ownsRow_only s.row ho (fun g hg => by simpa using ownsRow_ne s.row s.h (by decide) g hg), by rw [e2]; exact s.o.only ho (by simpa using s.o.ne s.h (by decide)), (s.tab.only ho (fun b hb' => ?_)).mono hq, s.hn, s.on, s.tabs.only ho h3 h4, s.tn, Nat.le_trans s.sz ho.size, hbd⟩, Keeps.of_only ho (fun b hb' => ?_) s.sz⟩
  · obtain rfl : b = hb := by simpa using hb'
    exact ⟨_, _, s.h, by decide, by decide⟩
  · obtain rfl : b = hb := by simpa using hb'
    exact ⟨s.hn, .inr ⟨_, s.h, rfl⟩⟩

/-- the object's own words are written -/
theorem StX.obj {n0 : Nat} {W W' : World} {hb : Nat} {ov : Value} {ob : Nat} {tp : Option Addr} {cap fuel deep : Int} {kd : Kd} {ext ext' : Bool} {L : List (Ky × Ds)} (s : StX n0 W hb ov ob tp cap fuel deep kd ext L)
    (h : Blk W' ob (oArr kd ext' tp) 146) (ho : Only [ob] W W') : StX n0 W' hb ov ob tp cap fuel deep kd ext' L ∧ Keeps n0 W W' := by
  have h3 : Tryz.lays197_ren.g 3 ∉ [ob] := by simp; have := s.tn; have := s.on; omega
  have h4 : Tryz.lays197_ren.g 4 ∉ [ob] := by simp; have := s.tn; have := s.on; omega
  refine ⟨⟨s.h.only ho (by simpa using s.h.ne s.o (by decide)), ownsRow_only s.row ho (fun g hg => by simpa using ownsRow_ne s.row s.o (by decide) g hg), h, s.tab.only ho (fun b hb' => ?_), s.hn, s.on, s.tabs.only ho h3 h4, s.tn, Nat.le_trans s.sz ho.size, s.bd⟩, Keeps.of_only ho (fun b hb' => ?_) s.sz⟩
  · obtain rfl : b = ob := by simpa using hb'
    exact ⟨_, _, s.o, by decide, by decide⟩
  · obtain rfl : b = ob := by simpa using hb'
    exact ⟨s.on, .inr ⟨_, s.o, rfl⟩⟩

/-- where a row lies -/
theorem ownsRow_at {W : World} {base : Nat} {e : TypeId} {size n : Nat} {v : Value} {xs : List Value} (h : W.ownsRow base e size v n xs) : ∀ g, v.ownBlock = some g → base ≤ g ∧ ∃ C, Blk W g C e := by
  intro g hg
  obtain ⟨_, h2⟩ := h
  rcases h2 with ⟨rfl, _⟩ | ⟨g', cap, cur, rfl, hb, hh, _⟩
  · cases hg
  · obtain rfl : g' = g := by simpa [Value.ownBlock] using hg
    exact ⟨hb, _, hh⟩

/-- the table is written -/
theorem StX.table {n0 : Nat} {W W' : World} {hb : Nat} {ov : Value} {ob : Nat} {cap fuel deep : Int} {kd : Kd} {ext : Bool} {L L' : List (Ky × Ds)} {tb mb mb' : Nat} {ev ev' : Value} (s : StX n0 W hb ov ob (some ⟨tb, 0, none⟩) cap fuel deep kd ext L)
    {q : Int} (ht : TabSt n0 W tb ev mb L q) (hl : n0 ≤ tb ∧ n0 ≤ mb) (hl' : n0 ≤ mb') {kd' : Kd} (hk : kd' = { kd with b := kd'.b }) (hbd : kd'.b ≤ 1000000) (h : TabSt n0 W' tb ev' mb' L' (kd'.b - fuel - deep)) (ho : Only (tb :: mb :: ev.ownBlock.toList) W W') (hne : L ≠ []) (hne' : L' ≠ []) : StX n0 W' hb ov ob (some ⟨tb, 0, none⟩) cap fuel deep kd' ext L' ∧ Keeps n0 W W' := by
  obtain ⟨tn', htt⟩ := ht.tab
  obtain ⟨_, _, htr⟩ := ht.row
  obtain ⟨M, htm, htM⟩ := ht.map
  have e1 : kd'.dp = kd.dp := by rw [hk]
  have e2 : oArr kd' ext (some ⟨tb, 0, none⟩) = oArr kd ext (some ⟨tb, 0, none⟩) := by rw [hk]; rfl
  have hev : ∀ g, ev.ownBlock = some g → n0 ≤ g ∧ ∃ C, Blk W g C 245 := ownsRow_at htr
  have hbl : ∀ b, b ∈ tb :: mb :: ev.ownBlock.toList → n0 ≤ b ∧ ∃ o, W.heap[b]? = some o ∧ Mine o = true ∧ ∀ C t, Blk W b C t → t = 229 ∨ t = 245 := by
    intro b hb
    simp only [List.mem_cons, Option.mem_toList] at hb
    rcases hb with rfl | rfl | hb
    · refine ⟨hl.1, _, htt, rfl, fun C t h => .inl ?_⟩
      have := htt; unfold Blk at this h; rw [h] at this; simp only [Option.some.injEq, Obj.cells.injEq] at this; exact this.2.1
    · obtain ⟨es, clock, hm, hes⟩ := htm
      refine ⟨hl.2, _, hm, hes.mine (htM hne) _, fun C t h => ?_⟩
      unfold Blk at h; rw [h] at hm; cases hm
    · obtain ⟨h1, C, h2⟩ := hev b hb
      refine ⟨h1, _, h2, rfl, fun D t h => .inr ?_⟩
      unfold Blk at h2 h; rw [h] at h2; simp only [Option.some.injEq, Obj.cells.injEq] at h2; exact h2.2.1
  have hnot : ∀ b C t, Blk W b C t → t ≠ 229 → t ≠ 245 → b ∉ tb :: mb :: ev.ownBlock.toList := fun b C t h n1 n2 hm => by
    obtain ⟨_, _, _, _, h5⟩ := hbl b hm
    rcases h5 C t h with h | h
    · exact n1 h
    · exact n2 h
  have hlow : ∀ b, b < n0 → b ∉ tb :: mb :: ev.ownBlock.toList := fun b h hm => by have := (hbl b hm).1; omega
  refine ⟨⟨by rw [e1]; exact s.h.only ho (hnot _ _ _ s.h (by decide) (by decide)), ownsRow_only s.row ho (fun g hg => ?_), by rw [e2]; exact s.o.only ho (hnot _ _ _ s.o (by decide) (by decide)), .inr ⟨tb, mb', ev', rfl, hl.1, hl', h, hne'⟩, s.hn, s.on, s.tabs.only ho (hlow _ s.tn.1) (hlow _ s.tn.2), s.tn, Nat.le_trans s.sz ho.size, ⟨hbd, s.bd.2⟩⟩,
    Keeps.of_only ho (fun b hb' => ⟨(hbl b hb').1, .inr (by obtain ⟨_, o, h1, h2, _⟩ := hbl b hb'; exact ⟨o, h1, h2⟩)⟩) s.sz⟩
  obtain ⟨_, C, hC⟩ := ownsRow_at s.row g hg
  exact hnot _ _ _ hC (by decide) (by decide)

/-- .. with a property more to spend -/
theorem StX.up {n0 : Nat} {W : World} {hb : Nat} {ov : Value} {ob : Nat} {tp : Option Addr} {cap fuel deep : Int} {kd : Kd} {ext : Bool} {L : List (Ky × Ds)} (s : StX n0 W hb ov ob tp cap fuel deep kd ext L) (h : kd.b < 1000000) : StX n0 W hb ov ob tp cap fuel deep kd.up ext L :=
  ⟨s.h, s.row, s.o, s.tab.mono (by show _ ≤ kd.b + 1 - fuel - deep; omega), s.hn, s.on, s.tabs, s.tn, s.sz, ⟨by show kd.b + 1 ≤ _; omega, s.bd.2⟩⟩
theorem St.up {n0 : Nat} {W : World} {hb : Nat} {cap fuel deep : Int} {kd : Kd} {ext : Bool} {L : List (Ky × Ds)} (s : St n0 W hb cap fuel deep kd ext L) (h : kd.b < 1000000) : St n0 W hb cap fuel deep kd.up ext L := by
  obtain ⟨ov, ob, tp, s⟩ := s; exact ⟨ov, ob, tp, s.up h⟩

/-- where the objects' row lies -/
theorem StX.objs {n0 : Nat} {W : World} {hb : Nat} {ov : Value} {ob : Nat} {tp : Option Addr} {cap fuel deep : Int} {kd : Kd} {ext : Bool} {L : List (Ky × Ds)} (s : StX n0 W hb ov ob tp cap fuel deep kd ext L) :
    ∃ g c, ov = .slice (some ⟨g, 0, none⟩) 1 c ∧ W.cell? ⟨g, 0, none⟩ = some (.pointer (some ⟨ob, 0, none⟩)) := by
  obtain ⟨h1, h2⟩ := s.row
  rcases h2 with ⟨_, h2⟩ | ⟨g, cap, cur, hv, hg, hh, hn, hc, hs, ht⟩
  · cases h2
  · refine ⟨g, cap, hv, ?_⟩
    rw [cell_of_row _ _ _ _ _ _ hh]
    have h0 : ([Value.pointer (some ⟨ob, 0, none⟩)] : List Value)[0]? = some (.pointer (some ⟨ob, 0, none⟩)) := rfl
    rw [← ht, List.getElem?_take] at h0
    simpa using h0

end Go.Proofs.YtoalboilghgalaaGreatDoor

/- The heap: has, at, lost, Check, base, Room, Does, Open, Shut, Proto, Class, Fuel, Refuel. -/
namespace Go.Proofs.YtoalboilghgalaaGreatDoor
open Go.RowKit
open Go.Proofs.Dc (V Ds Ky)
attribute [local go_sem] run_store_float

theorem has_one {n0 : Nat} {w : World} {hb : Nat} {ov : Value} {ob : Nat} {tp : Option Addr} {cap fuel deep : Int} {kd : Kd} {ext : Bool} {L : List (Ky × Ds)} (s : StX n0 w hb ov ob tp cap fuel deep kd ext L) : Calls Tryz.prog 83 #[.pointer (some ⟨hb, 0, none⟩), .int .i64 1] w fun e w' => e = .returned (.bool true) ∧ w = w' := by
  obtain ⟨g, c, rfl, hg⟩ := s.objs
  have hc := s.h.cellH
  have ho := s.o.cellO
  clear s
  go_enter Tryz.func83, Tryz.ntmps83
  go_wp2
  go_ret
  exact ⟨rfl, rfl⟩
theorem has_not {n0 : Nat} {w : World} {hb : Nat} {ov : Value} {ob : Nat} {tp : Option Addr} {cap fuel deep : Int} {kd : Kd} {ext : Bool} {L : List (Ky × Ds)} (s : StX n0 w hb ov ob tp cap fuel deep kd ext L) (o : Int) (hne : o ≠ 1) : Calls Tryz.prog 83 #[.pointer (some ⟨hb, 0, none⟩), .int .i64 o] w fun e w' => e = .returned (.bool false) ∧ w = w' := by
  obtain ⟨g, c, rfl, hg⟩ := s.objs
  have hc := s.h.cellH
  have ho := s.o.cellO
  clear s
  by_cases h1 : 1 ≤ o
  · have h2 : decide (o ≤ 1) = false := by simp; omega
    go_enter Tryz.func83, Tryz.ntmps83
    go_wp2
    go_ret
    exact ⟨rfl, rfl⟩
  · go_enter Tryz.func83, Tryz.ntmps83
    go_wp2
    go_ret
    exact ⟨rfl, rfl⟩
theorem at_any {n0 : Nat} {w : World} {hb : Nat} {ov : Value} {ob : Nat} {tp : Option Addr} {cap fuel deep : Int} {kd : Kd} {ext : Bool} {L : List (Ky × Ds)} (s : StX n0 w hb ov ob tp cap fuel deep kd ext L) : Calls Tryz.prog 84 #[.pointer (some ⟨hb, 0, none⟩), .int .i64 1] w fun e w' => e = .returned (.pointer (some ⟨ob, 0, none⟩)) ∧ w = w' := by
  obtain ⟨g, c, rfl, hg⟩ := s.objs
  have hc := s.h.cellH
  have ho := s.o.cellO
  clear s
  go_enter Tryz.func84, Tryz.ntmps84
  go_wp2
  go_ret
  exact ⟨rfl, rfl⟩
theorem room_any {n0 : Nat} {w : World} {hb : Nat} {ov : Value} {ob : Nat} {tp : Option Addr} {cap fuel deep : Int} {kd : Kd} {ext : Bool} {L : List (Ky × Ds)} (s : StX n0 w hb ov ob tp cap fuel deep kd ext L) : Calls Tryz.prog 101 #[.pointer (some ⟨hb, 0, none⟩)] w fun e w' => e = .returned (.int .i64 (if cap ≤ 1 then 3 else 0)) ∧ Below w.heap.size w w' := by
  obtain ⟨g, c, rfl, hg⟩ := s.objs
  have hc := s.h.cellH
  have ho := s.o.cellO
  clear s
  by_cases h1 : cap ≤ 1
  · rw [if_pos h1]
    go_enter Tryz.func101, Tryz.ntmps101
    go_wp2
    go_region
    go_wp2
    go_ret
    exact ⟨rfl, (Below.refl _ _).drew⟩
  · rw [if_neg h1]
    have h1 : 1 < cap := by omega
    go_enter Tryz.func101, Tryz.ntmps101
    go_wp2
    go_region
    go_wp2
    go_ret
    exact ⟨rfl, (Below.refl _ _).drew⟩
theorem does_any {n0 : Nat} {w : World} {hb : Nat} {ov : Value} {ob : Nat} {tp : Option Addr} {cap fuel deep : Int} {kd : Kd} {ext : Bool} {L : List (Ky × Ds)} (s : StX n0 w hb ov ob tp cap fuel deep kd ext L) : Calls Tryz.prog 108 #[.pointer (some ⟨hb, 0, none⟩), .int .i64 1] w fun e w' => e = .returned kd.mv ∧ w = w' := by
  obtain ⟨g, c, rfl, hg⟩ := s.objs
  have hc := s.h.cellH
  have ho := s.o.cellO
  have cA := at_any s
  clear s
  go_enter Tryz.func108, Tryz.ntmps108
  go_wp2_with (go_at_call 84; refine cA.mono ?_; rintro e w' ⟨rfl, rfl⟩)
  go_ret
  exact ⟨rfl, rfl⟩
theorem open_any {n0 : Nat} {w : World} {hb : Nat} {ov : Value} {ob : Nat} {tp : Option Addr} {cap fuel deep : Int} {kd : Kd} {ext : Bool} {L : List (Ky × Ds)} (s : StX n0 w hb ov ob tp cap fuel deep kd ext L) : Calls Tryz.prog 221 #[.pointer (some ⟨hb, 0, none⟩), .int .i64 1] w fun e w' => e = .returned (.bool ext) ∧ w = w' := by
  obtain ⟨g, c, rfl, hg⟩ := s.objs
  have hc := s.h.cellH
  have ho := s.o.cellO
  have cA := at_any s
  clear s
  go_enter Tryz.func221, Tryz.ntmps221
  go_wp2_with (go_at_call 84; refine cA.mono ?_; rintro e w' ⟨rfl, rfl⟩)
  go_ret
  exact ⟨rfl, rfl⟩
theorem class_any {n0 : Nat} {w : World} {hb : Nat} {ov : Value} {ob : Nat} {tp : Option Addr} {cap fuel deep : Int} {kd : Kd} {ext : Bool} {L : List (Ky × Ds)} (s : StX n0 w hb ov ob tp cap fuel deep kd ext L) : Calls Tryz.prog 71 #[.pointer (some ⟨hb, 0, none⟩), .int .i64 1] w fun e w' => e = .returned (.tuple #[.int .i64 kd.cls, .int .i64 0]) ∧ w = w' := by
  obtain ⟨g, c, rfl, hg⟩ := s.objs
  have hc := s.h.cellH
  have ho := s.o.cellO
  have cA := at_any s
  have cH := has_one s
  clear s
  go_enter Tryz.func71, Tryz.ntmps71
  go_wp2_with (first | (go_at_call 84; refine cA.mono ?_; rintro e w' ⟨rfl, rfl⟩) | (go_at_call 83; refine cH.mono ?_; rintro e w' ⟨rfl, rfl⟩))
  go_ret2
  exact ⟨rfl, rfl⟩
theorem shut_any {n0 : Nat} {w : World} {hb : Nat} {ov : Value} {ob : Nat} {tp : Option Addr} {cap fuel deep : Int} {kd : Kd} {ext : Bool} {L : List (Ky × Ds)} (s : StX n0 w hb ov ob tp cap fuel deep kd ext L) : Calls Tryz.prog 91 #[.pointer (some ⟨hb, 0, none⟩), .int .i64 1] w fun e w' => e = .returned (.tuple #[]) ∧ StX n0 w' hb ov ob tp cap fuel deep kd false L ∧ Keeps n0 w w' := by
  obtain ⟨g, c, rfl, hg⟩ := s.objs
  have hc := s.h.cellH
  have ho := s.o.cellO
  have cA := at_any s
  have hf := s.o.frozen
  have S := Lib.hid s
  clear s
  go_enter Tryz.func91, Tryz.ntmps91
  go_wp2_with (go_at_call 84; refine cA.mono ?_; rintro e w' ⟨rfl, rfl⟩)
  go_end0
  have h := only_setCell (o := 6) (v := .bool false) S.out.o
  rw [set_ext] at h
  exact ⟨rfl, S.out.obj h.1 h.2⟩
theorem fuel_any {n0 : Nat} {w : World} {hb : Nat} {ov : Value} {ob : Nat} {tp : Option Addr} {cap fuel deep : Int} {kd : Kd} {ext : Bool} {L : List (Ky × Ds)} (s : StX n0 w hb ov ob tp cap fuel deep kd ext L) : Calls Tryz.prog 75 #[.pointer (some ⟨hb, 0, none⟩)] w fun e w' => e = .returned (.int .i64 fuel) ∧ w = w' := by
  obtain ⟨g, c, rfl, hg⟩ := s.objs
  have hc := s.h.cellH
  have ho := s.o.cellO
  clear s
  go_enter Tryz.func75, Tryz.ntmps75
  go_wp2
  go_ret
  exact ⟨rfl, rfl⟩
theorem refuel_any {n0 : Nat} {w : World} {hb : Nat} {ov : Value} {ob : Nat} {tp : Option Addr} {cap fuel deep : Int} {kd : Kd} {ext : Bool} {L : List (Ky × Ds)} (s : StX n0 w hb ov ob tp cap fuel deep kd ext L) (x : Int) (hx : 0 ≤ x) (kd' : Kd) (hk : kd' = { kd with b := kd'.b }) (hq : kd.b - fuel - deep ≤ kd'.b - x - deep) (hbd : kd'.b ≤ 1000000) : Calls Tryz.prog 32 #[.pointer (some ⟨hb, 0, none⟩), .int .i64 x] w fun e w' => e = .returned (.int .i64 0) ∧ StX n0 w' hb ov ob tp cap x deep kd' ext L ∧ Keeps n0 w w' := by
  obtain ⟨g, c, rfl, hg⟩ := s.objs
  have hc := s.h.cellH
  have ho := s.o.cellO
  have hf := s.h.frozen
  have S := Lib.hid s
  have HK := Lib.hid (And.intro hk (And.intro hq hbd))
  clear hk hq hbd
  clear s
  go_enter Tryz.func32, Tryz.ntmps32
  go_wp2
  go_ret
  have h := only_setCell (o := 1) (v := .int .i64 x) S.out.h
  rw [set_fuel] at h
  exact ⟨rfl, S.out.heap h.1 h.2 HK.out.1 HK.out.2.1 ⟨HK.out.2.2, hx, S.out.bd.2.2⟩⟩

end Go.Proofs.YtoalboilghgalaaGreatDoor
