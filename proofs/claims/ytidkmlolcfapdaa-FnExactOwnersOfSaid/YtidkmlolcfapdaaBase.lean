import Derived.Test.YtidkmlolcfapdaaProg
import Derived.WalkKit
import Derived.WalkSpells
import Derived.WalkLawsBesides
import Derived.Lib.Hide
import Derived.Deep.LoopGhost
import Derived.Deep.QuietTactic
import Derived.BigQuiet
import Derived.Deep.RegionHeld3
import Derived.Laws.Rows
import Derived.Deep.OwnRows
import Derived.KernelRfl
/-! What the walks over worlds use: values, what is read, what is owned. -/
set_option linter.unusedVariables false
set_option linter.unusedSimpArgs false
namespace Go.Proofs.Ytidkmlolcfapdaa
open Go.RowKit

/-- A fact that the walk doesn't look into. -/
structure Aside (p : Prop) : Prop where mk :: (out : p)

structure H where
  (f0 : Bool) (f1 f2 : Int) (f3 : Bool) (f4 f5 : Int)
  deriving DecidableEq
structure T where
  (f0 : List H) (f1 : List Int)
structure Th where
  (f0 : Int) (f1 : Bool)
  deriving DecidableEq
structure L where
  (f0 f1 f2 f3 : Int)
  deriving DecidableEq
structure Wd where
  (f0 : List Th) (f1 : List T) (f2 : List L) (f3 : List Int)
structure Ac where
  (f0 f1 f2 f3 f4 : Int)
def zH : H := ⟨false, 0, 0, false, 0, 0⟩

def encI (x : Int) : List Value := [.int .i64 x]
def encH (h : H) : List Value := [.bool h.f0, .int .i64 h.f1, .int .i64 h.f2, .bool h.f3, .int .i64 h.f4, .int .i64 h.f5]
def encTh (h : Th) : List Value := [.int .i64 h.f0, .bool h.f1]
def encL (h : L) : List Value := [.int .i64 h.f0, .int .i64 h.f1, .int .i64 h.f2, .int .i64 h.f3]
def encA (h : Ac) : List Value := [.int .i64 h.f0, .int .i64 h.f1, .int .i64 h.f2, .int .i64 h.f3, .int .i64 h.f4]
abbrev vH (h : H) : Value := .agg #[.bool h.f0, .int .i64 h.f1, .int .i64 h.f2, .bool h.f3, .int .i64 h.f4, .int .i64 h.f5]

/-! ### cells -/
def At (w : World) (ad : Addr) (cs : List Value) : Prop := ∀ j v, cs[j]? = some v → w.cell? (ad.add j) = some v
theorem cell_old {w w' : World} (hb : Below w.heap.size w w') {a : Addr} {v : Value} (h : w.cell? a = some v) : w'.cell? a = some v :=
  (hb.cell (World.block_lt_of_cell? w a h)).trans h
theorem At.below {w w' : World} {ad : Addr} {cs : List Value} (h : At w ad cs) (hb : Below w.heap.size w w') : At w' ad cs := fun j v hj => cell_old hb (h j v hj)
theorem add0 (a : Addr) : a.add 0 = a := by simp [Addr.add]
theorem addS (a : Addr) (j : Nat) : a.add (j + 1) = ⟨a.block, a.off + (j + 1), none⟩ := by simp [Addr.add]
theorem At.c0 {w : World} {ad : Addr} {c0 : Value} {r : List Value} (h : At w ad (c0 :: r)) : w.cell? ad = some c0 := by have := h 0 c0 rfl; rwa [add0] at this
theorem At.c1 {w : World} {ad : Addr} {c0 c1 : Value} {r : List Value} (h : At w ad (c0 :: c1 :: r)) : w.cell? ⟨ad.block, ad.off + 1, none⟩ = some c1 := by have := h 1 c1 rfl; rwa [addS] at this
theorem At.c2 {w : World} {ad : Addr} {c0 c1 c2 : Value} {r : List Value} (h : At w ad (c0 :: c1 :: c2 :: r)) : w.cell? ⟨ad.block, ad.off + 2, none⟩ = some c2 := by have := h 2 c2 rfl; rwa [addS] at this
theorem At.c3 {w : World} {ad : Addr} {c0 c1 c2 c3 : Value} {r : List Value} (h : At w ad (c0 :: c1 :: c2 :: c3 :: r)) : w.cell? ⟨ad.block, ad.off + 3, none⟩ = some c3 := by have := h 3 c3 rfl; rwa [addS] at this
theorem At.c4 {w : World} {ad : Addr} {c0 c1 c2 c3 c4 : Value} {r : List Value} (h : At w ad (c0 :: c1 :: c2 :: c3 :: c4 :: r)) : w.cell? ⟨ad.block, ad.off + 4, none⟩ = some c4 := by have := h 4 c4 rfl; rwa [addS] at this
theorem At.c5 {w : World} {ad : Addr} {c0 c1 c2 c3 c4 c5 : Value} {r : List Value} (h : At w ad (c0 :: c1 :: c2 :: c3 :: c4 :: c5 :: r)) : w.cell? ⟨ad.block, ad.off + 5, none⟩ = some c5 := by have := h 5 c5 rfl; rwa [addS] at this

theorem bcell {W w1 : World} (hb : Below W.heap.size W w1) : (∀ b o, b < W.heap.size → w1.cell? ⟨b, o, none⟩ = W.cell? ⟨b, o, none⟩) ∧ (∀ b o, b < W.heap.size → w1.frozen? ⟨b, o, none⟩ = W.frozen? ⟨b, o, none⟩) :=
  ⟨fun b o h => hb.cell (p := ⟨b, o, none⟩) h, fun b o h => hb.frozen (p := ⟨b, o, none⟩) h⟩
theorem below_size {B : Nat} {a w : World} (h : Below B a w) (hB : B ≤ a.heap.size) : B ≤ w.heap.size := Nat.le_trans hB h.size
/-- Behind a call. -/
theorem below_call {B : Nat} {a w w1 : World} (h : Below B a w) (hB : B ≤ a.heap.size) (k : Below w.heap.size w w1) : Below B a w1 := h.trans (k.mono (below_size h hB))
@[go_sem] theorem cell_alloc_drewN (w : World) (o : Obj) (m n i : Nat) (hn : n < w.heap.size) : ((w.drewN m).alloc o).cell? ⟨n, i, none⟩ = w.cell? ⟨n, i, none⟩ := World.cell?_alloc_past (w := w.drewN m) o n i hn
@[go_sem] theorem frozen_alloc_drewN (w : World) (o : Obj) (m n i : Nat) (hn : n < w.heap.size) : ((w.drewN m).alloc o).frozen? ⟨n, i, none⟩ = w.frozen? ⟨n, i, none⟩ := (((Below.refl _ (w.drewN m)).alloc (Nat.le_refl _) o).frozen (p := ⟨n, i, none⟩) hn)
@[go_sem] theorem cell_alloc2_drewN (w : World) (o o2 : Obj) (m n i : Nat) (hn : n < w.heap.size) : (((w.drewN m).alloc o).alloc o2).cell? ⟨n, i, none⟩ = w.cell? ⟨n, i, none⟩ := ((((Below.refl _ (w.drewN m)).alloc (Nat.le_refl _) o).alloc (by simp) o2).cell (p := ⟨n, i, none⟩) hn)
/-! ### slices that are read -/
def RdF {α : Type} (enc : α → List Value) (sz : Nat) (w : World) (A : Option Addr) (l : List α) : Prop := ∀ i x, l[i]? = some x → ∃ ad, A = some ad ∧ At w (ad.add (i * sz)) (enc x)
theorem RdF.below {α : Type} {enc : α → List Value} {sz : Nat} {w w' : World} {A : Option Addr} {l : List α} (h : RdF enc sz w A l) (hb : Below w.heap.size w w') : RdF enc sz w' A l := fun i x hx => by
  obtain ⟨ad, e, ha⟩ := h i x hx
  exact ⟨ad, e, ha.below hb⟩
/-- A slice's value that reads as l. -/
def RdS {α : Type} (enc : α → List Value) (sz : Nat) (w : World) (v : Value) (l : List α) : Prop := ∃ A c, v = .slice A l.length c ∧ l.length ≤ c ∧ c ≤ 9223372036854775807 ∧ RdF enc sz w A l
theorem RdS.below {α : Type} {enc : α → List Value} {sz : Nat} {w w' : World} {v : Value} {l : List α} (h : RdS enc sz w v l) (hb : Below w.heap.size w w') : RdS enc sz w' v l := by
  obtain ⟨A, c, e, h1, h2, h3⟩ := h
  exact ⟨A, c, e, h1, h2, h3.below hb⟩
/-- An int of a row that is read, at an index of the walk's. -/
theorem RdF.int {w : World} {A : Option Addr} {l : List Int} (h : RdF encI 1 w A l) {k : Nat} {x : Int} (hk : l[k]? = some x) : ∃ ad, A = some ad ∧ w.cell? (ad.add k) = some (.int .i64 x) := by
  obtain ⟨ad, e, ha⟩ := h k x hk
  rw [Nat.mul_one] at ha
  exact ⟨ad, e, ha.c0⟩
/-- Tables that are read. -/
def RdT (es : Nat) (w : World) (A : Option Addr) (l : List T) : Prop := ∀ i t, l[i]? = some t → ∃ ad s f, A = some ad ∧ At w (ad.add (i * 2)) [s, f] ∧ RdS encH 6 w s t.f0 ∧ RdS encI 1 w f t.f1
theorem RdT.below {es : Nat} {w w' : World} {A : Option Addr} {l : List T} (h : RdT es w A l) (hb : Below w.heap.size w w') : RdT es w' A l := fun i x hx => by
  obtain ⟨ad, s, f, e, ha, h1, h2⟩ := h i x hx
  exact ⟨ad, s, f, e, ha.below hb, h1.below hb, h2.below hb⟩
def RdTs (w : World) (v : Value) (l : List T) : Prop := ∃ A c, v = .slice A l.length c ∧ l.length ≤ c ∧ c ≤ 9223372036854775807 ∧ RdT 0 w A l
theorem RdTs.below {w w' : World} {v : Value} {l : List T} (h : RdTs w v l) (hb : Below w.heap.size w w') : RdTs w' v l := by
  obtain ⟨A, c, e, h1, h2, h3⟩ := h
  exact ⟨A, c, e, h1, h2, h3.below hb⟩
structure RdW (w : World) (v0 v1 v2 v3 : Value) (m : Wd) : Prop where
  things : RdS encTh 2 w v0 m.f0
  tables : RdTs w v1 m.f1
  calls : RdS encL 4 w v2 m.f2
  ended : RdS encI 1 w v3 m.f3
theorem RdW.below {w w' : World} {v0 v1 v2 v3 : Value} {m : Wd} (h : RdW w v0 v1 v2 v3 m) (hb : Below w.heap.size w w') : RdW w' v0 v1 v2 v3 m :=
  ⟨h.things.below hb, h.tables.below hb, h.calls.below hb, h.ended.below hb⟩

/-! ### ends of walks -/
theorem ret_b {a b : Bool} (h : a = b) : Ending.returned (.bool a) = .returned (.bool b) := by rw [h]
theorem ret_f {b : Bool} {p : Prop} (hb : b = true ↔ p) (h : ¬ p) : Ending.returned (.bool false) = .returned (.bool b) := by
  cases b with
  | false => rfl
  | true => exact absurd (hb.1 rfl) h
theorem ret_t {b : Bool} {p : Prop} (hb : b = true ↔ p) (h : p) : Ending.returned (.bool true) = .returned (.bool b) := by rw [hb.2 h]
/-- A block known whole. -/
def Blk (w : World) (b : Nat) (cs : Array Value) (e : TypeId) : Prop := w.heap[b]? = some (.cells cs e (0, 0))
theorem Blk.cell {w : World} {b : Nat} {cs : Array Value} {e : TypeId} (h : Blk w b cs e) (j : Nat) : w.cell? ⟨b, j, none⟩ = cs[j]? := cell_of_row _ _ j _ _ _ h
theorem Blk.frozen {w : World} {b : Nat} {cs : Array Value} {e : TypeId} (h : Blk w b cs e) (j : Nat) : w.frozen? ⟨b, j, none⟩ = false := frozen_of_row _ _ j _ _ h
theorem Blk.lt {w : World} {b : Nat} {cs : Array Value} {e : TypeId} (h : Blk w b cs e) : b < w.heap.size := (Array.getElem?_eq_some_iff.1 h).1
theorem Blk.below {w w' : World} {b : Nat} {cs : Array Value} {e : TypeId} (h : Blk w b cs e) (hb : Below w.heap.size w w') : Blk w' b cs e := (hb.block b h.lt).trans h
theorem Blk.alloc {w : World} {b : Nat} {cs : Array Value} {e : TypeId} (h : Blk w b cs e) (o : Obj) : Blk (w.alloc o) b cs e := (Below.heap_alloc w o b h.lt).trans h
theorem Blk.new (w : World) (cs : Array Value) (e : TypeId) : Blk (w.alloc (.cells cs e)) w.heap.size cs e := heap_alloc_new w _
theorem Blk.far {w : World} {b : Nat} {cs : Array Value} {e : TypeId} (h : Blk w b cs e) {p : Addr} (hp : b ≠ p.block) (u : Value) : Blk (w.setCell p u) b cs e := (Below.heap_setCell w p u b hp).trans h
theorem Blk.set {w : World} {b : Nat} {cs : Array Value} {e : TypeId} (h : Blk w b cs e) (j : Nat) (u : Value) : Blk (w.setCell ⟨b, j, none⟩ u) b (cs.setIfInBounds j u) e := by
  unfold Blk at *
  simp [World.setCell, Array.getElem?_modify, h]
end Go.Proofs.Ytidkmlolcfapdaa
