import Derived.Test.YtidkmlolcfapdaaEq
import Derived.DeepKeys3
set_option linter.unusedVariables false
set_option linter.unusedSimpArgs false
/-! A map whose keys are two ints (type 136), made by the call. -/
namespace Go.Proofs.Ytidkmlolcfapdaa
open Go.RowKit
abbrev key (p k : Int) : Value := .agg #[.int .i64 p, .int .i64 k]
theorem eqKey_run (d : Nat) (w : World) (p k p' k' : Int) : (Op.equalIn (d + 2) 136 (key p k) (key p' k')).run Try.prog w = .ok (decide (p = p' ∧ k = k')) w := by
  have e : (decide (p = p' ∧ k = k')) = (p == p' && (k == k' && true)) := by
    rw [Bool.eq_iff_iff]; simp
  rw [e]
  refine eqs_of Try.underlying136 (by kernel_rfl) ?_
  refine eqs_cons (by rfl) (by go_simp; rfl) (by go_simp; rfl) (by go_simp) fun _ => ?_
  refine eqs_cons (by rfl) (by go_simp; rfl) (by go_simp; rfl) (by go_simp) fun _ => ?_
  exact eqs_nil
structure E where
  (p k : Int) (v : Value) (b : Nat)
def E.ent (e : E) : MapEntry := { key := key e.p e.k, val := e.v, born := e.b }
def findI (p k : Int) : List E → Nat → Option (Nat × Value)
  | [], _ => none
  | e :: r, i => if p = e.p ∧ k = e.k then some (i, e.v) else findI p k r (i + 1)
theorem run_findAsking (p k : Int) (w : World) : ∀ (l : List E) (i : Nat), (Instr.findAsking 136 (key p k) (l.map E.ent) i).run Try.prog w = .ok (findI p k l i) w
  | [], i => by simp [Instr.findAsking, findI]
  | e :: r, i => by
    have h := eqKey_run 9998 w p k e.p e.k
    simp only [List.map_cons, Instr.findAsking, Op.equal, Op.maxDepth, E.ent, Sem.run_bind, h, Result.andThen_ok, findI]
    by_cases c : p = e.p ∧ k = e.k
    · simp [c]
    · simp only [c, decide_false, Bool.false_eq_true, if_false]
      exact run_findAsking p k w r (i + 1)
theorem run_findKey (p k : Int) (w : World) (l : List E) : (Instr.findKey 136 (key p k) (l.map E.ent)).run Try.prog w = .ok (findI p k l 0) w := by
  have hu : (underlying 136).run Try.prog w = .ok _ w := run_underlying Try.underlying136 w
  unfold Instr.findKey
  rw [Sem.run_bind, hu, Result.andThen_ok]
  cases l with
  | nil => simp [Instr.findNow, findI]
  | cons e r =>
    simp only [List.map_cons, Instr.findNow, Instr.sameNow, E.ent]
    exact run_findAsking p k w (e :: r) 0
theorem run_checkKey_int (b : Bool) (n : Nat) (x : Int) (w : World) : (Instr.checkKey b (n + 1) 3 (.int .i64 x)).run Try.prog w = .ok () w := by
  simp [Instr.checkKey, run_underlying Try.underlying3]
theorem run_checkKey (b : Bool) (p k : Int) (w : World) : (Instr.checkKey b 10000 136 (key p k)).run Try.prog w = .ok () w := by
  have h1 := run_checkKey_int b 9998 p w
  have h2 := run_checkKey_int b 9998 k w
  have q1 : (part 3 #[.int .i64 p, .int .i64 k] 0).run Try.prog w = .ok (.int .i64 p) w := by go_simp
  have q2 : (part 3 #[.int .i64 p, .int .i64 k] 1).run Try.prog w = .ok (.int .i64 k) w := by go_simp
  unfold Instr.checkKey
  simp only [Sem.run_bind, run_underlying Try.underlying136, Result.andThen_ok]
  simp [h1, h2, q1, q2, Sem.run_bind]
/-- What the map holds at a key. -/
def getv (l : List E) (p k : Int) : Option Value := (findI p k l 0).map (·.2)
theorem findI_shift (p k : Int) : ∀ (l : List E) (i j : Nat), (findI p k l (i + j)) = (findI p k l i).map (fun x => (x.1 + j, x.2))
  | [], i, j => rfl
  | e :: r, i, j => by
    simp only [findI]
    split
    · simp
    · rw [show i + j + 1 = (i + 1) + j by omega, findI_shift p k r (i + 1) j]
theorem findI_some {p k : Int} {v : Value} : ∀ {l : List E} {i n : Nat}, findI p k l i = some (n, v) → ∃ j, n = i + j ∧ ∃ e, l[j]? = some e ∧ e.p = p ∧ e.k = k ∧ e.v = v
  | [], i, n, h => by simp [findI] at h
  | e :: r, i, n, h => by
    simp only [findI] at h
    by_cases c : p = e.p ∧ k = e.k
    · rw [if_pos c] at h
      simp only [Option.some.injEq, Prod.mk.injEq] at h
      exact ⟨0, by omega, e, rfl, c.1.symm, c.2.symm, h.2⟩
    · rw [if_neg c] at h
      obtain ⟨j, hn, e', he⟩ := findI_some h
      exact ⟨j + 1, by omega, e', by simpa using he⟩
theorem getv_cons (e : E) (r : List E) (p k : Int) : getv (e :: r) p k = if p = e.p ∧ k = e.k then some e.v else getv r p k := by
  unfold getv
  simp only [findI]
  split
  · rfl
  · rw [findI_shift p k r 0 1, Option.map_map]
    rfl
theorem getv_push (l : List E) (e : E) (p k : Int) (h : getv l e.p e.k = none) : getv (l ++ [e]) p k = if p = e.p ∧ k = e.k then some e.v else getv l p k := by
  induction l with
  | nil => simp [getv_cons, getv, findI]
  | cons a r ih =>
    rw [List.cons_append, getv_cons, getv_cons]
    rw [getv_cons] at h
    by_cases c : e.p = a.p ∧ e.k = a.k
    · rw [if_pos c] at h; cases h
    · rw [if_neg c] at h
      rw [ih h]
      by_cases c2 : p = a.p ∧ k = a.k
      · rw [if_pos c2, if_pos c2, if_neg]
        rintro ⟨rfl, rfl⟩
        exact c c2
      · rw [if_neg c2, if_neg c2]
theorem getv_modify (v : Value) : ∀ (l : List E) (i j : Nat) (p k p' k' : Int) (u : Value), findI p k l i = some (i + j, u) → getv (l.modify j (fun e => { e with v := v })) p' k' = if p' = p ∧ k' = k then some v else getv l p' k'
  | [], i, j, p, k, p', k', u, h => by simp [findI] at h
  | e :: r, i, j, p, k, p', k', u, h => by
    simp only [findI] at h
    by_cases c : p = e.p ∧ k = e.k
    · rw [if_pos c] at h
      simp only [Option.some.injEq, Prod.mk.injEq] at h
      obtain rfl : j = 0 := by omega
      obtain ⟨rfl, rfl⟩ := c
      simp only [List.modify_zero_cons, getv_cons]
      split <;> simp_all
    · rw [if_neg c] at h
      obtain ⟨j', hj, _⟩ := findI_some h
      obtain ⟨m, rfl⟩ : ∃ m, j = m + 1 := ⟨j - 1, by omega⟩
      rw [List.modify_succ_cons, getv_cons, getv_cons, getv_modify v r (i + 1) m p k p' k' u (by rw [h]; congr 2; omega)]
      by_cases c2 : p' = e.p ∧ k' = e.k
      · rw [if_pos c2, if_pos c2, if_neg]
        rintro ⟨rfl, rfl⟩
        exact c c2
      · rw [if_neg c2, if_neg c2]
/-- Block b is a map that holds f. -/
def MapR (w : World) (b : Nat) (f : Int → Int → Option Value) : Prop :=
  ∃ (l : List E) (clock : Nat), w.heap[b]? = some (.map (l.map E.ent).toArray clock) ∧ (∀ e ∈ l, e.b < clock) ∧ (l.map E.b).Nodup ∧ ∀ p k, getv l p k = f p k
theorem MapR.block {w w' : World} {b : Nat} {f : Int → Int → Option Value} (h : MapR w b f) (hb : w'.heap[b]? = w.heap[b]?) : MapR w' b f := by
  obtain ⟨l, c, h1, h2⟩ := h
  exact ⟨l, c, hb.trans h1, h2⟩
theorem MapR.lt {w : World} {b : Nat} {f : Int → Int → Option Value} (h : MapR w b f) : b < w.heap.size := by
  obtain ⟨l, c, h1, h2⟩ := h
  exact (Array.getElem?_eq_some_iff.1 h1).1
theorem run_getObj_map {w : World} {b : Nat} {es : Array MapEntry} {c : Nat} (h : w.heap[b]? = some (.map es c)) : (getObj b).run Try.prog w = .ok (.map es c) w := by
  simp [getObj, Sem.run, h]
theorem MapR.lookup {w : World} {b : Nat} {f : Int → Int → Option Value} (h : MapR w b f) (t e : TypeId) (z : Value) (p k : Int) (ht : Try.prog.underlying t = some (.map 136 e)) (hz : (zeroValue e).run Try.prog w = .ok z w) :
    (Instr.lookup t (.map (some b)) (key p k) false).run Try.prog w = .ok ((f p k).getD z) w := by
  obtain ⟨l, c, h1, h2, h3, h4⟩ := h
  rw [← h4 p k]
  have hu : (underlying t).run Try.prog w = .ok _ w := run_underlying ht w
  unfold Instr.lookup
  simp only [Sem.run_bind, hu, Result.andThen_ok, run_getObj_map h1, run_checkKey, Sem.run_pure]
  have hf := run_findKey p k w l
  simp only [hf, Result.andThen_ok]
  unfold getv
  cases hh : findI p k l 0 with
  | none => simp [hz]
  | some x => simp
theorem sameBits_key (n : Nat) (p k : Int) : Instr.sameBits (n + 1) (key p k) (key p k) = true := by
  simp [Instr.sameBits]
theorem keyStays (p k : Int) (w : World) : (Instr.keyThatStays (key p k) (key p k)).run Try.prog w = .ok (key p k) w := by
  unfold Instr.keyThatStays
  rw [if_pos (sameBits_key 9999 p k)]
  rfl
def setW (w : World) (b : Nat) (o : Obj) : World := { w with heap := w.heap.setIfInBounds b o }
theorem run_setObj {w : World} {b : Nat} {o : Obj} {es : Array MapEntry} {c : Nat} (h : w.heap[b]? = some (.map es c)) : (setObj b o).run Try.prog w = .ok () (setW w b o) := by
  simp [setObj, Sem.run, h, setW]
theorem grown_setObj (w : World) (b : Nat) (o : Obj) : w.grownBy (setW w b o) (some b) :=
  ⟨rfl, rfl, rfl, by simp [setW], fun i hi hne => by unfold setW; exact Array.getElem?_setIfInBounds_ne (fun e => hne (by rw [e]))⟩
theorem modify_ents (l : List E) (j : Nat) (g : MapEntry → MapEntry) (g' : E → E) (h : ∀ e, l[j]? = some e → g e.ent = (g' e).ent) : (l.map E.ent).toArray.modify j g = ((l.modify j g').map E.ent).toArray := by
  apply Array.ext'
  simp only [Array.toList_modify]
  apply List.ext_getElem?
  intro i
  rw [List.getElem?_modify, List.getElem?_map, List.getElem?_map, List.getElem?_modify]
  by_cases e : j = i
  · subst e
    cases hh : l[j]? with
    | none => simp
    | some x => simp [h x hh]
  · simp [e]
theorem map_b_modify (l : List E) (j : Nat) (g : E → E) (h : ∀ e, (g e).b = e.b) : (l.modify j g).map E.b = l.map E.b := by
  apply List.ext_getElem?
  intro i
  rw [List.getElem?_map, List.getElem?_map, List.getElem?_modify]
  by_cases e : j = i
  · subst e
    cases hh : l[j]? with
    | none => simp
    | some x => simp [h]
  · simp [e]
theorem heap_set_self {w : World} {b : Nat} {o : Obj} (h : b < w.heap.size) : (setW w b o).heap[b]? = some o := by simp [setW, h]
def updf (f : Int → Int → Option Value) (p k : Int) (v : Value) : Int → Int → Option Value := fun p' k' => if p' = p ∧ k' = k then some v else f p' k'
theorem lt_modify {l : List E} {clock j : Nat} {g : E → E} (h : ∀ e ∈ l, e.b < clock) (hg : ∀ e, (g e).b = e.b) : ∀ e ∈ l.modify j g, e.b < clock := by
  intro e he
  have h1 : e.b ∈ (l.modify j g).map E.b := List.mem_map_of_mem he
  rw [map_b_modify l j g hg] at h1
  obtain ⟨x, hx, hxe⟩ := List.mem_map.1 h1
  rw [← hxe]; exact h x hx
/-- m[key] = v. -/
theorem MapR.update {w : World} {b : Nat} {f : Int → Int → Option Value} (h : MapR w b f) (t e : TypeId) (p k : Int) (v : Value) (ht : Try.prog.underlying t = some (.map 136 e)) :
    ∃ w', (Instr.mapUpdate t (.map (some b)) (key p k) v).run Try.prog w = .ok () w' ∧ MapR w' b (updf f p k v) ∧ w.grownBy w' (some b) := by
  have hlt := h.lt
  obtain ⟨l, c, h1, h2, h3, h4⟩ := h
  have hu : (underlying t).run Try.prog w = .ok _ w := run_underlying ht w
  have hf := run_findKey p k w l
  cases hh : findI p k l 0 with
  | none =>
    rw [hh] at hf
    refine ⟨setW w b (.map ((l.map E.ent).toArray.push { key := key p k, val := v, born := c }) (c + 1)), ?_, ⟨l ++ [⟨p, k, v, c⟩], c + 1, ?_, ?_, ?_, ?_⟩, grown_setObj w b _⟩
    · unfold Instr.mapUpdate
      simp only [Sem.run_bind, hu, Result.andThen_ok, run_getObj_map h1, run_checkKey, hf]
      exact run_setObj h1
    · rw [heap_set_self hlt]
      simp [E.ent]
    · intro x hx
      rcases List.mem_append.1 hx with hx | hx
      · have := h2 x hx; omega
      · rw [List.mem_singleton.1 hx]; simp
    · rw [List.map_append, List.nodup_append]
      refine ⟨h3, by simp, fun a ha b' hb => ?_⟩
      obtain ⟨x, hx, rfl⟩ := List.mem_map.1 ha
      simp at hb
      subst hb
      have := h2 x hx
      omega
    · intro p' k'
      rw [getv_push _ _ _ _ (by simp [getv, hh])]
      simp [updf, h4]
  | some x =>
    obtain ⟨j, u⟩ := x
    obtain ⟨j', hj', en, hen, hp, hk, hv⟩ := findI_some hh
    obtain rfl : j = j' := by omega
    rw [hh] at hf
    have hkey : ((((l.map E.ent).toArray[j]?).map (·.key)).getD (key p k)) = key p k := by
      simp [hen, E.ent, hp, hk]
    refine ⟨setW w b (.map ((l.map E.ent).toArray.modify j fun e => { e with key := key p k, val := v }) c), ?_, ⟨l.modify j (fun e => { e with v := v }), c, ?_, ?_, ?_, ?_⟩, grown_setObj w b _⟩
    · unfold Instr.mapUpdate
      simp only [Sem.run_bind, hu, Result.andThen_ok, run_getObj_map h1, run_checkKey, hf, hkey, keyStays]
      exact run_setObj h1
    · rw [heap_set_self hlt, modify_ents l j _ (fun e => { e with v := v }) (fun e he => by
        rw [hen] at he
        obtain rfl := Option.some.inj he
        simp [E.ent, hp, hk])]
    · exact lt_modify h2 (fun _ => rfl)
    · rw [map_b_modify _ _ (fun e => { e with v := v }) (fun _ => rfl)]; exact h3
    · intro p' k'
      rw [getv_modify v l 0 j p k p' k' u (by rw [hh]; simp)]
      simp [updf, h4]
/-- The place of an entry. -/
def EntR (w : World) (b : Nat) (f : Int → Int → Option Value) (p k : Int) (st : Nat) : Prop :=
  ∃ (l : List E) (clock j : Nat) (u : Value) (e : E), w.heap[b]? = some (.map (l.map E.ent).toArray clock) ∧ (∀ e ∈ l, e.b < clock) ∧ (l.map E.b).Nodup ∧ (∀ p k, getv l p k = f p k) ∧ findI p k l 0 = some (j, u) ∧ l[j]? = some e ∧ e.b = st
theorem EntR.map {w : World} {b : Nat} {f : Int → Int → Option Value} {p k : Int} {st : Nat} (h : EntR w b f p k st) : MapR w b f := by
  obtain ⟨l, c, j, u, e, h1, h2, h3, h4, _⟩ := h
  exact ⟨l, c, h1, h2, h3, h4⟩
theorem MapR.entry {w : World} {b : Nat} {f : Int → Int → Option Value} (h : MapR w b f) (t e : TypeId) (z : Value) (p k : Int) (ht : Try.prog.underlying t = some (.map 136 e)) (hz : (zeroValue e).run Try.prog w = .ok z w) :
    ∃ w' st, (Instr.mapEntry t (.map (some b)) (key p k)).run Try.prog w = .ok (.tuple #[(f p k).getD z, goInt (st : Nat)]) w' ∧ EntR w' b (updf f p k ((f p k).getD z)) p k st ∧ w.grownBy w' (some b) := by
  have hlt := h.lt
  obtain ⟨l, c, h1, h2, h3, h4⟩ := h
  have hu : (underlying t).run Try.prog w = .ok _ w := run_underlying ht w
  have hf := run_findKey p k w l
  have hfv : f p k = getv l p k := (h4 p k).symm
  cases hh : findI p k l 0 with
  | none =>
    rw [hh] at hf
    have hfn : f p k = none := by rw [hfv]; simp [getv, hh]
    refine ⟨setW w b (.map ((l.map E.ent).toArray.push { key := key p k, val := z, born := c }) (c + 1)), c, ?_, ⟨l ++ [⟨p, k, z, c⟩], c + 1, l.length, z, ⟨p, k, z, c⟩, ?_, ?_, ?_, ?_, ?_, by simp, rfl⟩, grown_setObj w b _⟩
    · unfold Instr.mapEntry
      simp only [Sem.run_bind, hu, Result.andThen_ok, run_getObj_map h1, run_checkKey, hf, hz, run_setObj h1, hfn]
      rfl
    · rw [heap_set_self hlt]
      simp [E.ent]
    · intro x hx
      rcases List.mem_append.1 hx with hx | hx
      · have := h2 x hx; omega
      · rw [List.mem_singleton.1 hx]; simp
    · rw [List.map_append, List.nodup_append]
      refine ⟨h3, by simp, fun a ha b' hb => ?_⟩
      obtain ⟨x, hx, rfl⟩ := List.mem_map.1 ha
      simp at hb
      subst hb
      have := h2 x hx
      omega
    · intro p' k'
      rw [getv_push _ _ _ _ (by simp [getv, hh])]
      simp [updf, h4, hfn]
    · have : ∀ (l : List E) (i : Nat), findI p k l i = none → findI p k (l ++ [⟨p, k, z, c⟩]) i = some (i + l.length, z) := by
        intro l
        induction l with
        | nil => intro i _; simp [findI]
        | cons a r ih =>
          intro i hn
          simp only [findI] at hn
          split at hn
          · cases hn
          · rename_i hc
            simp only [List.cons_append, findI, if_neg hc]
            rw [ih (i + 1) hn]
            simp; omega
      have h5 := this l 0 hh
      rw [Nat.zero_add] at h5
      exact h5
  | some x =>
    obtain ⟨j, u⟩ := x
    obtain ⟨j', hj', en, hen, hp, hk, hv⟩ := findI_some hh
    obtain rfl : j = j' := by omega
    rw [hh] at hf
    have hfn : f p k = some u := by rw [hfv]; simp [getv, hh]
    have hkey : ((((l.map E.ent).toArray[j]?).map (·.key)).getD (key p k)) = key p k := by
      simp [hen, E.ent, hp, hk]
    have hb : ((((l.map E.ent).toArray[j]?).map (fun x => (x.born : Int))).getD 0) = (en.b : Int) := by
      simp [hen, E.ent]
    refine ⟨setW w b (.map ((l.map E.ent).toArray.modify j fun e => { e with key := key p k }) c), en.b, ?_, ⟨l, c, j, u, en, ?_, h2, h3, ?_, hh, hen, rfl⟩, grown_setObj w b _⟩
    · unfold Instr.mapEntry
      simp only [Sem.run_bind, hu, Result.andThen_ok, run_getObj_map h1, run_checkKey, hf, hkey, keyStays, run_setObj h1, hfn, hb]
      rfl
    · have hid : l.modify j (fun e => e) = l := by
        apply List.ext_getElem?
        intro i
        rw [List.getElem?_modify]
        split <;> simp
      rw [heap_set_self hlt, modify_ents l j _ (fun e => e) (fun e he => by
        rw [hen] at he
        obtain rfl := Option.some.inj he
        simp [E.ent, hp, hk]), hid]
    · intro p' k'
      rw [h4 p' k', hfn]
      unfold updf
      split
      · rename_i c; rw [c.1, c.2, hfn]; rfl
      · rfl
theorem EntR.store {w : World} {b : Nat} {f : Int → Int → Option Value} {p k : Int} {st : Nat} (h : EntR w b f p k st) (t : TypeId) (v : Value) (hst : (asInt (goInt (st : Nat))).run Try.prog w = .ok (st : Int) w) :
    ∃ w', (Instr.entryStore t (.map (some b)) (goInt (st : Nat)) v).run Try.prog w = .ok () w' ∧ MapR w' b (updf f p k v) ∧ w.grownBy w' (some b) := by
  have hlt := h.map.lt
  obtain ⟨l, c, j, u, en, h1, h2, h3, h4, hh, hen, rfl⟩ := h
  have hidx : (l.map E.ent).toArray.findIdx? (fun e => (e.born : Int) == (en.b : Int)) = some j := by
    rw [List.findIdx?_toArray, List.findIdx?_map, List.findIdx?_eq_some_iff_getElem]
    obtain ⟨hj, he⟩ := List.getElem?_eq_some_iff.1 hen
    refine ⟨hj, by simp [he, E.ent], fun i hi => ?_⟩
    simp only [Function.comp, E.ent, beq_iff_eq]
    intro hc
    have : (l.map E.b)[i]'(by simp; omega) = (l.map E.b)[j]'(by simp; omega) := by
      simp [he]; omega
    rw [List.getElem_inj h3] at this
    omega
  refine ⟨setW w b (.map ((l.map E.ent).toArray.modify j fun e => { e with val := v }) c), ?_, ⟨l.modify j (fun e => { e with v := v }), c, ?_, lt_modify h2 (fun _ => rfl), ?_, ?_⟩, grown_setObj w b _⟩
  · unfold Instr.entryStore
    simp only [Sem.run_bind, Result.andThen_ok, run_getObj_map h1, hst, hidx]
    exact run_setObj h1
  · rw [heap_set_self hlt, modify_ents l j _ (fun e => { e with v := v }) (fun e he => rfl)]
  · rw [map_b_modify _ _ (fun e => { e with v := v }) (fun _ => rfl)]; exact h3
  · intro p' k'
    rw [getv_modify v l 0 j p k p' k' u (by rw [hh]; simp)]
    simp [updf, h4]
end Go.Proofs.Ytidkmlolcfapdaa
