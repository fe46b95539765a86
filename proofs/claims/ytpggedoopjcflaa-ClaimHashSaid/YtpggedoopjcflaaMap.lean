/- Maps of the call's own: what a look-up, a store and a range do, told as lists of pairs. -/
import Derived.Maps.RangeRun
import Derived.Maps.RangeWalk
import Derived.Maps.OwnOps
import Derived.WalkKit
import Derived.Carry
set_option linter.unusedSectionVars false
namespace Go.Proofs.Ytpggedoopjcflaa.Map
open Go Go.RowKit
open Go.ChangeMaps (setBlock)
section
variable {P : Program} {κ : Type} [DecidableEq κ]
def ent (enc : κ → Value) (y : κ × Value × Nat) : MapEntry := ⟨enc y.1, y.2.1, y.2.2⟩
def look (x : κ) : List (κ × Value × Nat) → Nat → Option (Nat × Value)
  | [], _ => none
  | y :: r, i => if y.1 = x then some (i, y.2.1) else look x r (i + 1)
/-- What is asked of a key's type. -/
structure KeyIs (P : Program) (k : TypeId) (enc : κ → Value) : Prop where
  check : ∀ (w : World) (em : Bool) (x : κ), (Instr.checkKey em 10000 k (enc x)).run P w = .ok () w
  find : ∀ (w : World) (x : κ) (ys : List (κ × Value × Nat)), (Instr.findKey k (enc x) (ys.map (ent enc))).run P w = .ok (look x ys 0) w
  stays : ∀ (w : World) (x : κ), (Instr.keyThatStays (enc x) (enc x)).run P w = .ok (enc x) w
theorem int_key {k : TypeId} {q : IntKind} (hk : P.underlying k = some (.int q)) : KeyIs P k (fun x : Int => Value.int q x) where
  check w em x := by
    unfold Instr.checkKey
    simp [run_underlying hk, Result.andThen]
  find w x ys := by
    have h : ∀ (ys : List (Int × Value × Nat)) (i : Nat), Instr.findNow (.int q) (.int q x) (ys.map (ent fun x : Int => Value.int q x)) i = some (look x ys i) := by
      intro ys
      induction ys with
      | nil => intro i; rfl
      | cons y r ih =>
        intro i
        rw [List.map_cons, Instr.findNow]
        by_cases e : y.1 = x
        · simp [ent, Instr.sameNow, look, e]
        · have e' : (x == y.1) = false := by simpa using fun h : x = y.1 => e h.symm
          simp only [ent, Instr.sameNow, look, e, if_true, if_false, e']
          exact ih (i + 1)
    simp [Instr.findKey, run_underlying hk, Result.andThen, h ys 0]
  stays w x := by simp [Instr.keyThatStays, Instr.sameBits]
theorem struct_key {k : TypeId} {fs : Array Field} (hk : P.underlying k = some (.struct fs)) {enc : κ → Value} (hc : ∀ (w : World) (em : Bool) (x : κ), (Instr.checkKey em 10000 k (enc x)).run P w = .ok () w)
    (he : ∀ (w : World) (x y : κ), (Op.equal k (enc x) (enc y)).run P w = .ok (decide (x = y)) w) (hs : ∀ x : κ, Instr.sameBits 10000 (enc x) (enc x) = true) : KeyIs P k enc where
  check := hc
  find w x ys := by
    have h : ∀ (ys : List (κ × Value × Nat)) (i : Nat), (Instr.findAsking k (enc x) (ys.map (ent enc)) i).run P w = .ok (look x ys i) w := by
      intro ys
      induction ys with
      | nil => intro i; rfl
      | cons y r ih =>
        intro i
        rw [List.map_cons, Instr.findAsking]
        by_cases e : y.1 = x
        · simp [ent, look, e, he, Result.andThen]
        · have e' : ¬ x = y.1 := fun h => e h.symm
          simp [ent, look, e, e', he, Result.andThen]
          exact ih (i + 1)
    rcases ys with _ | ⟨y, r⟩
    · simp [Instr.findKey, run_underlying hk, Result.andThen, Instr.findNow, look]
    · have hn : Instr.findNow (.struct fs) (enc x) ((y :: r).map (ent enc)) 0 = none := rfl
      simp only [Instr.findKey, Sem.run_bind, run_underlying hk, Result.andThen, hn]
      exact h _ 0
  stays w x := by simp [Instr.keyThatStays, hs]
/-- The value that a list of pairs holds at a key. -/
def get (xs : List (κ × Value)) (x : κ) : Option Value := (xs.find? fun p => decide (p.1 = x)).map (·.2)
/-- The list with another value at a key. -/
def put (x : κ) (v : Value) : List (κ × Value) → List (κ × Value)
  | [] => [(x, v)]
  | p :: r => if p.1 = x then (x, v) :: r else p :: put x v r
def pairs (ys : List (κ × Value × Nat)) : List (κ × Value) := ys.map fun y => (y.1, y.2.1)
/-- Block b is a map that holds the pairs xs, in the order in which their keys came. -/
def MapIs (w : World) (b : Nat) (enc : κ → Value) (xs : List (κ × Value)) : Prop :=
  ∃ (ys : List (κ × Value × Nat)) (clock : Nat), w.heap[b]? = some (.map (ys.map (ent enc)).toArray clock) ∧ pairs ys = xs ∧ (ys.map (·.1)).Nodup ∧ (ys.map (·.2.2)).Nodup ∧ ∀ y ∈ ys, y.2.2 < clock
theorem look_get (x : κ) : ∀ (ys : List (κ × Value × Nat)) (i : Nat), (look x ys i = none ∧ get (pairs ys) x = none) ∨ ∃ j v, look x ys i = some (i + j, v) ∧ get (pairs ys) x = some v
  | [], i => .inl ⟨rfl, rfl⟩
  | y :: r, i => by
    by_cases e : y.1 = x
    · exact .inr ⟨0, y.2.1, by simp [look, e], by simp [pairs, get, e]⟩
    · rcases look_get x r (i + 1) with ⟨h1, h2⟩ | ⟨j, v, h1, h2⟩
      · exact .inl ⟨by simp [look, e, h1], by simpa [pairs, get, e] using h2⟩
      · exact .inr ⟨j + 1, v, by simp only [look, e, if_false, h1]; congr 2; omega, by simpa [pairs, get, e] using h2⟩
def putY (x : κ) (v : Value) : List (κ × Value × Nat) → List (κ × Value × Nat)
  | [] => []
  | y :: r => if y.1 = x then (y.1, v, y.2.2) :: r else y :: putY x v r
theorem look_modify (enc : κ → Value) (x : κ) (v : Value) : ∀ (ys : List (κ × Value × Nat)) (i j : Nat) (u : Value), look x ys i = some (i + j, u) →
    (ys.map (ent enc)).modify j (fun e => { e with key := enc x, val := v }) = (putY x v ys).map (ent enc) ∧ pairs (putY x v ys) = put x v (pairs ys) ∧ ((ys.map (ent enc))[j]?).map (·.key) = some (enc x)
  | [], i, j, u, h => by simp [look] at h
  | y :: r, i, j, u, h => by
    by_cases e : y.1 = x
    · simp only [look, e, if_true, Option.some.injEq, Prod.mk.injEq] at h
      obtain rfl : j = 0 := by omega
      subst e
      refine ⟨by simp [putY, ent], by simp [putY, pairs, put], by simp [ent]⟩
    · simp only [look, e, if_false] at h
      have hij : i + 1 ≤ i + j := by
        have : ∀ (l : List (κ × Value × Nat)) (a b : Nat) (u : Value), look x l a = some (b, u) → a ≤ b := by
          intro l
          induction l with
          | nil => intro a b u h; simp [look] at h
          | cons z l ih =>
            intro a b u h
            by_cases e : z.1 = x
            · simp [look, e] at h; omega
            · simp only [look, e, if_false] at h
              have := ih _ _ _ h
              omega
        exact this _ _ _ _ h
      obtain ⟨j, rfl⟩ : ∃ m, j = m + 1 := ⟨j - 1, by omega⟩
      have ih := look_modify enc x v r (i + 1) j u (by rw [h]; congr 2; omega)
      refine ⟨by simp only [List.map_cons, List.modify_succ_cons, putY, e, if_false, ih.1], ?_, by simpa using ih.2.2⟩
      have h2 := ih.2.1
      simp only [pairs] at h2
      simp [putY, e, pairs, put, h2]
theorem look_none_put (x : κ) (v : Value) (s : Nat) : ∀ (ys : List (κ × Value × Nat)) (i : Nat), look x ys i = none → pairs (ys ++ [(x, v, s)]) = put x v (pairs ys) ∧ ∀ y ∈ ys, y.1 ≠ x
  | [], i, _ => ⟨by simp [pairs, put], fun y hy => by simp at hy⟩
  | y :: r, i, h => by
    by_cases e : y.1 = x
    · simp [look, e] at h
    · simp only [look, e, if_false] at h
      have ih := look_none_put x v s r (i + 1) h
      have h2 := ih.1
      simp only [pairs] at h2
      refine ⟨by simp [pairs, put, e]; simpa using h2, fun z hz => ?_⟩
      rcases List.mem_cons.1 hz with rfl | hz
      · exact e
      · exact ih.2 z hz
theorem putY_keys (x : κ) (v : Value) : ∀ ys : List (κ × Value × Nat), (putY x v ys).map (·.1) = ys.map (·.1) ∧ (putY x v ys).map (·.2.2) = ys.map (·.2.2)
  | [] => ⟨rfl, rfl⟩
  | y :: r => by
    have ih := putY_keys x v r
    by_cases e : y.1 = x
    · simp [putY, e]
    · simp [putY, e, ih.1, ih.2]
theorem putY_lt (x : κ) (v : Value) {c : Nat} {ys : List (κ × Value × Nat)} (h : ∀ y ∈ ys, y.2.2 < c) : ∀ y ∈ putY x v ys, y.2.2 < c := by
  intro y hy
  have : y.2.2 ∈ (putY x v ys).map (·.2.2) := List.mem_map.2 ⟨y, hy, rfl⟩
  rw [(putY_keys x v ys).2] at this
  obtain ⟨z, hz, e⟩ := List.mem_map.1 this
  rw [← e]
  exact h z hz
variable {w : World} {b : Nat} {enc : κ → Value} {xs : List (κ × Value)}
theorem MapIs.lt (h : MapIs w b enc xs) : b < w.heap.size := by
  obtain ⟨ys, c, hb, _⟩ := h
  exact (Array.getElem?_eq_some_iff.1 hb).1
theorem MapIs.move {w' : World} (h : MapIs w b enc xs) (hb : w'.heap[b]? = w.heap[b]?) : MapIs w' b enc xs := by
  obtain ⟨ys, c, h1, h2⟩ := h
  exact ⟨ys, c, hb.trans h1, h2⟩
theorem MapIs.kept {w' : World} {row : Option Nat} (h : MapIs w b enc xs) (hg : w.grownBy w' row) (hne : some b ≠ row) : MapIs w' b enc xs := h.move (hg.block b h.lt hne)
theorem MapIs.alloc (h : MapIs w b enc xs) (o : Obj) : MapIs (w.alloc o) b enc xs := h.kept (World.grownBy_alloc w o none) (by simp)
theorem MapIs.nodup (h : MapIs w b enc xs) : (xs.map (·.1)).Nodup := by
  obtain ⟨ys, c, _, rfl, h2, _⟩ := h
  simpa [pairs, Function.comp_def] using h2
theorem MapIs.made (w : World) (enc : κ → Value) : MapIs (w.alloc (.map #[] 0)) w.heap.size enc [] := ⟨[], 0, (MapKept.heap_alloc w _).1, rfl, by simp, by simp, fun y hy => by simp at hy⟩
theorem MapIs.lookup {t k e : TypeId} (h : MapIs w b enc xs) (K : KeyIs P k enc) (ht : P.underlying t = some (.map k e)) {z : Value} (hz : (zeroValue e).run P w = .ok z w) (x : κ) (ok : Bool) :
    (Instr.lookup t (.map (some b)) (enc x) ok).run P w = .ok (if ok then .tuple #[(get xs x).getD z, .bool (get xs x).isSome] else (get xs x).getD z) w := by
  obtain ⟨ys, c, hb, rfl, _⟩ := h
  have hl := look_get x ys 0
  have hf := K.find w x ys
  have hk := K.check w (ys.map (ent enc)).toArray.isEmpty x
  simp only [Instr.lookup, Sem.run_bind, run_underlying ht, Result.andThen, MapKept.run_getObj_map hb, Sem.run_pure, hk, hf]
  rcases hl with ⟨h1, h2⟩ | ⟨j, v, h1, h2⟩
  · rw [h1, h2]
    simp [hz, Result.andThen]
  · rw [h1, h2]
    simp [Result.andThen]
theorem MapIs.update {t k e : TypeId} (h : MapIs w b enc xs) (K : KeyIs P k enc) (ht : P.underlying t = some (.map k e)) (x : κ) (v : Value) :
    ∃ w', (Instr.mapUpdate t (.map (some b)) (enc x) v).run P w = .ok () w' ∧ MapIs w' b enc (put x v xs) ∧ w.grownBy w' (some b) ∧ w'.heap.size = w.heap.size := by
  obtain ⟨ys, c, hb, rfl, hn1, hn2, hlt⟩ := h
  have hf := K.find w x ys
  have hk := K.check w false x
  have hgrow : ∀ o, w.grownBy (setBlock w b o) (some b) := fun o => ⟨rfl, rfl, rfl, by simp [setBlock], fun i _ hi => ChangeMaps.heap_setBlock_other hb _ (fun e => hi (by rw [e]))⟩
  have hsz : ∀ o, (setBlock w b o).heap.size = w.heap.size := fun o => by simp [setBlock]
  rcases look_get x ys 0 with ⟨h1, _⟩ | ⟨j, u, h1, _⟩
  · refine ⟨setBlock w b (.map ((ys ++ [(x, v, c)]).map (ent enc)).toArray (c + 1)), ?_, ⟨ys ++ [(x, v, c)], c + 1, ChangeMaps.heap_setBlock_same hb _, (look_none_put x v c ys 0 h1).1, ?_, ?_, ?_⟩, hgrow _, hsz _⟩
    · simp only [Instr.mapUpdate, Sem.run_bind, run_underlying ht, Result.andThen, MapKept.run_getObj_map hb, Sem.run_pure, hk, hf, h1, MapKept.run_setObj_map _ hb]
      simp [setBlock, ent]
    · rw [List.map_append, List.nodup_append]
      refine ⟨hn1, by simp, ?_⟩
      intro a ha b' hb'
      obtain ⟨y, hy, rfl⟩ := List.mem_map.1 ha
      simp at hb'
      rw [hb']
      exact (look_none_put x v c ys 0 h1).2 y hy
    · rw [List.map_append, List.nodup_append]
      refine ⟨hn2, by simp, ?_⟩
      intro a ha b' hb'
      obtain ⟨y, hy, rfl⟩ := List.mem_map.1 ha
      simp at hb'
      have := hlt y hy
      omega
    · intro y hy
      rcases List.mem_append.1 hy with hy | hy
      · have := hlt y hy; omega
      · simp at hy; rw [hy]; simp
  · rw [Nat.zero_add] at h1
    have hm := look_modify enc x v ys 0 j u (by rw [Nat.zero_add]; exact h1)
    refine ⟨setBlock w b (.map ((putY x v ys).map (ent enc)).toArray c), ?_, ⟨putY x v ys, c, ChangeMaps.heap_setBlock_same hb _, hm.2.1, ?_, ?_, putY_lt x v hlt⟩, hgrow _, hsz _⟩
    · have h3 : (((ys.map (ent enc)).toArray[j]?).map (·.key)).getD (enc x) = enc x := by
        have := hm.2.2
        rw [List.getElem?_toArray, this]
        rfl
      have h4 : (ys.map (ent enc)).toArray.modify j (fun e => { e with key := enc x, val := v }) = ((putY x v ys).map (ent enc)).toArray := by
        apply Array.ext'
        rw [Array.toList_modify]
        exact hm.1
      have hst := K.stays w x
      simp only [Instr.mapUpdate, Sem.run_bind, run_underlying ht, Result.andThen, MapKept.run_getObj_map hb, Sem.run_pure, hk, hf, h1, h3, hst, h4, MapKept.run_setObj_map _ hb]
      rfl
    · rw [(putY_keys x v ys).1]; exact hn1
    · rw [(putY_keys x v ys).2]; exact hn2
/-- Block r is an iterator over the map b, and what has come are the pairs done. -/
def RangeIs (w : World) (b r : Nat) (enc : κ → Value) (xs done : List (κ × Value)) : Prop :=
  ∃ (ys ds : List (κ × Value × Nat)) (clock since c0 : Nat) (seen : Array Nat), w.heap[b]? = some (.map (ys.map (ent enc)).toArray clock) ∧ pairs ys = xs ∧ (ys.map (·.1)).Nodup ∧ (ys.map (·.2.2)).Nodup ∧ (∀ y ∈ ys, y.2.2 < clock) ∧ clock = since ∧ since ≤ c0 ∧
    w.heap[r]? = some (.mapIter (some b) since seen c0) ∧ pairs ds = done ∧ (∀ y ∈ ds, y ∈ ys) ∧ (ds.map (·.2.2)).Nodup ∧ seen.toList = ds.map (·.2.2)
theorem RangeIs.map {r : Nat} {done : List (κ × Value)} (h : RangeIs w b r enc xs done) : MapIs w b enc xs := by
  obtain ⟨ys, ds, clock, since, c0, seen, h1, h2, h3, h4, h5, _⟩ := h
  exact ⟨ys, clock, h1, h2, h3, h4, h5⟩
theorem RangeIs.move {r : Nat} {done : List (κ × Value)} {w' : World} (h : RangeIs w b r enc xs done) (hb : w'.heap[b]? = w.heap[b]?) (hr : w'.heap[r]? = w.heap[r]?) : RangeIs w' b r enc xs done := by
  obtain ⟨ys, ds, clock, since, c0, seen, h1, h2, h3, h4, h5, h6, h7, h8, h9⟩ := h
  exact ⟨ys, ds, clock, since, c0, seen, hb.trans h1, h2, h3, h4, h5, h6, h7, hr.trans h8, h9⟩
theorem RangeIs.lt {r : Nat} {done : List (κ × Value)} (h : RangeIs w b r enc xs done) : r < w.heap.size := by
  obtain ⟨ys, ds, clock, since, c0, seen, h1, h2, h3, h4, h5, h6, h7, h8, h9⟩ := h
  exact (Array.getElem?_eq_some_iff.1 h8).1
theorem RangeIs.kept {r : Nat} {done : List (κ × Value)} {w' : World} {row : Option Nat} (h : RangeIs w b r enc xs done) (hg : w.grownBy w' row) (hb : some b ≠ row) (hr : some r ≠ row) : RangeIs w' b r enc xs done :=
  h.move (hg.block b h.map.lt hb) (hg.block r h.lt hr)
/-- How many have come. -/
def seenN (w : World) (r : Nat) : Nat := match w.heap[r]? with | some (.mapIter _ _ seen _) => seen.size | _ => 0
theorem RangeIs.seen {r : Nat} {done : List (κ × Value)} (h : RangeIs w b r enc xs done) : seenN w r = done.length := by
  obtain ⟨ys, ds, clock, since, c0, seen, h1, h2, h3, h4, h5, h6, h7, h8, h9, _, _, h12⟩ := h
  simp only [seenN, h8]
  rw [← h9, pairs, List.length_map, ← List.length_map (f := fun y : κ × Value × Nat => y.2.2), ← h12]
  simp
theorem MapIs.range {t k e : TypeId} (h : MapIs w b enc xs) (ht : P.underlying t = some (.map k e)) :
    ∃ w', (Instr.range t (.map (some b))).run P w = .ok (.pointer (some ⟨w.heap.size, 0, none⟩)) w' ∧ RangeIs w' b w.heap.size enc xs [] ∧ w.grownBy w' none ∧ w'.heap.size = w.heap.size + 1 := by
  have hlt := h.lt
  obtain ⟨ys, c, hb, hp, h3, h4, h5⟩ := h
  exact ⟨_, run_range_map w t k e b _ c ht hb, ⟨ys, [], c, c, c, #[], ((MapKept.heap_alloc w _).2 b hlt).trans hb, hp, h3, h4, h5, rfl, Nat.le_refl _, (MapKept.heap_alloc w _).1, rfl, (fun y hy => by simp at hy), by simp, rfl⟩, World.grownBy_alloc w _ none, by simp⟩
theorem stamp_inj {ys : List (κ × Value × Nat)} (h : (ys.map (·.2.2)).Nodup) : ∀ {x y : κ × Value × Nat}, x ∈ ys → y ∈ ys → x.2.2 = y.2.2 → x = y := by
  induction ys with
  | nil => intro x y hx; simp at hx
  | cons z r ih =>
    intro x y hx hy e
    rw [List.map_cons, List.nodup_cons] at h
    rcases List.mem_cons.1 hx with rfl | hx'
    · rcases List.mem_cons.1 hy with rfl | hy'
      · rfl
      · exact absurd (e ▸ List.mem_map.2 ⟨y, hy', rfl⟩) h.1
    · rcases List.mem_cons.1 hy with rfl | hy'
      · exact absurd (e ▸ List.mem_map.2 ⟨x, hx', rfl⟩) h.1
      · exact ih h.2 hx' hy' e
theorem nodup_of_map {α β : Type} (f : α → β) : ∀ {l : List α}, (l.map f).Nodup → l.Nodup
  | [], _ => List.nodup_nil
  | x :: r, h => by
    rw [List.map_cons, List.nodup_cons] at h
    exact List.nodup_cons.2 ⟨fun hx => h.1 (List.mem_map.2 ⟨x, hx, rfl⟩), nodup_of_map f h.2⟩
theorem length_sub {α : Type} : ∀ (a b : List α), a.Nodup → (∀ x ∈ a, x ∈ b) → a.length ≤ b.length
  | [], _, _, _ => Nat.zero_le _
  | x :: r, b, hn, h => by
    obtain ⟨s, u, rfl⟩ := List.append_of_mem (h x (List.mem_cons_self ..))
    rw [List.nodup_cons] at hn
    have := length_sub r (s ++ u) hn.2 (fun z hz => by
      have hne : z ≠ x := fun e => hn.1 (e ▸ hz)
      rcases List.mem_append.1 (h z (List.mem_cons_of_mem _ hz)) with h1 | h1
      · exact List.mem_append_left _ h1
      · rcases List.mem_cons.1 h1 with h2 | h2
        · exact absurd h2 hne
        · exact List.mem_append_right _ h2)
    simp at this ⊢
    omega
theorem RangeIs.sub {r : Nat} {done : List (κ × Value)} (h : RangeIs w b r enc xs done) : (done.map (·.1)).Nodup ∧ ∀ p ∈ done, p ∈ xs := by
  obtain ⟨ys, ds, clock, since, c0, seen, h1, rfl, h3, h4, h5, h6, h7, h8, rfl, h10, h11, h12⟩ := h
  refine ⟨?_, fun p hp => ?_⟩
  · have hds : ds.Nodup := nodup_of_map _ h11
    have hk : ∀ (l : List (κ × Value × Nat)), (l.map (·.1)).Nodup → ∀ {p q : κ × Value × Nat}, p ∈ l → q ∈ l → p.1 = q.1 → p = q := by
      intro l hl
      induction l with
      | nil => intro p q hp; simp at hp
      | cons u l ih =>
        intro p q hp hq e
        rw [List.map_cons, List.nodup_cons] at hl
        rcases List.mem_cons.1 hp with rfl | hp'
        · rcases List.mem_cons.1 hq with rfl | hq'
          · rfl
          · exact absurd (e ▸ List.mem_map.2 ⟨q, hq', rfl⟩) hl.1
        · rcases List.mem_cons.1 hq with rfl | hq'
          · exact absurd (e ▸ List.mem_map.2 ⟨p, hp', rfl⟩) hl.1
          · exact ih hl.2 hp' hq' e
    have : ∀ (l : List (κ × Value × Nat)), l.Nodup → (∀ y ∈ l, y ∈ ys) → (l.map (·.1)).Nodup := by
      intro l
      induction l with
      | nil => intro _ _; simp
      | cons u l ih =>
        intro hn hs
        rw [List.nodup_cons] at hn
        rw [List.map_cons, List.nodup_cons]
        refine ⟨fun hm => ?_, ih hn.2 (fun y hy => hs y (List.mem_cons_of_mem _ hy))⟩
        obtain ⟨z, hz, e⟩ := List.mem_map.1 hm
        have := hk ys h3 (hs z (List.mem_cons_of_mem _ hz)) (hs u (List.mem_cons_self ..)) e
        exact hn.1 (this ▸ hz)
    simpa [pairs, Function.comp_def] using this ds hds h10
  · obtain ⟨y, hy, rfl⟩ := List.mem_map.1 hp
    exact List.mem_map.2 ⟨y, h10 y hy, rfl⟩
theorem flat_len_sub {α β : Type} (f : α → List β) : ∀ (a b : List α), a.Nodup → (∀ x ∈ a, x ∈ b) → (a.flatMap f).length ≤ (b.flatMap f).length
  | [], _, _, _ => Nat.zero_le _
  | x :: r, b, hn, h => by
    obtain ⟨s, u, rfl⟩ := List.append_of_mem (h x (List.mem_cons_self ..))
    rw [List.nodup_cons] at hn
    have := flat_len_sub f r (s ++ u) hn.2 (fun z hz => by
      have hne : z ≠ x := fun e => hn.1 (e ▸ hz)
      rcases List.mem_append.1 (h z (List.mem_cons_of_mem _ hz)) with h1 | h1
      · exact List.mem_append_left _ h1
      · rcases List.mem_cons.1 h1 with h2 | h2
        · exact absurd h2 hne
        · exact List.mem_append_right _ h2)
    simp only [List.flatMap_append, List.flatMap_cons, List.length_append] at this ⊢
    omega
theorem RangeIs.next {r : Nat} {done : List (κ × Value)} (h : RangeIs w b r enc xs done) (ty : TypeId) :
    (done.Perm xs ∧ (Instr.next (.pointer (some ⟨r, 0, none⟩)) false ty).run P w = .ok (.tuple #[.bool false]) w) ∨
    ∃ x v w', (x, v) ∈ xs ∧ (x, v) ∉ done ∧ done.length < xs.length ∧ (Instr.next (.pointer (some ⟨r, 0, none⟩)) false ty).run P w = .ok (.tuple #[.bool true, enc x, v]) w' ∧
      RangeIs w' b r enc xs (done ++ [(x, v)]) ∧ w.grownBy w' (some r) ∧ w'.heap.size = w.heap.size ∧ (Instr.entry (.pointer (some ⟨r, 0, none⟩))).run P w' = .ok (.tuple #[enc x, v]) w' := by
  obtain ⟨ys, ds, clock, since, c0, seen, hb, hp, h3, h4, h5, h6, h7, hr, hd, hsub, hdn, hseen⟩ := h
  subst hp
  subst hd
  subst h6
  have hne : r ≠ b := by
    intro e
    rw [e, hb] at hr
    cases hr
  have hold : ∀ x ∈ ((ys.map (ent enc)).toArray).toList, x.born < clock := by
    intro x hx
    simp only [List.toList_toArray] at hx
    obtain ⟨y, hy, rfl⟩ := List.mem_map.1 hx
    exact h5 y hy
  have hcont : ∀ y : κ × Value × Nat, seen.contains y.2.2 = true ↔ y.2.2 ∈ ds.map (·.2.2) := by
    intro y
    rw [← hseen]
    simp
  have hysn : ys.Nodup := nodup_of_map _ h4
  have hdsn : ds.Nodup := nodup_of_map _ hdn
  rcases run_next_at (P := P) w ty r b clock c0 seen _ clock hr hb hold h7 with ⟨h0, hrun⟩ | ⟨e, he, w1, hw1, hrun⟩
  · left
    refine ⟨?_, hrun⟩
    have hall : ∀ y ∈ ys, y ∈ ds := by
      intro y hy
      have hc : seen.contains y.2.2 = true := by
        cases hc : seen.contains y.2.2 with
        | true => rfl
        | false =>
          exfalso
          have : ent enc y ∈ (leftOf (ys.map (ent enc)).toArray seen).toList := by
            simp only [leftOf, Array.toList_filter, List.mem_filter]
            exact ⟨by simp only [List.mem_map]; exact ⟨y, hy, rfl⟩, by show (!seen.contains y.2.2) = true; rw [hc]; rfl⟩
          have hl : (leftOf (ys.map (ent enc)).toArray seen).toList = [] := by
            apply List.eq_nil_of_length_eq_zero
            simpa using h0
          rw [hl] at this
          simp at this
      obtain ⟨z, hz, e⟩ := List.mem_map.1 ((hcont y).1 hc)
      rw [← stamp_inj h4 (hsub z hz) hy e]
      exact hz
    exact (Iff.mpr (List.perm_ext_iff_of_nodup hdsn hysn) (fun a => ⟨hsub a, hall a⟩)).map _
  · right
    simp only [leftOf, Array.toList_filter, List.mem_filter] at he
    obtain ⟨he1, he2⟩ := he
    obtain ⟨y, hy, rfl⟩ := List.mem_map.1 he1
    have hnot : y.2.2 ∉ ds.map (·.2.2) := by
      intro hc
      have := (hcont y).2 hc
      simp only [ent] at he2
      rw [this] at he2
      cases he2
    have hnd : y ∉ ds := fun h => hnot (List.mem_map.2 ⟨y, h, rfl⟩)
    have hw1h : w1.heap = w.heap := by rcases hw1 with rfl | rfl <;> rfl
    have hrlt : r < w.heap.size := (Array.getElem?_eq_some_iff.1 hr).1
    have hself : (setBlock w1 r (.mapIter (some b) clock (seen.push y.2.2) clock)).heap[r]? = some (.mapIter (some b) clock (seen.push y.2.2) clock) := by
      simp [setBlock, hw1h, hrlt]
    have hoth : ∀ i, i ≠ r → (setBlock w1 r (.mapIter (some b) clock (seen.push y.2.2) clock)).heap[i]? = w.heap[i]? := by
      intro i hi
      simp only [setBlock, hw1h]
      rw [Array.getElem?_setIfInBounds_ne (Ne.symm hi)]
    refine ⟨y.1, y.2.1, _, List.mem_map.2 ⟨y, hy, rfl⟩, ?_, ?_, hrun, ?_, ?_, by simp [setBlock, hw1h], ?_⟩
    · intro hm
      obtain ⟨z, hz, e⟩ := List.mem_map.1 hm
      have hk : z.1 = y.1 := (Prod.mk.inj e).1
      have : z = y := by
        have hinj : ∀ (l : List (κ × Value × Nat)), (l.map (·.1)).Nodup → ∀ {p q : κ × Value × Nat}, p ∈ l → q ∈ l → p.1 = q.1 → p = q := by
          intro l hl
          induction l with
          | nil => intro p q hp; simp at hp
          | cons u l ih =>
            intro p q hp hq e
            rw [List.map_cons, List.nodup_cons] at hl
            rcases List.mem_cons.1 hp with rfl | hp'
            · rcases List.mem_cons.1 hq with rfl | hq'
              · rfl
              · exact absurd (e ▸ List.mem_map.2 ⟨q, hq', rfl⟩) hl.1
            · rcases List.mem_cons.1 hq with rfl | hq'
              · exact absurd (e ▸ List.mem_map.2 ⟨p, hp', rfl⟩) hl.1
              · exact ih hl.2 hp' hq' e
        exact hinj ys h3 (hsub z hz) hy hk
      exact hnd (this ▸ hz)
    · have : (y :: ds).length ≤ ys.length := length_sub _ _ (List.nodup_cons.2 ⟨hnd, hdsn⟩) (by
        intro z hz
        rcases List.mem_cons.1 hz with rfl | hz
        · exact hy
        · exact hsub z hz)
      simp [pairs] at this ⊢
      omega
    · refine ⟨ys, ds ++ [y], clock, clock, clock, seen.push y.2.2, (hoth b (Ne.symm hne)).trans hb, rfl, h3, h4, h5, rfl, Nat.le_refl _, hself, by simp [pairs], ?_, ?_, by simp [hseen]⟩
      · intro z hz
        rcases List.mem_append.1 hz with hz | hz
        · exact hsub z hz
        · simp at hz; rw [hz]; exact hy
      · rw [List.map_append, List.nodup_append]
        refine ⟨hdn, by simp, ?_⟩
        intro p hp q hq
        simp at hq
        rw [hq]
        intro e
        exact hnot (e ▸ hp)
    · refine ⟨by rcases hw1 with rfl | rfl <;> rfl, by rcases hw1 with rfl | rfl <;> rfl, by rcases hw1 with rfl | rfl <;> rfl, by simp [setBlock, hw1h], fun i _ hi => hoth i (fun e => hi (by rw [e]))⟩
    · exact run_entry_at _ r b clock seen _ clock (ent enc y) hself ((hoth b (Ne.symm hne)).trans hb) (by simpa using ⟨_, _, _, hy, rfl⟩) (by simpa [Function.comp_def, ent] using h4)
end
section
variable {P : Program} {κ : Type} [DecidableEq κ] (w : World) {ops : Array Oper} {rest : List Oper} {o : Oper} {a : Act} {Q : Exit → Act → World → Prop} {enc : κ → Value} {xs : List (κ × Value)}
theorem wp_lookup (hg : o.guard = none) (m x : Operand) (t : TypeId) (hop : o.op = Op.lookup t m x false) (k e : TypeId) (K : KeyIs P k enc) (ht : P.underlying t = some (.map k e)) {z : Value} (hz : (zeroValue e).run P w = .ok z w)
    (b : Nat) (hm : a.eval m = .map (some b)) (h : MapIs w b enc xs) (y : κ) (hx : a.eval x = enc y) (hK : wpList P ops Q rest (a.put o.dst ((get xs y).getD z)) w) : wpList P ops Q (o :: rest) a w := by
  refine wpList_plain hg fun K' hK' => ?_
  have hrun := h.lookup K ht hz y false
  unfold Oper.wp
  simp [execOp, hop, hm, hx, hrun, Result.andThen]
  exact hK' _ _ hK
theorem wp_lookup_ok (hg : o.guard = none) (m x : Operand) (t : TypeId) (hop : o.op = Op.lookup t m x true) (k e : TypeId) (K : KeyIs P k enc) (ht : P.underlying t = some (.map k e)) {z : Value} (hz : (zeroValue e).run P w = .ok z w)
    (b : Nat) (hm : a.eval m = .map (some b)) (h : MapIs w b enc xs) (y : κ) (hx : a.eval x = enc y) (hK : wpList P ops Q rest (a.put o.dst (.tuple #[(get xs y).getD z, .bool (get xs y).isSome])) w) : wpList P ops Q (o :: rest) a w := by
  refine wpList_plain hg fun K' hK' => ?_
  have hrun := h.lookup K ht hz y true
  unfold Oper.wp
  simp [execOp, hop, hm, hx, hrun, Result.andThen]
  exact hK' _ _ hK
theorem wp_mapUpdate (hg : o.guard = none) (m x v : Operand) (t : TypeId) (hop : o.op = Op.mapUpdate t m x v) (k e : TypeId) (K : KeyIs P k enc) (ht : P.underlying t = some (.map k e))
    (b : Nat) (hm : a.eval m = .map (some b)) (h : MapIs w b enc xs) (y : κ) (val : Value) (hx : a.eval x = enc y) (hv : a.eval v = val)
    (hK : ∀ w', MapIs w' b enc (put y val xs) → w.grownBy w' (some b) → w'.heap.size = w.heap.size → wpList P ops Q rest (a.put o.dst undef) w') : wpList P ops Q (o :: rest) a w := by
  refine wpList_plain hg fun K' hK' => ?_
  obtain ⟨w', hrun, r1, r2, r3⟩ := h.update K ht y val
  unfold Oper.wp
  simp [execOp, hop, hm, hx, hv, hrun, Result.andThen]
  exact hK' _ _ (hK w' r1 r2 r3)
theorem wp_range (hg : o.guard = none) (m : Operand) (t : TypeId) (hop : o.op = Op.range t m) (k e : TypeId) (ht : P.underlying t = some (.map k e)) (b : Nat) (hm : a.eval m = .map (some b)) (h : MapIs w b enc xs)
    (hK : ∀ w', RangeIs w' b w.heap.size enc xs [] → w.grownBy w' none → w'.heap.size = w.heap.size + 1 → wpList P ops Q rest (a.put o.dst (.pointer (some ⟨w.heap.size, 0, none⟩))) w') : wpList P ops Q (o :: rest) a w := by
  refine wpList_plain hg fun K' hK' => ?_
  obtain ⟨w', hrun, r1, r2, r3⟩ := h.range ht
  unfold Oper.wp
  simp [execOp, hop, hm, hrun, Result.andThen]
  exact hK' _ _ (hK w' r1 r2 r3)
theorem wp_next (hg : o.guard = none) (it : Operand) (hop : o.op = Op.next it false) (b r : Nat) (done : List (κ × Value)) (hit : a.eval it = .pointer (some ⟨r, 0, none⟩)) (h : RangeIs w b r enc xs done)
    (hDone : done.Perm xs → wpList P ops Q rest (a.put o.dst (.tuple #[.bool false])) w)
    (hMore : ∀ (x : κ) (v : Value) (w' : World), (x, v) ∈ xs → (x, v) ∉ done → done.length < xs.length → RangeIs w' b r enc xs (done ++ [(x, v)]) → w.grownBy w' (some r) → w'.heap.size = w.heap.size →
      (Instr.entry (.pointer (some ⟨r, 0, none⟩))).run P w' = .ok (.tuple #[enc x, v]) w' → wpList P ops Q rest (a.put o.dst (.tuple #[.bool true, enc x, v])) w') : wpList P ops Q (o :: rest) a w := by
  refine wpList_plain hg fun K' hK' => ?_
  unfold Oper.wp
  rcases h.next (P := P) o.type with ⟨hp, hrun⟩ | ⟨x, v, w', h1, h2, h3, hrun, h5, h6, h7, h8⟩
  · simp [execOp, hop, hit, hrun, Result.andThen]
    exact hK' _ _ (hDone hp)
  · simp [execOp, hop, hit, hrun, Result.andThen]
    exact hK' _ _ (hMore x v w' h1 h2 h3 h5 h6 h7 h8)
end
end Go.Proofs.Ytpggedoopjcflaa.Map
