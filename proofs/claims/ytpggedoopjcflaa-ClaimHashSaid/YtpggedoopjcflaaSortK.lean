/- slices.SortFunc on a row of the call's own, at whatever struct: behind it the row holds a sorted permutation. -/
import Derived.Test.YtpggedoopjcflaaWWords
import Derived.Shelf.SlSortCmp.WholeK
import Derived.Shelf.SlSortCmp.NoneTotal
namespace Go.Proofs.Ytpggedoopjcflaa.SortK
open Go.RowKit Go.Proofs.YtpggedoopjcflaaW.PrintWords Go.Sort Go.Shelf Go.Lib
section
variable {P : Program} {ρ : Ren} {α : Type} [Inhabited α]
theorem flat_get (enc : α → List Value) (k : Nat) (d : Array α) (j i : Nat) (hj : j < d.size) (hi : i < k) : (flatK enc k d)[j * k + i]! = (enc d[j]!)[i]! := by
  have h1 : j * k + i < d.size * k := by
    have : (j + 1) * k ≤ d.size * k := Nat.mul_le_mul_right _ hj
    rw [Nat.succ_mul] at this
    omega
  rw [get_flatK _ _ _ _ h1]
  have e1 : (j * k + i) / k = j := by rw [Nat.mul_comm, Nat.mul_add_div (by omega), Nat.div_eq_of_lt hi, Nat.add_zero]
  have e2 : (j * k + i) % k = i := by rw [Nat.mul_comm, Nat.mul_add_mod, Nat.mod_eq_of_lt hi]
  rw [e1, e2]
theorem heap_sortedK {enc : α → List Value} {k : Nat} {w : World} {g n : Nat} {os : Array Obj} {cur : Array Value} {e : TypeId} {fr : Nat × Nat} (d : Array α) (hb : w.heap[g]? = some (.cells cur e fr)) :
    (sortWorldK enc k w g 0 n d os).heap[g]? = some (.cells (putCells id 0 (flatK enc k d) cur) e fr) := by
  have hg : g < w.heap.size := (Array.getElem?_eq_some_iff.1 hb).1
  unfold sortWorldK putRowK
  rw [heap_grow_old _ _ (by simpa using hg)]
  simp [putRow, mapBlock, Sort.ahead, Array.getElem?_modify, hb, onCells]
theorem grownBy_sortedK {enc : α → List Value} {k : Nat} {w : World} {g n : Nat} {os : Array Obj} (d : Array α) : w.grownBy (sortWorldK enc k w g 0 n d os) (some g) := by
  unfold sortWorldK putRowK
  refine ⟨rfl, rfl, rfl, by simp, fun j hj hne => ?_⟩
  rw [heap_grow_old _ _ (by simpa using hj)]
  have : g ≠ j := fun e => hne (by rw [e])
  simp [putRow, mapBlock, Sort.ahead, Array.getElem?_modify, this]
theorem take_putCells (cur F : Array Value) (m : Nat) (hm : m = F.size) (h : m ≤ cur.size) : (putCells id 0 F cur).toList.take m = F.toList := by
  apply List.ext_getElem?
  intro j
  by_cases hj : j < m
  · rw [List.getElem?_take_of_lt hj, Array.getElem?_toList]
    have h1 : j < cur.size := by omega
    have h2 : j < F.size := by omega
    simp [putCells, h1, h2]
  · rw [List.getElem?_take_eq_none (by omega), List.getElem?_eq_none (by simp; omega)]
theorem flat_chunk (enc : α → List Value) (k : Nat) (hk : ∀ x, (enc x).length = k) (d : Array α) (j : Nat) (hj : j < d.size) : ((flatK enc k d).toList.drop (j * k)).take k = enc d[j]! := by
  have hs : (j + 1) * k ≤ d.size * k := Nat.mul_le_mul_right _ hj
  rw [Nat.succ_mul] at hs
  apply List.ext_getElem?
  intro i
  by_cases hi : i < k
  · rw [List.getElem?_take_of_lt hi, List.getElem?_drop, Array.getElem?_toList]
    have h1 : j * k + i < (flatK enc k d).size := by rw [size_flatK]; omega
    rw [Array.getElem?_eq_getElem h1, ← getElem!_pos (flatK enc k d) (j * k + i) h1, flat_get enc k d j i hj hi]
    have h2 : i < (enc d[j]!).length := by rw [hk]; exact hi
    rw [List.getElem?_eq_getElem h2, getElem!_pos (enc d[j]!) i h2]
  · rw [List.getElem?_take_eq_none (by omega), List.getElem?_eq_none (by rw [hk]; omega)]
set_option maxHeartbeats 1000000 in
theorem SortFunc_own (L : SlLaysF0.n6 P ρ) (kd : Kd α) (enc : α → List Value) (hM : ∀ {w base ok x cs}, kd.M w base ok x cs → cs = enc x) (hm : ∀ w base ok x, kd.M w base ok x (enc x)) (hk : ∀ x, (enc x).length = kd.sz) (h1 : ∀ x, ∀ v ∈ enc x, v.oneCell' = true)
    (aE : ∀ w, (isAgg (ρ.t 24)).run P w = .ok true w) (zE : ∀ w, (Go.sizeOf (ρ.t 24)).run P w = .ok kd.sz w) (cf : α → α → Int) (hO : SWO (ltOf cf)) (g : Nat) (cb : Array Value) (eg : ∀ args w, (callFunc g args).run P w = .ok (.enter g args) w)
    (hcmp : ∀ W x y, Calls P g (#[.agg (enc x).toArray, .agg (enc y).toArray] ++ cb) W fun e w' => e = .returned (.int .i64 (cf x y)) ∧ ∃ q os', w' = grow (W.drewN q) os')
    (e base : Nat) (ok : Nat → Prop) (v : Value) (xs : List α) (w : World) (h : kd.R e w base ok v xs) (hl : xs.length < 4611686018427387904) :
    Calls P (ρ.f 6) #[v, .func (.func g) #[] cb] w fun ex w' => ex = .returned (.tuple #[]) ∧ ∃ ys, ys.Perm xs ∧ (∀ i j, i < j → (hj : j < ys.length) → (hi : i < ys.length) → ltOf cf ys[j] ys[i] = false) ∧ kd.R e w' base ok v ys ∧ w.grownBy w' v.ownBlock := by
  obtain ⟨hok, inner, ⟨hil, hown⟩, hrl, hrp⟩ := h
  rcases hown with ⟨rfl, h0⟩ | ⟨b, cap, cur, rfl, hb, hh, hnc, hcm, hcs, htk⟩
  · have := List.eq_nil_of_length_eq_zero h0
    subst this
    refine (AnyF.slices_SortFunc_none L none 0 _ w).mono ?_
    rintro ex w' ⟨rfl, rfl⟩
    exact ⟨rfl, [], List.Perm.refl _, fun i j _ hj => absurd hj (by simp), Kd.R_nil _ _ _ _ _, ⟨rfl, rfl, rfl, Nat.le_refl _, fun _ _ _ => rfl⟩⟩
  have hbs : b < w.heap.size := (Array.getElem?_eq_some_iff.1 hh).1
  have hle : xs.length * kd.sz ≤ cap * kd.sz := Nat.mul_le_mul_right _ hnc
  have hH : HoldsK enc kd.sz w b 0 xs.toArray := by
    intro t ht
    rw [size_flatK, List.size_toArray] at ht
    have hk0 : 0 < kd.sz := by rcases Nat.eq_zero_or_pos kd.sz with h | h; · rw [h] at ht; omega
                               · exact h
    have hj : t / kd.sz < xs.length := (Nat.div_lt_iff_lt_mul hk0).2 ht
    have hi : t % kd.sz < kd.sz := Nat.mod_lt _ hk0
    have hrep := hM (hrp (t / kd.sz) _ (List.getElem?_eq_getElem hj))
    have ht2 : t / kd.sz * kd.sz + t % kd.sz = t := by rw [Nat.mul_comm]; exact Nat.div_add_mod _ _
    have hin : inner[t]? = some ((flatK enc kd.sz xs.toArray)[t]!) := by
      rw [get_flatK _ _ _ _ (by rw [List.size_toArray]; exact ht)]
      have hx : xs.toArray[t / kd.sz]! = xs[t / kd.sz] := by rw [getElem!_pos xs.toArray (t / kd.sz) (by simpa using hj)]; simp
      rw [hx, ← hrep]
      have h3 : ((inner.drop (t / kd.sz * kd.sz)).take kd.sz)[t % kd.sz]? = inner[t]? := by
        rw [List.getElem?_take_of_lt hi, List.getElem?_drop, ht2]
      rw [← h3]
      have h4 : t % kd.sz < ((inner.drop (t / kd.sz * kd.sz)).take kd.sz).length := by rw [hrep, hk]; exact hi
      rw [List.getElem?_eq_getElem h4, getElem!_pos ((inner.drop (t / kd.sz * kd.sz)).take kd.sz) (t % kd.sz) h4]
    have hct : cur[t]? = inner[t]? := by
      rw [← htk, List.getElem?_take_of_lt ht, Array.getElem?_toList]
    refine ⟨?_, ?_⟩
    · simp only [World.cell?, Nat.zero_add, hh]
      show cur[t]? = _
      rw [hct, hin]
      rfl
    · simp [World.frozen?, hh]
  have hcon := AnyQ.slices_SortFunc L kd.sz aE zE enc hk h1 cf hO g cb b 0 cap xs.toArray w eg (fun _ _ _ _ x y => hcmp _ x y) hH hbs (by simpa using hl)
  rw [List.size_toArray] at hcon
  refine hcon.mono ?_
  rintro ex w' ⟨rfl, d', n, os, hp, hs, rfl⟩
  have hsz : d'.size = xs.length := by rw [hp.1, List.size_toArray]
  have hperm : d'.toList.Perm xs := by
    have := hp.2.2
    rw [show d'.extract 0 xs.length = d' by rw [← hsz]; exact Array.extract_size, show xs.toArray.extract 0 xs.length = xs.toArray from by have e := Array.extract_size (xs := xs.toArray); rwa [List.size_toArray] at e] at this
    simpa using this
  refine ⟨rfl, d'.toList, hperm, fun i j hij hj hi => ?_, ⟨hok, (flatK enc kd.sz d').toList, ⟨by simp [hsz], .inr ⟨b, cap, _, by simp [hsz], hb, heap_sortedK _ hh, by simpa [hsz] using hnc, hcm, by simp [putCells, hcs], ?_⟩⟩, by simp, fun j p hjp => ?_⟩, grownBy_sortedK _⟩
  · have hj' : j < d'.size := by simpa using hj
    have := hs i j (Nat.zero_le _) hij (by omega)
    rw [getElem!_pos d' j hj', getElem!_pos d' i (by omega)] at this
    simpa using this
  · rw [take_putCells]
    · simp
    · rw [hcs]; simpa [hsz] using hle
  · obtain ⟨hj, hjp⟩ := List.getElem?_eq_some_iff.1 hjp
    have hj' : j < d'.size := by simpa using hj
    rw [flat_chunk enc kd.sz hk d' j hj', getElem!_pos d' j hj', show d'[j] = p by simpa using hjp]
    exact hm _ _ _ _
end
end Go.Proofs.Ytpggedoopjcflaa.SortK
