/- The normal form of claims, in plain words: groups by key, joined; and that the order of equals is of no account. -/
import Derived.Test.YtpggedoopjcflaaPClaimHashx0
import Derived.Test.YtpggedoopjcflaaPClaimHashEClaimCmp
namespace Go.Proofs.Ytpggedoopjcflaa.PClaimHash
open Go.RowKit Go.Proofs.YtpggedoopjcflaaW.PrintWords Go.Sort
abbrev K3 := Int × Int × Int
def keyC (c : Cl) : K3 := (c.f0, c.f1, c.f4)
/-- One claim more in its group. -/
def joinLast (s : List Cl) (c : Cl) : List Cl :=
  match s.getLast? with
  | some x => if c.f2 ≤ x.f3 + 1 then s.dropLast ++ [{ x with f3 := max x.f3 c.f3 }] else s ++ [c]
  | none => [c]
def putG (c : Cl) : List (K3 × List Cl) → List (K3 × List Cl)
  | [] => [(keyC c, joinLast [] c)]
  | g :: r => if g.1 = keyC c then (g.1, joinLast g.2 c) :: r else g :: putG c r
def groups (zs : List Cl) : List (K3 × List Cl) := zs.foldl (fun G c => putG c G) []
def insC (x : Cl) : List Cl → List Cl
  | [] => [x]
  | y :: r => if ltC y x then y :: insC x r else x :: y :: r
def sortC (l : List Cl) : List Cl := l.foldr insC []
def normC (l : List Cl) : List Cl := sortC ((groups (sortC l)).flatMap (·.2))
/-- Ascending: no later one is less than an earlier one. -/
def Asc (l : List Cl) : Prop := l.Pairwise fun x y => ¬ ltC y x
theorem insC_perm (x : Cl) : ∀ l, (insC x l).Perm (x :: l)
  | [] => List.Perm.refl _
  | y :: r => by
    unfold insC
    split
    · exact ((insC_perm x r).cons y).trans (List.Perm.swap x y r)
    · exact List.Perm.refl _
theorem sortC_perm : ∀ l, (sortC l).Perm l
  | [] => List.Perm.refl _
  | x :: r => (insC_perm x _).trans ((sortC_perm r).cons x)
theorem insC_asc (x : Cl) : ∀ l, Asc l → Asc (insC x l)
  | [], _ => List.pairwise_singleton _ _
  | y :: r, h => by
    obtain ⟨h1, h2⟩ := List.pairwise_cons.1 h
    unfold insC
    split
    · rename_i hy
      refine List.pairwise_cons.2 ⟨fun z hz => ?_, insC_asc x r h2⟩
      rcases List.mem_cons.1 ((insC_perm x r).mem_iff.1 hz) with rfl | hz
      · unfold ltC at *; omega
      · exact h1 z hz
    · rename_i hy
      refine List.pairwise_cons.2 ⟨fun z hz => ?_, h⟩
      rcases List.mem_cons.1 hz with rfl | hz
      · exact hy
      · have := h1 z hz
        unfold ltC at *; omega
theorem sortC_asc : ∀ l, Asc (sortC l)
  | [] => List.Pairwise.nil
  | x :: r => insC_asc x _ (sortC_asc r)
theorem foldl_move {σ : Type} (step : σ → Cl → σ) (x : Cl) : ∀ (a : List Cl) (s : σ), (∀ y ∈ a, ∀ s, step (step s y) x = step (step s x) y) → (a ++ [x]).foldl step s = (x :: a).foldl step s
  | [], s, _ => rfl
  | y :: r, s, h => by
    have ih := foldl_move step x r (step s y) (fun z hz => h z (List.mem_cons_of_mem _ hz))
    simp only [List.cons_append, List.foldl_cons] at ih ⊢
    rw [ih, h y (List.mem_cons_self ..)]
/-- Where equals may change their places, each ascending order does the same. -/
theorem foldl_asc {σ : Type} (step : σ → Cl → σ) : ∀ (zs ys : List Cl) (s : σ), zs.Perm ys → Asc zs → Asc ys → (∀ x ∈ zs, ∀ y ∈ zs, ¬ ltC x y → ¬ ltC y x → ∀ s, step (step s y) x = step (step s x) y) → zs.foldl step s = ys.foldl step s
  | [], ys, s, hp, _, _, _ => by rw [List.nil_perm.1 hp]
  | x :: r, ys, s, hp, hz, hy, hc => by
    obtain ⟨a, b, rfl⟩ := List.append_of_mem (hp.mem_iff.1 (List.mem_cons_self ..))
    obtain ⟨h1, h2⟩ := List.pairwise_cons.1 hz
    have hp2 : (a ++ x :: b).Perm (x :: (a ++ b)) := List.perm_middle
    have hp3 : r.Perm (a ++ b) := (hp.trans hp2).cons_inv
    have hab : Asc (a ++ b) := hy.sublist (List.Sublist.append (List.Sublist.refl a) (List.sublist_cons_self x b))
    have hmv : (a ++ x :: b).foldl step s = (x :: (a ++ b)).foldl step s := by
      have e1 : a ++ x :: b = (a ++ [x]) ++ b := by simp
      have e2 : x :: (a ++ b) = (x :: a) ++ b := by simp
      rw [e1, e2]
      refine (List.foldl_append (l := a ++ [x])).trans ((congrArg (fun q => b.foldl step q) (foldl_move step x a s ?_)).trans (List.foldl_append (l := x :: a)).symm)
      intro y hya
      have hyx : y ∈ x :: r := hp.mem_iff.2 (List.mem_append_left _ hya)
      refine hc x (List.mem_cons_self ..) y hyx ?_ ?_
      · have := (List.pairwise_append.1 hy).2.2 y hya x (List.mem_cons_self ..)
        exact this
      · rcases List.mem_cons.1 hyx with rfl | h
        · unfold ltC; omega
        · exact h1 y h
    rw [hmv]
    simp only [List.foldl_cons]
    exact foldl_asc step r (a ++ b) (step s x) hp3 h2 hab (fun p hp' q hq => hc p (List.mem_cons_of_mem _ hp') q (List.mem_cons_of_mem _ hq))
theorem asc_unique {zs ys : List Cl} (hp : zs.Perm ys) (hz : Asc zs) (hy : Asc ys) (he : ∀ x ∈ zs, ∀ y ∈ zs, ¬ ltC x y → ¬ ltC y x → x = y) : zs = ys := by
  have h := foldl_asc (fun (s : List Cl) c => s ++ [c]) zs ys [] hp hz hy (fun x hx y hy' h1 h2 s => by rw [he x hx y hy' h1 h2])
  have hf : ∀ (l s : List Cl), l.foldl (fun (s : List Cl) c => s ++ [c]) s = s ++ l := by
    intro l
    induction l with
    | nil => intro s; simp
    | cons a r ih => intro s; rw [List.foldl_cons, ih]; simp
  rw [hf, hf, List.nil_append, List.nil_append] at h
  exact h
theorem joinLast_snoc (s : List Cl) (x c : Cl) : joinLast (s ++ [x]) c = if c.f2 ≤ x.f3 + 1 then s ++ [{ x with f3 := max x.f3 c.f3 }] else s ++ [x] ++ [c] := by
  simp [joinLast]
theorem eq_snoc {α : Type} (s : List α) : s = [] ∨ ∃ t x, s = t ++ [x] := by
  rcases s with _ | ⟨y, r⟩
  · exact .inl rfl
  · exact .inr ⟨_, _, (List.dropLast_concat_getLast (List.cons_ne_nil y r)).symm⟩
theorem joinLast_comm (s : List Cl) (x y : Cl) (hx : x.f2 ≤ x.f3) (hy : y.f2 ≤ y.f3) (h0 : x.f0 = y.f0) (h1 : x.f1 = y.f1) (h2 : x.f2 = y.f2) (h4 : x.f4 = y.f4) : joinLast (joinLast s y) x = joinLast (joinLast s x) y := by
  have hxy : ∀ (a b : Cl), a.f0 = b.f0 → a.f1 = b.f1 → a.f2 = b.f2 → a.f4 = b.f4 → ∀ m n : Int, m = n → ({ a with f3 := m } : Cl) = { b with f3 := n } := by
    rintro ⟨a0, a1, a2, a3, a4⟩ ⟨b0, b1, b2, b3, b4⟩ rfl rfl rfl rfl m n rfl
    rfl
  rcases eq_snoc s with rfl | ⟨t, z, rfl⟩
  · have e1 : joinLast [] y = [] ++ [y] := rfl
    have e2 : joinLast [] x = [] ++ [x] := rfl
    rw [e1, e2, joinLast_snoc, joinLast_snoc, if_pos (by omega), if_pos (by omega), hxy y x h0.symm h1.symm h2.symm h4.symm _ _ (Int.max_comm _ _)]
  · rw [joinLast_snoc, joinLast_snoc]
    by_cases hm : x.f2 ≤ z.f3 + 1
    · rw [if_pos (by omega), if_pos hm, joinLast_snoc, joinLast_snoc, if_pos (by simp only; omega), if_pos (by simp only; omega)]
      simp only
      rw [Int.max_assoc, Int.max_assoc, Int.max_comm y.f3]
    · rw [if_neg (by omega), if_neg hm, joinLast_snoc, joinLast_snoc, if_pos (by omega), if_pos (by omega), hxy y x h0.symm h1.symm h2.symm h4.symm _ _ (Int.max_comm _ _)]
theorem putG_comm (x y : Cl) (hx : x.f2 ≤ x.f3) (hy : y.f2 ≤ y.f3) (h0 : x.f0 = y.f0) (h1 : x.f1 = y.f1) (h2 : x.f2 = y.f2) (h4 : x.f4 = y.f4) : ∀ G, putG x (putG y G) = putG y (putG x G)
  | [] => by
    have hk : keyC x = keyC y := by simp [keyC, h0, h1, h4]
    simp only [putG, hk, if_true]
    rw [joinLast_comm [] x y hx hy h0 h1 h2 h4]
  | g :: r => by
    have hk : keyC x = keyC y := by simp [keyC, h0, h1, h4]
    by_cases e : g.1 = keyC y
    · simp only [putG, hk, e, if_true]
      rw [joinLast_comm g.2 x y hx hy h0 h1 h2 h4]
    · simp only [putG, hk, e, if_false]
      rw [putG_comm x y hx hy h0 h1 h2 h4 r]
/-- The groups of each ascending order are the same. -/
theorem groups_asc {zs ys : List Cl} (hp : zs.Perm ys) (hz : Asc zs) (hy : Asc ys) (hv : ∀ c ∈ zs, c.f2 ≤ c.f3) : groups zs = groups ys :=
  foldl_asc _ zs ys [] hp hz hy fun x hx y hy' h1 h2 s => by
    have : x.f0 = y.f0 ∧ x.f1 = y.f1 ∧ x.f4 = y.f4 ∧ x.f2 = y.f2 := by unfold ltC at h1 h2; omega
    exact putG_comm x y (hv x hx) (hv y hy') this.1 this.2.1 this.2.2.2 this.2.2.1 s
/-- What holds of the groups: their keys part them; a group's claims bear its key, and begin one behind another's end. -/
structure Good (G : List (K3 × List Cl)) : Prop where
  keys : (G.map (·.1)).Nodup
  ne : ∀ g ∈ G, g.2 ≠ []
  own : ∀ g ∈ G, ∀ c ∈ g.2, keyC c = g.1
  days : ∀ g ∈ G, ∀ c ∈ g.2, c.f2 ≤ c.f3
  asc : ∀ g ∈ G, g.2.Pairwise fun x y => x.f3 < y.f2
theorem joinLast_good (k : K3) (s : List Cl) (c : Cl) (hk : keyC c = k) (hc : c.f2 ≤ c.f3) (h1 : ∀ x ∈ s, keyC x = k) (h2 : ∀ x ∈ s, x.f2 ≤ x.f3) (h3 : s.Pairwise fun x y => x.f3 < y.f2) :
    joinLast s c ≠ [] ∧ (∀ x ∈ joinLast s c, keyC x = k) ∧ (∀ x ∈ joinLast s c, x.f2 ≤ x.f3) ∧ (joinLast s c).Pairwise fun x y => x.f3 < y.f2 := by
  rcases eq_snoc s with rfl | ⟨t, z, rfl⟩
  · refine ⟨by simp [joinLast], ?_, ?_, ?_⟩
    · intro x hx; simp [joinLast] at hx; rw [hx]; exact hk
    · intro x hx; simp [joinLast] at hx; rw [hx]; exact hc
    · simp [joinLast]
  · rw [joinLast_snoc]
    have hz1 := h1 z (by simp)
    have hz2 := h2 z (by simp)
    have h3' := List.pairwise_append.1 h3
    by_cases hm : c.f2 ≤ z.f3 + 1
    · rw [if_pos hm]
      refine ⟨by simp, ?_, ?_, ?_⟩
      · intro x hx
        rcases List.mem_append.1 hx with hx | hx
        · exact h1 x (List.mem_append_left _ hx)
        · simp at hx; rw [hx]; exact hz1
      · intro x hx
        rcases List.mem_append.1 hx with hx | hx
        · exact h2 x (List.mem_append_left _ hx)
        · simp at hx; rw [hx]; simp only; omega
      · refine List.pairwise_append.2 ⟨h3'.1, List.pairwise_singleton _ _, fun x hx y hy => ?_⟩
        simp at hy
        rw [hy]
        exact h3'.2.2 x hx z (by simp)
    · rw [if_neg hm]
      refine ⟨by simp, ?_, ?_, ?_⟩
      · intro x hx
        rcases List.mem_append.1 hx with hx | hx
        · exact h1 x hx
        · simp at hx; rw [hx]; exact hk
      · intro x hx
        rcases List.mem_append.1 hx with hx | hx
        · exact h2 x hx
        · simp at hx; rw [hx]; exact hc
      · refine List.pairwise_append.2 ⟨h3, List.pairwise_singleton _ _, fun x hx y hy => ?_⟩
        simp at hy
        rw [hy]
        rcases List.mem_append.1 hx with hx | hx
        · have := h3'.2.2 x hx z (by simp)
          omega
        · simp at hx; rw [hx]; omega
theorem putG_keys (c : Cl) : ∀ G : List (K3 × List Cl), (∀ k, k ∈ (putG c G).map (·.1) ↔ k ∈ G.map (·.1) ∨ k = keyC c)
  | [] => fun k => by simp [putG]
  | g :: r => fun k => by
    by_cases e : g.1 = keyC c
    · simp only [putG, e, if_true, List.map_cons, List.mem_cons]
      constructor
      · rintro (h | h)
        · exact .inr h
        · exact .inl (.inr h)
      · rintro ((h | h) | h)
        · exact .inl h
        · exact .inr h
        · exact .inl h
    · have ih := putG_keys c r k
      simp only [putG, e, if_false, List.map_cons, List.mem_cons, ih]
      exact or_assoc.symm
theorem putG_good (c : Cl) (hc : c.f2 ≤ c.f3) : ∀ G, Good G → Good (putG c G)
  | [], _ => by
    have h := joinLast_good (keyC c) [] c rfl hc (by simp) (by simp) (by simp)
    refine ⟨by simp [putG], ?_, ?_, ?_, ?_⟩ <;> intro g hg <;> simp [putG] at hg <;> subst hg
    · exact h.1
    · exact h.2.1
    · exact h.2.2.1
    · exact h.2.2.2
  | g :: r, h => by
    have hn := List.nodup_cons.1 (show ((g.1 :: r.map (·.1))).Nodup from h.keys)
    by_cases e : g.1 = keyC c
    · have h' := joinLast_good g.1 g.2 c e.symm hc (h.own g (List.mem_cons_self ..)) (h.days g (List.mem_cons_self ..)) (h.asc g (List.mem_cons_self ..))
      have e2 : putG c (g :: r) = (g.1, joinLast g.2 c) :: r := by simp [putG, e]
      rw [e2]
      refine ⟨h.keys, ?_, ?_, ?_, ?_⟩ <;> intro g' hg' <;> rcases List.mem_cons.1 hg' with rfl | hg'
      · exact h'.1
      · exact h.ne g' (List.mem_cons_of_mem _ hg')
      · exact h'.2.1
      · exact h.own g' (List.mem_cons_of_mem _ hg')
      · exact h'.2.2.1
      · exact h.days g' (List.mem_cons_of_mem _ hg')
      · exact h'.2.2.2
      · exact h.asc g' (List.mem_cons_of_mem _ hg')
    · have e2 : putG c (g :: r) = g :: putG c r := by simp [putG, e]
      rw [e2]
      have ih := putG_good c hc r ⟨hn.2, fun g' hg' => h.ne g' (List.mem_cons_of_mem _ hg'), fun g' hg' => h.own g' (List.mem_cons_of_mem _ hg'), fun g' hg' => h.days g' (List.mem_cons_of_mem _ hg'), fun g' hg' => h.asc g' (List.mem_cons_of_mem _ hg')⟩
      refine ⟨?_, ?_, ?_, ?_, ?_⟩
      · refine List.nodup_cons.2 ⟨fun hk => ?_, ih.keys⟩
        rcases (putG_keys c r g.1).1 hk with hk | hk
        · exact hn.1 hk
        · exact e hk
      all_goals intro g' hg'; rcases List.mem_cons.1 hg' with rfl | hg'
      · exact h.ne _ (List.mem_cons_self ..)
      · exact ih.ne g' hg'
      · exact h.own _ (List.mem_cons_self ..)
      · exact ih.own g' hg'
      · exact h.days _ (List.mem_cons_self ..)
      · exact ih.days g' hg'
      · exact h.asc _ (List.mem_cons_self ..)
      · exact ih.asc g' hg'
theorem foldl_good : ∀ (zs : List Cl) (G : List (K3 × List Cl)), (∀ c ∈ zs, c.f2 ≤ c.f3) → Good G → Good (zs.foldl (fun G c => putG c G) G)
  | [], G, _, h => h
  | c :: r, G, hv, h => foldl_good r _ (fun x hx => hv x (List.mem_cons_of_mem _ hx)) (putG_good c (hv c (List.mem_cons_self ..)) G h)
theorem groups_good (zs : List Cl) (hv : ∀ c ∈ zs, c.f2 ≤ c.f3) : Good (groups zs) :=
  foldl_good zs [] hv ⟨by simp, by simp, by simp, by simp, by simp⟩
theorem pair_of_pairwise {α : Type} {R : α → α → Prop} : ∀ {l : List α}, l.Pairwise R → ∀ {x y : α}, x ∈ l → y ∈ l → x = y ∨ R x y ∨ R y x
  | [], _, x, y, hx, _ => by simp at hx
  | z :: r, h, x, y, hx, hy => by
    obtain ⟨h1, h2⟩ := List.pairwise_cons.1 h
    rcases List.mem_cons.1 hx with e | hx'
    · rcases List.mem_cons.1 hy with e' | hy'
      · exact .inl (e.trans e'.symm)
      · exact .inr (.inl (e ▸ h1 y hy'))
    · rcases List.mem_cons.1 hy with e' | hy'
      · exact .inr (.inr (e' ▸ h1 x hx'))
      · exact pair_of_pairwise h2 hx' hy'
theorem key_inj {G : List (K3 × List Cl)} (h : (G.map (·.1)).Nodup) : ∀ {x y : K3 × List Cl}, x ∈ G → y ∈ G → x.1 = y.1 → x = y := by
  induction G with
  | nil => intro x y hx; simp at hx
  | cons z r ih =>
    intro x y hx hy e
    rw [List.map_cons, List.nodup_cons] at h
    rcases List.mem_cons.1 hx with rfl | hx'
    · rcases List.mem_cons.1 hy with rfl | hy'
      · rfl
      · exact absurd (e ▸ List.mem_map.2 ⟨y, hy', rfl⟩) h.1
    · rcases List.mem_cons.1 hy with rfl | hy'
      · exact absurd (e ▸ List.mem_map.2 ⟨x, hx', rfl⟩) h.1
      · exact ih h.2 hx' hy' e
/-- In the groups, claims that compare as equal are one. -/
theorem good_eq {G : List (K3 × List Cl)} (h : Good G) {x y : Cl} (hx : x ∈ G.flatMap (·.2)) (hy : y ∈ G.flatMap (·.2)) (h1 : ¬ ltC x y) (h2 : ¬ ltC y x) : x = y := by
  obtain ⟨g, hg, hxg⟩ := List.mem_flatMap.1 hx
  obtain ⟨g', hg', hyg⟩ := List.mem_flatMap.1 hy
  have hq : x.f0 = y.f0 ∧ x.f1 = y.f1 ∧ x.f4 = y.f4 ∧ x.f2 = y.f2 := by unfold ltC at h1 h2; omega
  have hk : g.1 = g'.1 := by
    rw [← h.own g hg x hxg, ← h.own g' hg' y hyg]
    simp [keyC, hq.1, hq.2.1, hq.2.2.1]
  obtain rfl := key_inj h.keys hg hg' hk
  rcases pair_of_pairwise (h.asc g hg) hxg hyg with e | e | e
  · exact e
  · have := h.days g hg x hxg; omega
  · have := h.days g hg y hyg; omega
/-- WHAT THE WALK WANTS: whatever ascending order came first, whatever order the groups came in, whatever ascending order of them all: it is normC. -/
theorem normC_of {l zs out ys : List Cl} (hv : ∀ c ∈ l, c.f2 ≤ c.f3) (hp : zs.Perm l) (hz : Asc zs) (ho : out.Perm ((groups zs).flatMap (·.2))) (hq : ys.Perm out) (hy : Asc ys) : ys = normC l := by
  have hvz : ∀ c ∈ zs, c.f2 ≤ c.f3 := fun c hc => hv c (hp.mem_iff.1 hc)
  have e : groups zs = groups (sortC l) := groups_asc (hp.trans (sortC_perm l).symm) hz (sortC_asc l) hvz
  have hg := groups_good zs hvz
  have hall : ys.Perm ((groups zs).flatMap (·.2)) := hq.trans ho
  refine asc_unique (hall.trans ?_) hy (sortC_asc _) (fun x hx y hy' h1 h2 => good_eq hg (hall.mem_iff.1 hx) (hall.mem_iff.1 hy') h1 h2)
  unfold normC
  rw [← e]
  exact (sortC_perm _).symm
end Go.Proofs.Ytpggedoopjcflaa.PClaimHash
