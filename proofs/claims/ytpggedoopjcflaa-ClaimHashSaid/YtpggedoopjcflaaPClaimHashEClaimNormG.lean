/- The groups of claims in memory: what a round of Normal does to them. -/
import Derived.Test.YtpggedoopjcflaaPClaimHashx0
import Derived.Test.YtpggedoopjcflaaPClaimHashEClaimSort
import Derived.Test.YtpggedoopjcflaaPClaimHashEClaimKey
namespace Go.Proofs.Ytpggedoopjcflaa.PClaimHash
open Go.RowKit Go.Proofs.YtpggedoopjcflaaW.PrintWords
set_option maxRecDepth 100000
/-! ### plain -/
theorem joinLast_mem {s : List Cl} {c x : Cl} (h : x ∈ joinLast s c) : x ∈ s ∨ x = c ∨ ∃ z ∈ s, x = { z with f3 := max z.f3 c.f3 } := by
  rcases eq_snoc s with rfl | ⟨t, z, rfl⟩
  · simp [joinLast] at h
    exact .inr (.inl h)
  · rw [joinLast_snoc] at h
    split at h
    · rcases List.mem_append.1 h with h | h
      · exact .inl (List.mem_append_left _ h)
      · simp at h
        exact .inr (.inr ⟨z, by simp, h⟩)
    · rcases List.mem_append.1 h with h | h
      · exact .inl h
      · simp at h
        exact .inr (.inl h)
theorem joinLast_vld {s : List Cl} {c : Cl} (hs : ∀ x ∈ s, vldC x = true) (hc : vldC c = true) : ∀ x ∈ joinLast s c, vldC x = true := by
  intro x hx
  rcases joinLast_mem hx with h | rfl | ⟨z, hz, rfl⟩
  · exact hs x h
  · exact hc
  · have h1 := vldC_iff.1 (hs z hz)
    have h2 := vldC_iff.1 hc
    rw [vldC_iff]
    simp only
    omega
theorem joinLast_len (s : List Cl) (c : Cl) : (joinLast s c).length ≤ s.length + 1 := by
  rcases eq_snoc s with rfl | ⟨t, z, rfl⟩
  · simp [joinLast]
  · rw [joinLast_snoc]
    split <;> simp
theorem putG_vld (c : Cl) (hc : vldC c = true) : ∀ G : List (K3 × List Cl), (∀ g ∈ G, ∀ x ∈ g.2, vldC x = true) → ∀ g ∈ putG c G, ∀ x ∈ g.2, vldC x = true
  | [], _, g, hg, x, hx => by
    simp [putG] at hg
    subst hg
    exact joinLast_vld (s := []) (by simp) hc x hx
  | h :: r, hG, g, hg, x, hx => by
    unfold putG at hg
    split at hg
    · rcases List.mem_cons.1 hg with rfl | hg
      · exact joinLast_vld (hG h (List.mem_cons_self ..)) hc x hx
      · exact hG g (List.mem_cons_of_mem _ hg) x hx
    · rcases List.mem_cons.1 hg with rfl | hg
      · exact hG _ (List.mem_cons_self ..) x hx
      · exact putG_vld c hc r (fun g' hg' => hG g' (List.mem_cons_of_mem _ hg')) g hg x hx
theorem putG_len (c : Cl) : ∀ G : List (K3 × List Cl), ((putG c G).flatMap (·.2)).length ≤ (G.flatMap (·.2)).length + 1
  | [] => by simp [putG, joinLast]
  | g :: r => by
    unfold putG
    split
    · have := joinLast_len g.2 c
      simp only [List.flatMap_cons, List.length_append]
      omega
    · have := putG_len c r
      simp only [List.flatMap_cons, List.length_append] at this ⊢
      omega
theorem foldl_vld : ∀ (zs : List Cl) (G : List (K3 × List Cl)), (∀ c ∈ zs, vldC c = true) → (∀ g ∈ G, ∀ x ∈ g.2, vldC x = true) → ∀ g ∈ zs.foldl (fun G c => putG c G) G, ∀ x ∈ g.2, vldC x = true
  | [], _, _, h => h
  | c :: r, G, hz, h => foldl_vld r _ (fun x hx => hz x (List.mem_cons_of_mem _ hx)) (putG_vld c (hz c (List.mem_cons_self ..)) G h)
theorem foldl_len : ∀ (zs : List Cl) (G : List (K3 × List Cl)), ((zs.foldl (fun G c => putG c G) G).flatMap (·.2)).length ≤ (G.flatMap (·.2)).length + zs.length
  | [], _ => by simp
  | c :: r, G => by
    have h1 := foldl_len r (putG c G)
    have h2 := putG_len c G
    simp only [List.foldl_cons, List.length_cons]
    omega
theorem groups_vld (zs : List Cl) (hz : ∀ c ∈ zs, vldC c = true) : ∀ g ∈ groups zs, ∀ x ∈ g.2, vldC x = true := foldl_vld zs [] hz (by simp)
theorem groups_len (zs : List Cl) : ((groups zs).flatMap (·.2)).length ≤ zs.length := by simpa [groups] using foldl_len zs []
theorem groups_step (zs : List Cl) (k : Nat) (h : k < zs.length) : groups (zs.take (k + 1)) = putG zs[k] (groups (zs.take k)) := by
  rw [groups, take_succ zs k h, List.foldl_append]
  rfl
theorem len_le_flat {G : List (K3 × List Cl)} {g : K3 × List Cl} (h : g ∈ G) : g.2.length ≤ (G.flatMap (·.2)).length := by
  obtain ⟨a, b, rfl⟩ := List.append_of_mem h
  simp only [List.flatMap_append, List.flatMap_cons, List.length_append]
  omega
/-! ### in memory -/
abbrev Gr := K3 × Value × List Cl
def absG (G : List Gr) : List (K3 × List Cl) := G.map fun g => (g.1, g.2.2)
def prsG (G : List Gr) : List (K3 × Value) := G.map fun g => (g.1, g.2.1)
theorem split_get (k : K3) : ∀ G : List Gr, (Map.get (prsG G) k = none ∧ ∀ g ∈ G, g.1 ≠ k) ∨ ∃ G1 g G2, G = G1 ++ g :: G2 ∧ g.1 = k ∧ (∀ h ∈ G1, h.1 ≠ k) ∧ Map.get (prsG G) k = some g.2.1
  | [] => .inl ⟨rfl, by simp⟩
  | g :: r => by
    by_cases e : g.1 = k
    · exact .inr ⟨[], g, r, rfl, e, by simp, by simp [Map.get, prsG, e]⟩
    · rcases split_get k r with ⟨h1, h2⟩ | ⟨G1, h, G2, rfl, h2, h3, h4⟩
      · refine .inl ⟨by simp only [prsG] at h1; simpa [Map.get, prsG, e] using h1, fun h hh => ?_⟩
        rcases List.mem_cons.1 hh with rfl | hh
        · exact e
        · exact h2 h hh
      · refine .inr ⟨g :: G1, h, G2, rfl, h2, fun x hx => ?_, by simp only [prsG] at h4; simpa [Map.get, prsG, e] using h4⟩
        rcases List.mem_cons.1 hx with rfl | hx
        · exact e
        · exact h3 x hx
theorem putG_split (c : Cl) (G2 : List Gr) (g : Gr) (hg : g.1 = keyC c) (v : Value) : ∀ G1 : List Gr, (∀ h ∈ G1, h.1 ≠ keyC c) → putG c (absG (G1 ++ g :: G2)) = absG (G1 ++ (g.1, v, joinLast g.2.2 c) :: G2)
  | [], _ => by simp [absG, putG, hg]
  | h :: r, hn => by
    have ih := putG_split c G2 g hg v r (fun x hx => hn x (List.mem_cons_of_mem _ hx))
    have hh := hn h (List.mem_cons_self ..)
    simp only [absG, List.cons_append, List.map_cons, putG, hh, if_false] at ih ⊢
    rw [ih]
theorem putG_none (c : Cl) (v : Value) : ∀ G : List Gr, (∀ h ∈ G, h.1 ≠ keyC c) → putG c (absG G) = absG (G ++ [(keyC c, v, [c])])
  | [], _ => by simp [absG, putG, joinLast]
  | h :: r, hn => by
    have ih := putG_none c v r (fun x hx => hn x (List.mem_cons_of_mem _ hx))
    have hh := hn h (List.mem_cons_self ..)
    simp only [absG, List.cons_append, List.map_cons, putG, hh, if_false] at ih ⊢
    rw [ih]
theorem put_split (k : K3) (v : Value) (s : List Cl) (G2 : List Gr) (g : Gr) (hg : g.1 = k) : ∀ G1 : List Gr, (∀ h ∈ G1, h.1 ≠ k) → Map.put k v (prsG (G1 ++ g :: G2)) = prsG (G1 ++ (g.1, v, s) :: G2)
  | [], _ => by simp [prsG, Map.put, hg]
  | h :: r, hn => by
    have ih := put_split k v s G2 g hg r (fun x hx => hn x (List.mem_cons_of_mem _ hx))
    have hh := hn h (List.mem_cons_self ..)
    simp only [prsG, List.cons_append, List.map_cons, Map.put, hh, if_false] at ih ⊢
    rw [ih]
theorem put_none (k : K3) (v : Value) (s : List Cl) : ∀ G : List Gr, (∀ h ∈ G, h.1 ≠ k) → Map.put k v (prsG G) = prsG (G ++ [(k, v, s)])
  | [], _ => by simp [prsG, Map.put]
  | h :: r, hn => by
    have ih := put_none k v s r (fun x hx => hn x (List.mem_cons_of_mem _ hx))
    have hh := hn h (List.mem_cons_self ..)
    simp only [prsG, List.cons_append, List.map_cons, Map.put, hh, if_false] at ih ⊢
    rw [ih]
/-- The groups' rows: each lies from n₁ on, no two in one block. -/
structure GrAt (W : World) (n₁ : Nat) (G : List Gr) : Prop where
  rows : ∀ g ∈ G, W.ownsRow n₁ 24 5 g.2.1 g.2.2.length (g.2.2.flatMap encCl)
  ne : ∀ g ∈ G, g.2.2 ≠ []
  apart : (G.map fun g => g.2.1.ownBlock).Nodup
theorem GrAt.kept {W W' : World} {n₁ : Nat} {G : List Gr} {row : Option Nat} (h : GrAt W n₁ G) (hg : W.grownBy W' row) (hr : ∀ g ∈ G, g.2.1.ownBlock = none ∨ g.2.1.ownBlock ≠ row) : GrAt W' n₁ G :=
  ⟨fun g hG => (h.rows g hG).kept hg (hr g hG), h.ne, h.apart⟩
theorem GrAt.row {W : World} {n₁ : Nat} {G : List Gr} (h : GrAt W n₁ G) {g : Gr} (hg : g ∈ G) : ∃ gb cap, g.2.1 = .slice (some ⟨gb, 0, none⟩) g.2.2.length cap ∧ n₁ ≤ gb := by
  rcases (h.rows g hg).2 with ⟨_, h0⟩ | ⟨gb, cap, cur, hv, hb, _⟩
  · exact absurd (List.eq_nil_of_length_eq_zero h0) (h.ne g hg)
  · exact ⟨gb, cap, hv, hb⟩
theorem GrAt.alloc {W : World} {n₁ : Nat} {G : List Gr} (h : GrAt W n₁ G) (o : Obj) : GrAt (W.alloc o) n₁ G :=
  h.kept (World.grownBy_alloc W o none) (fun g hg => by obtain ⟨gb, cap, e, _⟩ := h.row hg; rw [e]; exact .inr (by simp [Value.ownBlock]))
theorem GrAt.below {W W' : World} {n₁ b : Nat} {G : List Gr} (h : GrAt W n₁ G) (hg : W.grownBy W' (some b)) (hb : b < n₁) : GrAt W' n₁ G :=
  h.kept hg (fun g hG => by
    obtain ⟨gb, cap, e, hgb⟩ := h.row hG
    rw [e]
    exact .inr (by simp [Value.ownBlock]; omega))
/-- One group has turned, in its own row or in a new one. -/
theorem GrAt.turn {W W' : World} {n₁ : Nat} {G1 G2 : List Gr} {g : Gr} {v' : Value} {s' : List Cl} (h : GrAt W n₁ (G1 ++ g :: G2)) (hg : W.grownBy W' g.2.1.ownBlock) (hown : W'.ownsRow n₁ 24 5 v' s'.length (s'.flatMap encCl)) (hs : s' ≠ [])
    (hat : v'.ownBlock = g.2.1.ownBlock ∨ ∃ b, v'.ownBlock = some b ∧ W.heap.size ≤ b) : GrAt W' n₁ (G1 ++ (g.1, v', s') :: G2) := by
  have hap := h.apart
  rw [List.map_append, List.map_cons, List.nodup_append, List.nodup_cons] at hap
  have hoth : ∀ x ∈ G1 ++ G2, x.2.1.ownBlock ≠ g.2.1.ownBlock := by
    intro x hx e
    rcases List.mem_append.1 hx with hx | hx
    · exact hap.2.2 _ (List.mem_map.2 ⟨x, hx, rfl⟩) _ (List.mem_cons_self ..) e
    · exact hap.2.1.1 (e ▸ List.mem_map.2 ⟨x, hx, rfl⟩)
  have hin : ∀ x ∈ G1 ++ G2, x ∈ G1 ++ g :: G2 := by
    intro x hx
    rcases List.mem_append.1 hx with hx | hx
    · exact List.mem_append_left _ hx
    · exact List.mem_append_right _ (List.mem_cons_of_mem _ hx)
  have hnew : ∀ x ∈ G1 ++ G2, x.2.1.ownBlock ≠ v'.ownBlock := by
    intro x hx e
    rcases hat with e' | ⟨b, e', hb⟩
    · exact hoth x hx (e.trans e')
    · have := ((h.rows x (hin x hx)).lt b (e.trans e')).2
      omega
  refine ⟨fun x hx => ?_, fun x hx => ?_, ?_⟩
  · rcases List.mem_append.1 hx with hx | hx
    · exact (h.rows x (List.mem_append_left _ hx)).kept hg (.inr (hoth x (List.mem_append_left _ hx)))
    · rcases List.mem_cons.1 hx with rfl | hx
      · exact hown
      · exact (h.rows x (List.mem_append_right _ (List.mem_cons_of_mem _ hx))).kept hg (.inr (hoth x (List.mem_append_right _ hx)))
  · rcases List.mem_append.1 hx with hx | hx
    · exact h.ne x (List.mem_append_left _ hx)
    · rcases List.mem_cons.1 hx with rfl | hx
      · exact hs
      · exact h.ne x (List.mem_append_right _ (List.mem_cons_of_mem _ hx))
  · rw [List.map_append, List.map_cons, List.nodup_append, List.nodup_cons]
    refine ⟨hap.1, ⟨fun hm => ?_, hap.2.1.2⟩, fun a ha b hb e => ?_⟩
    · obtain ⟨x, hx, e⟩ := List.mem_map.1 hm
      exact hnew x (List.mem_append_right _ hx) e
    · obtain ⟨x, hx, rfl⟩ := List.mem_map.1 ha
      rcases List.mem_cons.1 hb with rfl | hb
      · exact hnew x (List.mem_append_left _ hx) e
      · exact hap.2.2 _ ha _ (List.mem_cons_of_mem _ hb) e
/-- A new group. -/
theorem GrAt.more {W W' : World} {n₁ : Nat} {G : List Gr} {k : K3} {v' : Value} {s' : List Cl} (h : GrAt W n₁ G) (hg : W.grownBy W' none) (hown : W'.ownsRow n₁ 24 5 v' s'.length (s'.flatMap encCl)) (hs : s' ≠ [])
    (hat : ∃ b, v'.ownBlock = some b ∧ W.heap.size ≤ b) : GrAt W' n₁ (G ++ [(k, v', s')]) := by
  refine ⟨fun x hx => ?_, fun x hx => ?_, ?_⟩
  · rcases List.mem_append.1 hx with hx | hx
    · refine (h.rows x hx).kept hg ?_
      obtain ⟨gb, cap, e, _⟩ := h.row hx
      exact .inr (by rw [e]; simp [Value.ownBlock])
    · simp at hx
      rw [hx]
      exact hown
  · rcases List.mem_append.1 hx with hx | hx
    · exact h.ne x hx
    · simp at hx
      rw [hx]
      exact hs
  · rw [List.map_append, List.nodup_append]
    refine ⟨h.apart, by simp, fun a ha b hb e => ?_⟩
    obtain ⟨x, hx, rfl⟩ := List.mem_map.1 ha
    obtain ⟨b', e', hb'⟩ := hat
    simp at hb
    rw [hb, e'] at e
    have := ((h.rows x hx).lt b' e).2
    omega
/-- The last claim of a row: its cells, and the row when its last day has turned. -/
theorem row_last {W : World} {n₁ g cap : Nat} {t : List Cl} {x : Cl} (h : W.ownsRow n₁ 24 5 (.slice (some ⟨g, 0, none⟩) (t ++ [x]).length cap) (t ++ [x]).length ((t ++ [x]).flatMap encCl)) :
    W.cell? ⟨g, t.length * 5 + 3, none⟩ = some (.int .i64 x.f3) ∧ W.frozen? ⟨g, t.length * 5 + 3, none⟩ = false ∧
    ∀ n : Int, (W.setCell ⟨g, t.length * 5 + 3, none⟩ (.int .i64 n)).ownsRow n₁ 24 5 (.slice (some ⟨g, 0, none⟩) (t ++ [x]).length cap) (t ++ [x]).length ((t ++ [{ x with f3 := n }]).flatMap encCl) := by
  obtain ⟨hl, hr⟩ := h
  rcases hr with ⟨e, _⟩ | ⟨g', cap', cur, e, hb, hh, hnc, hcm, hcs, htk⟩
  · cases e
  cases e
  have hfl : ∀ s : List Cl, (s.flatMap encCl).length = s.length * 5 := by
    intro s
    induction s with
    | nil => rfl
    | cons y r ih => rw [List.flatMap_cons, List.length_append, ih, List.length_cons]; simp [encCl]; omega
  have hlen : (t ++ [x]).length = t.length + 1 := by simp
  have hsz : t.length * 5 + 5 ≤ cur.size := by rw [hcs]; rw [hlen] at hnc; omega
  have hcell : cur[t.length * 5 + 3]? = some (.int .i64 x.f3) := by
    have e1 : cur[t.length * 5 + 3]? = ((t ++ [x]).flatMap encCl)[t.length * 5 + 3]? := by
      rw [← htk, List.getElem?_take_of_lt (by rw [hlen]; omega), Array.getElem?_toList]
    rw [e1, List.flatMap_append, List.getElem?_append_right (by rw [hfl]; omega), hfl]
    rw [show t.length * 5 + 3 - t.length * 5 = 3 by omega]
    rfl
  refine ⟨by simp only [World.cell?, hh]; exact hcell, by simp [World.frozen?, hh], fun n => ⟨by rw [hfl]; simp, .inr ⟨g, cap, _, rfl, hb, blk_set hh _ _, hnc, hcm, by rw [Array.size_setIfInBounds, hcs], ?_⟩⟩⟩
  rw [Array.toList_setIfInBounds, List.take_set, htk, List.flatMap_append, List.flatMap_append, List.set_append, if_neg (by rw [hfl]; omega), hfl, show t.length * 5 + 3 - t.length * 5 = 3 by omega]
  rfl
/-- A group's claims, by its key. -/
def lstG (G : List Gr) (p : K3 × Value) : List Cl := ((G.find? fun g => decide (g.1 = p.1)).map (·.2.2)).getD []
theorem lstG_of {G : List Gr} (hn : (G.map (·.1)).Nodup) : ∀ {g : Gr}, g ∈ G → lstG G (g.1, g.2.1) = g.2.2 := by
  induction G with
  | nil => intro g hg; simp at hg
  | cons h r ih =>
    intro g hg
    rw [List.map_cons, List.nodup_cons] at hn
    rcases List.mem_cons.1 hg with rfl | hg'
    · simp [lstG]
    · have hne : h.1 ≠ g.1 := fun e => hn.1 (e ▸ List.mem_map.2 ⟨g, hg', rfl⟩)
      have := ih hn.2 hg'
      simpa [lstG, hne] using this
theorem flat_lstG {G : List Gr} (hn : (G.map (·.1)).Nodup) : (prsG G).flatMap (lstG G) = (absG G).flatMap (·.2) := by
  have h : ∀ l : List Gr, (∀ g ∈ l, g ∈ G) → (prsG l).flatMap (lstG G) = (absG l).flatMap (·.2) := by
    intro l
    induction l with
    | nil => intro _; rfl
    | cons g r ih =>
      intro hl
      have := ih (fun x hx => hl x (List.mem_cons_of_mem _ hx))
      simp only [prsG, absG, List.map_cons, List.flatMap_cons] at this ⊢
      rw [this, lstG_of hn (hl g (List.mem_cons_self ..))]
  exact h G (fun _ hg => hg)
theorem cells_of_own {W : World} {base g cap n : Nat} {e : TypeId} {size : Nat} {xs : List Value} (h : W.ownsRow base e size (.slice (some ⟨g, 0, none⟩) n cap) n xs) : ∀ j u, xs[j]? = some u → W.cell? (Addr.add ⟨g, 0, none⟩ j) = some u := by
  obtain ⟨hl, hr⟩ := h
  rcases hr with ⟨e, _⟩ | ⟨g', cap', cur, e, hb, hh, hnc, hcm, hcs, htk⟩
  · cases e
  cases e
  intro j u hj
  have hjl : j < n * size := by rw [← hl]; exact (List.getElem?_eq_some_iff.1 hj).1
  have e1 : (Addr.add ⟨g, 0, none⟩ j) = ⟨g, j, none⟩ := by
    rcases j with _ | j
    · rfl
    · simp [Addr.add]
  rw [e1]
  simp only [World.cell?, hh]
  show cur[j]? = _
  rw [← hj, ← htk, List.getElem?_take_of_lt hjl, Array.getElem?_toList]
theorem enc_one {s : List Cl} : ∀ u ∈ s.flatMap encCl, u.oneCell' = true := by
  intro u hu
  obtain ⟨x, _, hx⟩ := List.mem_flatMap.1 hu
  simp [encCl] at hx
  rcases hx with rfl | rfl | rfl | rfl | rfl <;> rfl
theorem enc_len (s : List Cl) : (s.flatMap encCl).length = s.length * 5 := by
  induction s with
  | nil => rfl
  | cons y r ih => rw [List.flatMap_cons, List.length_append, ih, List.length_cons]; simp [encCl]; omega
end Go.Proofs.Ytpggedoopjcflaa.PClaimHash
