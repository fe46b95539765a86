/- ClaimHash: the plain law: encodings of eight bytes that differ have different hashes. -/
import Derived.Test.YtpggedoopjcflaaPClaimHashx0
import Derived.Test.YtpggedoopjcflaaPClaimHashx2
import Derived.Test.YtpggedoopjcflaaPClaimHashEClaimEnc
import Derived.Test.YtpggedoopjcflaaPClaimHashEHash
import Derived.Test.YtpggedoopjcflaaPClaimHashEClaimEnc
import Derived.Test.YtpggedoopjcflaaPClaimHashEHash
namespace Go.Proofs.Ytpggedoopjcflaa.PClaimHash
open Go.RowKit Go.Proofs.YtpggedoopjcflaaW.PrintWords
theorem horner_inj : ∀ (a b : List Int), a.length = b.length → (∀ x ∈ a, 0 ≤ x ∧ x ≤ 255) → (∀ x ∈ b, 0 ≤ x ∧ x ≤ 255) → Hash.horner a = Hash.horner b → a = b
  | [], [], _, _, _, _ => rfl
  | [], _ :: _, hl, _, _, _ => by simp at hl
  | _ :: _, [], hl, _, _, _ => by simp at hl
  | x :: r, y :: s, hl, ha, hb, h => by
    have hx := ha x (List.mem_cons_self ..)
    have hy := hb y (List.mem_cons_self ..)
    simp only [Hash.horner] at h
    have e1 : x = y := by omega
    have e2 : Hash.horner r = Hash.horner s := by omega
    rw [e1, horner_inj r s (by simpa using hl) (fun z hz => ha z (List.mem_cons_of_mem _ hz)) (fun z hz => hb z (List.mem_cons_of_mem _ hz)) e2]
theorem sum_mid (lab u v : List Int) (x y : Int) (hx : 0 ≤ x ∧ x < 18446744073709551616) (hy : 0 ≤ y ∧ y < 18446744073709551616) (hv : ∀ z ∈ v, 0 ≤ z ∧ z < 18446744073709551616)
    (h : Hash.sumI lab (u ++ x :: v) = Hash.sumI lab (u ++ y :: v)) : x = y := by
  unfold Hash.sumI at h
  have el : (u ++ x :: v).length = (u ++ y :: v).length := by simp
  rw [el] at h
  have h1 := Hash.mixI_left (Hash.foldl_bd _ _ (Hash.mixI_bd _ _)) (Hash.foldl_bd _ _ (Hash.mixI_bd _ _)) (by omega) h
  rw [List.foldl_append, List.foldl_append, List.foldl_cons, List.foldl_cons] at h1
  have h2 := Hash.foldl_left v hv _ _ (Hash.mixI_bd _ _) (Hash.mixI_bd _ _) h1
  exact Hash.mixI_right (Hash.foldl_bd _ _ (Hash.mixI_bd _ _)) hx hy h2
theorem words8 (c : List Int) (hc : c.length = 8) : Hash.wordsI c = [Hash.horner c] := by
  unfold Hash.wordsI Hash.nWords Hash.wordAt
  rw [hc]
  simp only [show (8 + 7) / 8 = 1 from rfl, List.range_one, List.map_cons, List.map_nil, Nat.mul_zero, List.drop_zero]
  rw [List.take_of_length_le (by omega)]
theorem hash8 (lab c d : List Int) (hc : c.length = 8) (hd : d.length = 8) (rc : ∀ x ∈ c, 0 ≤ x ∧ x ≤ 255) (rd : ∀ x ∈ d, 0 ≤ x ∧ x ≤ 255)
    (h : Hash.hashI lab c = Hash.hashI lab d) : c = d := by
  unfold Hash.hashI at h
  rw [words8 c hc, words8 d hd, hc, hd] at h
  have e1 := Hash.horner_bd c rc
  have e2 := Hash.horner_bd d rd
  rw [hc] at e1
  rw [hd] at e2
  exact horner_inj c d (by omega) rc rd (sum_mid lab [] [((8 : Nat) : Int)] _ _ (by omega) (by omega) (by simp) h)
def encOf (o f : Int) : List Int := 2 :: 0 :: (2 * o) :: (2 * f) :: [224, 197, 8, 18]
theorem ivar_small {n : Int} (h0 : 0 ≤ n) (h1 : n < 64) : Wire.ivar n = [2 * n] := by
  unfold Wire.ivar Wire.zz
  rw [if_neg (by omega), Wire.uvar_small (by omega)]
theorem encOf_eq (o f : Int) (ho : 0 ≤ o ∧ o < 64) (hf : 0 ≤ f ∧ f < 64) : encClaims [⟨0, o, f, 70000, 9⟩] = encOf o f := by
  unfold encClaims encClaim encInts claimInts
  simp only [List.flatMap_cons, List.flatMap_nil, List.length_singleton, List.append_nil]
  rw [ivar_small ho.1 ho.2, ivar_small hf.1 hf.2]
  rfl
theorem enc_range (o f : Int) (ho : 0 ≤ o ∧ o < 64) (hf : 0 ≤ f ∧ f < 64) : ∀ x ∈ encOf o f, 0 ≤ x ∧ x ≤ 255 := by
  intro x hx
  simp only [encOf, List.mem_cons, List.not_mem_nil, or_false] at hx
  omega
theorem enc_vld (o f : Int) (ho : 0 ≤ o ∧ o < 64) (hf : 0 ≤ f ∧ f < 64) : ([⟨0, o, f, 70000, 9⟩] : List Cl).all vldC = true := by
  simp only [List.all_cons, List.all_nil, Bool.and_true]
  rw [vldC_iff]
  refine ⟨⟨?_, ?_⟩, ⟨?_, ?_⟩, ⟨?_, ?_⟩, ⟨?_, ?_⟩, ?_, ?_, ?_⟩ <;> simp only <;> omega
theorem enc_f (o f : Int) (ho : 0 ≤ o ∧ o < 64) (hf : 0 ≤ f ∧ f < 64) : claim_Encode.f [⟨0, o, f, 70000, 9⟩] = some (encOf o f, 0) := by
  unfold claim_Encode.f
  rw [if_pos (enc_vld o f ho hf), if_neg (by simp), encOf_eq o f ho hf]
def cHash (o f : Int) : Int := Hash.hashI (bytesOf ⟨#[99]⟩) (encOf o f)
theorem hash_f (o f : Int) (ho : 0 ≤ o ∧ o < 64) (hf : 0 ≤ f ∧ f < 64) : hash_Bytes.f ⟨#[99]⟩ (encOf o f) = some (cHash o f) := by
  unfold hash_Bytes.f
  rw [if_pos ⟨Hash.okB_iff.2 (enc_range o f ho hf), by decide, by simp [encOf]⟩]
  rfl
theorem cHash_iff (o o' f : Int) (ho : 0 ≤ o ∧ o < 64) (ho' : 0 ≤ o' ∧ o' < 64) (hf : 0 ≤ f ∧ f < 64) : (cHash o f == cHash o' f) = decide (o = o') := by
  rw [Bool.eq_iff_iff]
  simp only [beq_iff_eq, decide_eq_true_eq]
  constructor
  · intro h
    have := hash8 _ _ _ rfl rfl (enc_range o f ho hf) (enc_range o' f ho' hf) h
    simp only [encOf, List.cons.injEq] at this
    omega
  · intro h
    rw [h]
def aroundI (a m : Int) : Int := if a < 0 then (-(a + 1)) % m else a % m
theorem around_eq (a m : Int) (ha : -9223372036854775808 ≤ a) (ha' : a ≤ 9223372036854775807) (hm : 0 < m) : meresmanref01_Around.f a m = some (aroundI a m) := by
  unfold meresmanref01_Around.f aroundI
  split
  · rw [if_neg (by omega)]
    have e : wrap64 (-(wrap64 (a + 1))) = -(a + 1) := by unfold wrap64; omega
    rw [e, Int.tmod_eq_emod_of_nonneg (by omega)]
  · rw [if_neg (by omega), Int.tmod_eq_emod_of_nonneg (by omega)]
theorem aroundI_bd (a m : Int) (hm : 0 < m) : 0 ≤ aroundI a m ∧ aroundI a m < m := by
  unfold aroundI
  split
  · exact ⟨Int.emod_nonneg _ (by omega), Int.emod_lt_of_pos _ hm⟩
  · exact ⟨Int.emod_nonneg _ (by omega), Int.emod_lt_of_pos _ hm⟩
end Go.Proofs.Ytpggedoopjcflaa.PClaimHash
