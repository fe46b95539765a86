/- hash.Bytes as the printed functions name it. -/
import Derived.Test.YtpggedoopjcflaaPClaimHashx0
import Derived.Test.YtpggedoopjcflaaHashS
namespace Go.Proofs.Ytpggedoopjcflaa.PClaimHash
open Go.RowKit Go.Proofs.YtpggedoopjcflaaW.PrintWords
def hash_Bytes.f (a0 : ByteArray) (l1 : List Int) : Option Int :=
  if Hash.okB l1 = true ∧ a0.size ≤ 140737488351232 ∧ l1.length ≤ 140737488351232 then some (Hash.hashI (bytesOf a0) l1) else none
theorem hash_Bytes.calls (a0 : ByteArray) (A1 : Option Addr) (c1 : Nat) (l1 : List Int) (r : Int) (w : World) (hr1 : Kd.C (Kd.int .u8) w A1 l1.length l1) (_hc1 : l1.length ≤ c1) (h : hash_Bytes.f a0 l1 = some r) :
    Calls Try.prog 7 #[.string a0, .slice A1 l1.length c1] w fun e w' => e = .returned (.int .u64 r) ∧ Below w.heap.size w w' := by
  unfold hash_Bytes.f at h
  split at h
  · rename_i hc
    obtain ⟨h1, h2, h3⟩ := hc
    cases h
    exact Hash.Bytes_any a0 A1 l1.length c1 l1 (Hash.okB_iff.1 h1) h2 h3 w (readsInt_of.2 (Kd.reads_of_C hr1))
  · cases h
end Go.Proofs.Ytpggedoopjcflaa.PClaimHash
