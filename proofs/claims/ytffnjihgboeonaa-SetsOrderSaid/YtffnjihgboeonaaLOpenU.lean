/- A list of numbers as an argument, told as natural numbers. -/
import Derived.Test.YtffnjihgboeonaaLSrtM
import Derived.Test.YtffnjihgboeonaaLOpen
namespace Go.AX.Try
open Go Go.AX Go.AX.Lw Go.Proofs
theorem u64_nat {z : Int} (h : (Lit.int .u64 z).wf = true) : ∃ m : Nat, z = m ∧ m < 18446744073709551616 := by
  have : IntKind.u64.min ≤ z ∧ z ≤ IntKind.u64.max := by simpa [Lit.wf] using h
  have h1 : IntKind.u64.min = 0 := by decide
  have h2 : IntKind.u64.max = 18446744073709551615 := by decide
  exact ⟨z.toNat, by omega, by omega⟩
theorem nums_natU {zs : List Int} (h : ∀ z ∈ zs, (Lit.int .u64 z).wf = true) : zs.map (Value.int .u64) = nums (zs.map Int.toNat) ∧ Small (zs.map Int.toNat) := by
  refine ⟨?_, fun x hx => ?_⟩
  · unfold nums
    rw [List.map_map]
    refine List.map_congr_left fun z hz => ?_
    obtain ⟨m, hm, _⟩ := u64_nat (h z hz)
    simp only [Function.comp]
    congr 1; omega
  · obtain ⟨z, hz, rfl⟩ := List.mem_map.1 hx
    obtain ⟨m, hm, hl⟩ := u64_nat (h z hz)
    omega
end Go.AX.Try
