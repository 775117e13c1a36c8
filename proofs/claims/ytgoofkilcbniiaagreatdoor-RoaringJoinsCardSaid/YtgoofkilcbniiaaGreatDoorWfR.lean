/- What came in, as plain bounds. -/
import Derived.Test.YtgoofkilcbniiaaGreatDoorRxF
import Derived.Test.YtgoofkilcbniiaaGreatDoorLwA
namespace Go.Rx
theorem wf_int {k : IntKind} {n : Int} (h : (Lit.int k n).wf = true) : IntKind.min k ≤ n ∧ n ≤ IntKind.max k := by simpa [Lit.wf] using h
theorem wf_runs {xs : List (Int × Int)} (h : Wf (.sl (.st (.pair (.int .u16) (.int .u16)))) xs) : Plain.wfR xs := by
  intro p hp
  obtain ⟨h1, h2⟩ := h.2 p hp
  have r1 := wf_int (k := .u16) (n := p.1) h1
  have r2 := wf_int (k := .u16) (n := p.2) h2
  have e1 : IntKind.min .u16 = 0 := rfl
  have e2 : IntKind.max .u16 = 65535 := rfl
  rw [e1, e2] at r1 r2
  omega
theorem wf_u16s {xs : List Int} (h : Wf (.sl (.int .u16)) xs) : ∀ y, y ∈ xs → 0 ≤ y ∧ y < 65536 := by
  intro y hy
  have h1 := wf_int (k := .u16) (n := y) (h.2 y hy)
  have e1 : IntKind.min .u16 = 0 := rfl
  have e2 : IntKind.max .u16 = 65535 := rfl
  rw [e1, e2] at h1
  omega
theorem wf_u16 {n : Int} (h : (Lit.int .u16 n).wf = true) : 0 ≤ n ∧ n < 65536 := by
  have h1 := wf_int h
  have e1 : IntKind.min .u16 = 0 := rfl
  have e2 : IntKind.max .u16 = 65535 := rfl
  rw [e1, e2] at h1
  omega
theorem wf_u8 {n : Int} (h : (Lit.int .u8 n).wf = true) : 0 ≤ n ∧ n < 256 := by
  have h1 := wf_int h
  have e1 : IntKind.min .u8 = 0 := rfl
  have e2 : IntKind.max .u8 = 255 := rfl
  rw [e1, e2] at h1
  omega
theorem wf_u64 {n : Int} (h : (Lit.int .u64 n).wf = true) : 0 ≤ n ∧ n < 18446744073709551616 := by
  have h1 := wf_int h
  have e1 : IntKind.min .u64 = 0 := rfl
  have e2 : IntKind.max .u64 = 18446744073709551615 := rfl
  rw [e1, e2] at h1
  omega
end Go.Rx
