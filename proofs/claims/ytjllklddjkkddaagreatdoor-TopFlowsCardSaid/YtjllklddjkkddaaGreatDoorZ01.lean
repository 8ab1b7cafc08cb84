/- Plain facts on the numbers of the laws: the remainder that the laws draw by, the distance of two counters. No condition. -/
import Derived.WalkKit
namespace Go.Proofs.YtjllklddjkkddaaGreatDoor
open Go.RowKit
/-- The laws' own remainder: a number of any sort, taken as 64 bits without a sign, modulo n. -/
def rest (k n : Int) : Int := (k % 18446744073709551616) % n
theorem rest_nonneg (k n : Int) (h : 1 ≤ n) : 0 ≤ rest k n := Int.emod_nonneg _ (by omega)
theorem rest_lt (k n : Int) (h : 1 ≤ n) : rest k n < n := Int.emod_lt_of_pos _ (by omega)
/-- The distance of two counters of 32 bits, the nearer way round. -/
def far (a b : Int) : Int := wrap64 (wrap32 ((b - a) % 4294967296))
theorem far_eq (a b : Int) : far a b = (b - a + 2147483648) % 4294967296 - 2147483648 := by
  unfold far wrap64 wrap32
  omega
theorem ret_int {k : IntKind} {a b : Int} (h : a = b) : Ending.returned (.int k a) = .returned (.int k b) := by rw [h]
theorem ret_bool {a b : Bool} (h : a = b) : Ending.returned (.bool a) = .returned (.bool b) := by rw [h]
theorem u16_wrap (n : Int) : IntKind.u16.wrap n = n % 65536 := by simp [IntKind.wrap, IntKind.signed, IntKind.bits]
theorem u32_wrap (n : Int) : IntKind.u32.wrap n = n % 4294967296 := by simp [IntKind.wrap, IntKind.signed, IntKind.bits]
/-- Of numbers below n there are at most n different ones. -/
theorem nodup_bound (n : Nat) : ∀ (l : List Nat), l.Nodup → (∀ x ∈ l, x < n) → l.length ≤ n := by
  induction n with
  | zero =>
    intro l _ h
    cases l with
    | nil => simp
    | cons x r => exact absurd (h x (by simp)) (by omega)
  | succ n ih =>
    intro l hn h
    by_cases hm : n ∈ l
    · have h1 := ih (l.erase n) (hn.erase n) (fun x hx => by
        have h2 := (List.Nodup.mem_erase_iff hn).1 hx
        have := h x h2.2
        omega)
      rw [List.length_erase_of_mem hm] at h1
      omega
    · have := ih l hn (fun x hx => by
        have := h x hx
        have : x ≠ n := fun he => hm (he ▸ hx)
        omega)
      omega
end Go.Proofs.YtjllklddjkkddaaGreatDoor
