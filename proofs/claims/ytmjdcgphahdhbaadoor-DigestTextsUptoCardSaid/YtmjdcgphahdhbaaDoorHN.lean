/- the document's SHA-256: the blocks -/
import Derived.Test.YtmjdcgphahdhbaaDoorHM
namespace Go.Proofs.YtmjdcgphahdhbaaDoor
open Go.GV Go.RowKit
set_option linter.unusedVariables false
set_option linter.unusedSimpArgs false
theorem or_add (a b k : Nat) (hb : b < 2 ^ k) : a * 2 ^ k ||| b = a * 2 ^ k + b := by
  have := Nat.shiftLeft_add_eq_or_of_lt (a := a) (b := b) (i := k) hb
  rw [Nat.shiftLeft_eq] at this
  omega
theorem wAt_sum (a b c d : UInt8) : IntKind.wrap .u32 (IntKind.wrap .u32 (IntKind.wrap .u32 (IntKind.wrap .u32 (IntKind.wrap .u32 (a.toNat : Int) * 16777216) + IntKind.wrap .u32 (IntKind.wrap .u32 (b.toNat : Int) * 65536)) + IntKind.wrap .u32 (IntKind.wrap .u32 (c.toNat : Int) * 256)) + IntKind.wrap .u32 (d.toNat : Int)) = ((a.toUInt32 <<< 24 ||| b.toUInt32 <<< 16 ||| c.toUInt32 <<< 8 ||| d.toUInt32).toNat : Int) := by
  have ha := a.toNat_lt
  have hb := b.toNat_lt
  have hc := c.toNat_lt
  have hd := d.toNat_lt
  have e : (a.toUInt32 <<< 24 ||| b.toUInt32 <<< 16 ||| c.toUInt32 <<< 8 ||| d.toUInt32).toNat = a.toNat * 16777216 + b.toNat * 65536 + c.toNat * 256 + d.toNat := by
    simp only [UInt32.toNat_or, UInt32.toNat_shiftLeft, UInt8.toNat_toUInt32, Nat.shiftLeft_eq]
    have h24 : (24 : UInt32).toNat % 32 = 24 := rfl
    have h16 : (16 : UInt32).toNat % 32 = 16 := rfl
    have h8 : (8 : UInt32).toNat % 32 = 8 := rfl
    rw [h24, h16, h8, Nat.mod_eq_of_lt (by omega), Nat.mod_eq_of_lt (by omega), Nat.mod_eq_of_lt (by omega)]
    have o1 := or_add a.toNat (b.toNat * 65536) 24 (by omega)
    have o2 := or_add (a.toNat * 256 + b.toNat) (c.toNat * 256) 16 (by omega)
    have o3 := or_add (a.toNat * 65536 + b.toNat * 256 + c.toNat) d.toNat 8 (by omega)
    have p1 : a.toNat * 2 ^ 24 ||| b.toNat * 2 ^ 16 = (a.toNat * 256 + b.toNat) * 2 ^ 16 := by
      rw [show b.toNat * 2 ^ 16 = b.toNat * 65536 by omega, o1]; omega
    rw [p1, show c.toNat * 2 ^ 8 = c.toNat * 256 by omega, o2, show (a.toNat * 256 + b.toNat) * 2 ^ 16 + c.toNat * 256 = (a.toNat * 65536 + b.toNat * 256 + c.toNat) * 2 ^ 8 by omega, o3]
    omega
  rw [e]
  simp only [IntKind.wrap_u32]
  omega
/-- writing one cell of a row -/
theorem row_set {w : World} {B : Nat} {e : TypeId} {A : Option Addr} {n c : Nat} {vs : List Value} {i : Nat} {v : Value} {K : World → Prop} (hr : Row w B e 1 A n c vs) (hi : i < n) (h1 : v.oneCell' = true)
    (hK : ∀ w', Row w' B e 1 A n c (vs.set i v) → Fr (fun k => blkOf A = some k) w w' → K w') : dr A fun b o => st w b (o + i) [v] K := by
  rcases hr.at_ with ⟨_, h0, _⟩ | ⟨b, cs, rfl, hB, hh, hs, ht⟩
  · omega
  · have hle := hr.le
    have hl := hr.len
    rw [Nat.mul_one] at hs ht hl
    show st w b (0 + i) [v] K
    rw [Nat.zero_add]
    have hfit : i + [v].length ≤ cs.toList.length := by simp; omega
    refine ⟨⟨cs, e, 0, 0, hh, by simpa using hfit, .inl (Nat.zero_le _)⟩, by intro x hx; simp only [List.mem_singleton] at hx; subst hx; exact h1, hK _ ⟨by simp; omega, hle, .inr ⟨b, _, rfl, hB, stB_heap hh, ?_, ?_⟩⟩ (Fr.st (fun _ => rfl))⟩
    · simp only [List.size_toArray]; rw [splice_length hfit]; simpa using hs
    · rw [Nat.mul_one]
      apply List.ext_getElem?
      intro j
      simp only [List.getElem?_take, List.getElem?_set]
      by_cases hj : j < n
      · rw [if_pos hj, splice_get hfit, ← ht]
        simp only [List.length_cons, List.length_nil, List.getElem?_take]
        by_cases hij : i = j
        · subst hij
          rw [if_neg (by omega), if_pos (by omega), if_pos rfl, if_pos (by rw [List.length_take]; simp; omega), Nat.sub_self]; rfl
        · rw [if_neg hij, if_pos hj]
          by_cases h2 : j < i
          · rw [if_pos h2]
          · rw [if_neg h2, if_neg (by omega)]
      · rw [if_neg hj]
        by_cases hij : i = j
        · omega
        · rw [if_neg hij, List.getElem?_eq_none (by omega)]
theorem row_get {w : World} {B : Nat} {e : TypeId} {A : Option Addr} {n c : Nat} {L : List UInt32} (hr : Row w B e 1 A n c (L.map wv)) {i : Nat} (hi : i < n) : ∃ b o, A = some ⟨b, o, none⟩ ∧ cellAt w b (o + i) = some (.int .u32 (L.getD i 0).toNat) := by
  have hl : L.length = n := by simpa using hr.len
  obtain ⟨b, o, hA, hc⟩ := hr.sl.get hi (wget (L := L) (by omega))
  rw [Nat.mul_one] at hc
  exact ⟨b, o, hA, hc⟩
theorem sl_wget {w : World} {A : Option Addr} {n : Nat} {L : List UInt32} (hr : Sl w 1 A n (L.map wv)) {i : Nat} (hi : i < n) : ∃ b o, A = some ⟨b, o, none⟩ ∧ cellAt w b (o + i) = some (.int .u32 (L.getD i 0).toNat) := by
  have hl : L.length = n := by simpa using hr.1
  obtain ⟨b, o, hA, hc⟩ := hr.get hi (wget (L := L) (by omega))
  rw [Nat.mul_one] at hc
  exact ⟨b, o, hA, hc⟩
end Go.Proofs.YtmjdcgphahdhbaaDoor
