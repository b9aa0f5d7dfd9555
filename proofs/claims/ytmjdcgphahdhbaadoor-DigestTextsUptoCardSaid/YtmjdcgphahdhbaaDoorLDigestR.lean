/- digest: which digest a text tells -/
import Derived.Test.YtmjdcgphahdhbaaDoorLDigest
import Derived.Laws.Strings
namespace Go.Proofs.YtmjdcgphahdhbaaDoor
open Go.GV Go.RowKit
set_option linter.unusedVariables false
set_option linter.unusedSimpArgs false
theorem dec_length : ∀ l : List UInt8, (dec l).length = l.length / 2
  | [] => rfl
  | [a] => by simp [dec]
  | a :: b :: r => by simp only [dec, List.length_cons, dec_length r]; omega
def zeroD : List UInt8 := List.replicate 32 0
def readD (l : List UInt8) : Option (List UInt8) := if l.take 7 = kindB ∧ okHex (l.drop 7) = true ∧ l.length = 71 then some (dec (l.drop 7)) else none
def readV (l : List UInt8) : Value :=
  match readD l with
  | some d => .tuple #[ofL (d.map bv), .int .i64 0]
  | none => .tuple #[ofL (zeroD.map bv), .int .i64 3]
theorem readD_len {l d : List UInt8} (h : readD l = some d) : d.length = 32 := by
  unfold readD at h
  split at h
  · rename_i h1
    injection h with h
    subst h
    rw [dec_length, List.length_drop]; omega
  · cases h
theorem ba_of {s t : ByteArray} (h : s.data.toList = t.data.toList) : s = t := by
  apply ByteArray.ext
  exact Array.toList_inj.1 h
theorem ext_list (s : ByteArray) (a b : Nat) : (s.extract a b).data.toList = (s.data.toList.drop a).take (b - a) := by simp
theorem prefix_calls (s p : ByteArray) (w : World) : Calls Tryd.prog 49 #[.string s, .string p] w fun e w' => e = .returned (.bool (decide (s.data.toList.take p.data.toList.length = p.data.toList))) ∧ w' = w := by
  refine (F49.of s p w (Q := fun v w' => v = .bool (decide (s.data.toList.take p.data.toList.length = p.data.toList)) ∧ w' = w) ?_).mono (fun e w' ⟨v, he, hv, h⟩ => ⟨by rw [he, hv], h⟩)
  have hs : s.size = s.data.toList.length := size_l s
  have hp : p.size = p.data.toList.length := size_l p
  refine vIf_mk (fun h => ?_) (fun h => ?_)
  · have h : (s.size : Int) ≥ (p.size : Int) := of_decide_eq_true h
    refine gd_mk (decide_eq_true (Int.natCast_nonneg _)) (gd_mk (decide_eq_true (by omega)) ⟨?_, rfl⟩)
    rw [Int.toNat_natCast, ByteArray.toList_eq, ByteArray.toList_eq]
    have e : (s.extract 0 p.size).data.toList = s.data.toList.take p.data.toList.length := by rw [ext_list, List.drop_zero, Nat.sub_zero, hp]
    rw [e]
    congr 1
    by_cases hh : s.data.toList.take p.data.toList.length = p.data.toList
    · rw [decide_eq_true hh]; simpa using hh
    · rw [decide_eq_false hh]; simpa using hh
  · have h : ¬ (s.size : Int) ≥ (p.size : Int) := of_decide_eq_false h
    refine ⟨?_, rfl⟩
    rw [decide_eq_false]
    intro hh
    have := congrArg List.length hh
    rw [List.length_take] at this
    omega
theorem cut_calls (s p : ByteArray) (w : World) : Calls Tryd.prog 22 #[.string s, .string p] w fun e w' => (if s.data.toList.take p.data.toList.length = p.data.toList then ∃ t : ByteArray, t.data.toList = s.data.toList.drop p.data.toList.length ∧ e = .returned (.tuple #[.string t, .bool true]) else e = .returned (.tuple #[.string s, .bool false])) ∧ w' = w := by
  refine (F22.of s p w (Q := fun v w' => (if s.data.toList.take p.data.toList.length = p.data.toList then ∃ t : ByteArray, t.data.toList = s.data.toList.drop p.data.toList.length ∧ v = .tuple #[.string t, .bool true] else v = .tuple #[.string s, .bool false]) ∧ w' = w) ?_).mono (fun e w' ⟨v, he, hv, h⟩ => ⟨by
    split at hv
    · rename_i hc; rw [if_pos hc]; obtain ⟨t, h1, h2⟩ := hv; exact ⟨t, h1, by rw [he, h2]⟩
    · rename_i hc; rw [if_neg hc, he, hv], h⟩)
  refine (F36.of s p w (Q := fun v w' => (if s.data.toList.take p.data.toList.length = p.data.toList then ∃ t : ByteArray, t.data.toList = s.data.toList.drop p.data.toList.length ∧ v = .tuple #[.string t, .bool true] else v = .tuple #[.string s, .bool false]) ∧ w' = w) ?_).mono ?_
  · refine (prefix_calls s p w).mono ?_
    rintro e w' ⟨rfl, rfl⟩
    have hs : s.size = s.data.toList.length := size_l s
    have hp : p.size = p.data.toList.length := size_l p
    by_cases hc : s.data.toList.take p.data.toList.length = p.data.toList
    · rw [decide_eq_true hc]
      have hle : p.data.toList.length ≤ s.data.toList.length := by
        have := congrArg List.length hc
        rw [List.length_take] at this
        omega
      refine ⟨_, rfl, vIf_f rfl (gd_mk (decide_eq_true (Int.natCast_nonneg _)) (gd_mk (decide_eq_true (by omega)) ⟨?_, rfl⟩))⟩
      rw [if_pos hc, Int.toNat_natCast]
      refine ⟨_, ?_, rfl⟩
      rw [ext_list, hp, List.take_of_length_le (by rw [List.length_drop]; omega)]
    · rw [decide_eq_false hc]
      refine ⟨_, rfl, vIf_t rfl ⟨?_, rfl⟩⟩
      rw [if_neg hc]
  · rintro e w' ⟨v, rfl, hv, rfl⟩
    split at hv
    · rename_i hc
      obtain ⟨t, h1, rfl⟩ := hv
      exact ⟨_, _, rfl, by rw [if_pos hc]; exact ⟨t, h1, rfl⟩, rfl⟩
    · rename_i hc
      subst hv
      exact ⟨_, _, rfl, by rw [if_neg hc], rfl⟩
def K7 : ByteArray := ⟨#[115, 104, 97, 50, 53, 54, 58]⟩
theorem dread_calls (s : ByteArray) (w : World) (hs : s.size ≤ 1099511627776) : Calls Tryd.prog 10 #[.string s] w fun e w' => e = .returned (readV s.data.toList) ∧ Fr (fun _ => False) w w' := by
  refine (F10.of s w (Q := fun v w' => v = readV s.data.toList ∧ Fr (fun _ => False) w w') ?_).mono (fun e w' ⟨v, he, hv, h⟩ => ⟨by rw [he, hv], h⟩)
  have hZd : Z23.length = 32 := by decide +kernel
  have hZz : Z23 = zeroD.map bv := by rfl
  refine nw_mk ?_
  have f1 : Fr (fun _ => False) w (w.alloc (.cells Z23.toArray 23)) := Fr.alloc _ _ _
  have r1 : RecAt (w.alloc (.cells Z23.toArray 23)) w.heap.size 23 Z23 := RecAt.new w _ _
  have hs1 : (w.alloc (.cells Z23.toArray 23)).heap.size = w.heap.size + 1 := alloc_size _ _
  generalize w.alloc (.cells Z23.toArray 23) = w1 at f1 r1 hs1 ⊢
  refine (cut_calls s K7 w1).mono ?_
  rintro e w2 ⟨hcut, rfl⟩
  have hK7 : K7.data.toList = kindB := rfl
  rw [hK7] at hcut
  have h7 : kindB.length = 7 := rfl
  rw [h7] at hcut
  -- refused: zeros, and ErrForm
  have bad : ∀ (A : Option Addr) (n c : Nat) (u : World), Fr (fun _ => False) w2 u → readD s.data.toList = none → jnC (F10.k4 (fun v w' => v = readV s.data.toList ∧ Fr (fun _ => False) w w')) ((w.heap.size, 0), (A, n, c), true, ()) u := by
    intro A n c u fu hn
    refine jnC_mk (fun _ => vIf_t rfl (gd_mk rfl ?_))
    show st u w.heap.size 0 (zeroD.map bv) _
    refine (r1.fr fu (fun h => h)).st_mk (o := 0) (by rw [hZd]; decide) (bvs_one _) (fun r f => ?_)
    rw [splice_whole (by rw [hZd]; rfl)] at r
    refine ⟨zeroD.map bv, rfl, r.cells (o := 0) (fun q v hq => by rw [Nat.zero_add]; exact hq), ?_, (f1.trans1 fu).trans f (fun _ _ h => h) (fun k hk h => by omega)⟩
    unfold readV
    rw [hn]
  split at hcut
  · rename_i hc
    obtain ⟨t, ht, rfl⟩ := hcut
    have htl : t.data.toList.length = s.data.toList.length - 7 := by rw [ht, List.length_drop]
    have hts : t.size ≤ 1099511627776 := by have := size_l t; have := size_l s; omega
    refine ⟨_, _, rfl, (read_calls t w2 hts).mono ?_⟩
    rintro e w3 ⟨v, rfl, f3, A, n, c, r, rfl, hr⟩
    rcases hr with ⟨hok, rfl, hrow⟩ | ⟨hok, rfl, rfl, rfl, rfl⟩
    · refine ⟨_, _, _, _, rfl, vIf_f rfl (vIf_f rfl ?_)⟩
      have hl : (dec t.data.toList).length = n := by simpa using hrow.sl.1
      by_cases h32 : n = 32
      · subst h32
        refine jnC_mk (fun _ => vIf_f rfl (jnC_mk (fun _ => nw_mk ?_)))
        have f4 : Fr (fun _ => False) w3 (w3.alloc (.cells Z23.toArray 23)) := Fr.alloc _ _ _
        have r4 : RecAt (w3.alloc (.cells Z23.toArray 23)) w3.heap.size 23 Z23 := RecAt.new w3 _ _
        have hs4 : (w3.alloc (.cells Z23.toArray 23)).heap.size = w3.heap.size + 1 := alloc_size _ _
        generalize w3.alloc (.cells Z23.toArray 23) = w4 at f4 r4 hs4 ⊢
        have hsl := f4.sl hrow.sl (fun _ _ _ h => h)
        have hdl : ((dec t.data.toList).map bv).length = 32 := by simpa using hl
        refine ⟨32, _, hsl.src, bvs_one _, fun h => absurd h (by decide), fun _ => dr_mk ?_⟩
        rw [List.take_of_length_le (by rw [hdl]; decide)]
        have f3s := f3.size
        refine r4.st_mk (o := 0) (by rw [hdl, hZd]; omega) (bvs_one _) (fun r5 f5 => ?_)
        rw [splice_whole (by rw [hdl, hZd])] at r5
        refine ⟨_, hdl, r5.cells (o := 0) (fun q v hq => by simpa using hq), gd_mk (by rw [hdl]; rfl) ?_⟩
        refine (((r1.fr f3 (fun h => h)).fr f4 (fun h => h)).fr f5 (fun h => by omega)).st_mk (o := 0) (by rw [hdl, hZd]; omega) (bvs_one _) (fun r6 f6 => ?_)
        rw [splice_whole (by rw [hdl, hZd])] at r6
        refine ⟨_, hdl, r6.cells (o := 0) (fun q v hq => by simpa using hq), ?_, ?_⟩
        · have hrd : readD s.data.toList = some (dec t.data.toList) := by
            have : s.data.toList.length = 71 := by
              have h1 := dec_length t.data.toList
              have h2 : t.data.toList.length % 2 = 0 := by
                simp only [okHex, Bool.and_eq_true, decide_eq_true_eq] at hok
                exact hok.1
              omega
            unfold readD
            rw [← ht, if_pos ⟨hc, hok, this⟩]
          unfold readV
          rw [hrd]
        · exact (((f1.trans1 f3).trans1 f4).trans f5 (fun _ _ h => h) (fun k hk h => by omega)).trans f6 (fun _ _ h => h) (fun k hk h => by omega)
      · have hb : (((n : Nat) : Int) != 32) = true := by simp; omega
        rw [hb]
        refine bad A n c w3 f3 ?_
        unfold readD
        rw [if_neg]
        rintro ⟨_, _, h71⟩
        have := dec_length t.data.toList
        omega
    · refine ⟨_, _, _, _, rfl, vIf_f rfl (vIf_t rfl (bad _ _ _ w3 f3 ?_))⟩
      unfold readD
      rw [if_neg]
      rintro ⟨_, h2, _⟩
      rw [← ht, hok] at h2
      cases h2
  · rename_i hc
    subst hcut
    refine ⟨_, _, rfl, (read_calls s w2 hs).mono ?_⟩
    rintro e w3 ⟨v, rfl, f3, A, n, c, r, rfl, hr⟩
    refine ⟨_, _, _, _, rfl, vIf_t rfl (bad A n c w3 f3 ?_)⟩
    unfold readD
    rw [if_neg]
    rintro ⟨h1, _⟩
    exact hc h1
end Go.Proofs.YtmjdcgphahdhbaaDoor
