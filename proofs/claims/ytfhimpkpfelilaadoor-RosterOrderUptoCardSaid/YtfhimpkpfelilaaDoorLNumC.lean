/- files' names: Number (from chapter 08) -/
import Derived.Test.YtfhimpkpfelilaaDoorLNumB
namespace Go.Proofs.YtfhimpkpfelilaaDoor
open Go.GV Go.RowKit Go.Lib
set_option linter.unusedVariables false
set_option linter.unusedSimpArgs false
theorem byte_bs {l : List UInt8} {i : Nat} {b : UInt8} (h : l[i]? = some b) : byteAt (bs l) i = (b.toNat : Int) := by
  unfold byteAt
  rw [bs_list, List.getD_eq_getElem?_getD, h]; rfl
theorem bs_extract (l : List UInt8) (n : Nat) : (bs l).extract 0 n = bs (l.take n) := by
  apply ByteArray.ext
  simp [bs, ByteArray.data_extract]
theorem ifNil_f {t : TypeId} {x : Value} {K : Bool → Prop} (h : K false) : ifNil (.iface t x) K := h
theorem ifNil_t {K : Bool → Prop} (h : K true) : ifNil .nilIface K := h
theorem prefix_split {l p : List UInt8} : hasPrefix l p = true → l = p ++ l.drop p.length := by
  intro h
  unfold hasPrefix at h
  obtain ⟨t, rfl⟩ := List.isPrefixOf_iff_prefix.1 h
  rw [List.drop_left]
theorem prefix_of (p t : List UInt8) : hasPrefix (p ++ t) p = true := by
  unfold hasPrefix
  exact List.isPrefixOf_iff_prefix.2 ⟨t, rfl⟩
/-- no name of this kind -/
def NoK (l : List UInt8) (k : Int) : Prop := ∀ n, good k n → l ≠ fileL k n
theorem noK_all {l : List UInt8} (h : ∀ k, 1 ≤ k → k < 4 → NoK l k) : IsNum l 0 0 := .inr ⟨rfl, rfl, fun k n g => h k g.1 (by have := g.2.1; omega) n g⟩
set_option maxHeartbeats 2000000 in
theorem number_calls (l : List UInt8) (w : World) (hv : VK w) (hl : l.length ≤ 1099511627775) :
    Calls Tryd.prog 18 #[.string (bs l)] w fun e w' => (∃ k n, e = .returned (.tuple #[.int .i64 k, .int .i64 n]) ∧ IsNum l k n) ∧ Fr (fun _ => False) w w' := by
  refine (F18.of (bs l) w (Q := fun v w' => (∃ k n, v = .tuple #[.int .i64 k, .int .i64 n] ∧ IsNum l k n) ∧ Fr (fun _ => False) w w') ?_).mono (fun e w' ⟨v, he, ⟨k, n, hv, h⟩, h'⟩ => ⟨⟨k, n, by rw [he, hv], h⟩, h'⟩)
  refine jnC_mk (loop_rule (fun p v => Fr (fun _ => False) w v ∧ ∃ i : Nat, 1 ≤ i ∧ i ≤ 4 ∧ p = (bs l, (i : Int), ()) ∧ ∀ k : Int, 1 ≤ k → k < i → NoK l k) (fun p _ => (4 - p.2.1).toNat) ?_ _ _ ⟨Fr.refl _ _, 1, by omega, by omega, rfl, fun k h1 h2 => by omega⟩)
  rintro p v C ⟨hf, i, hi1, hi, rfl, hno⟩ hC _
  refine vIf_mk (fun hlt => ?_) (fun hge => ?_)
  · have hlt2 : (i : Int) < 4 := of_decide_eq_true hlt
    have next : ∀ u, Fr (fun _ => False) w u → NoK l (i : Int) → jnC C (bs l, IntKind.wrap .i64 ((i : Int) + 1), ()) u := fun u fu hn => by
      refine jnC_mk (hC _ _ ⟨fu, i + 1, by omega, by omega, by rw [ei i (by omega)], fun k h1 h2 => ?_⟩ ?_)
      · by_cases hk : k = (i : Int)
        · subst hk; exact hn
        · exact hno k h1 (by omega)
      · show ((4 : Int) - IntKind.wrap .i64 ((i : Int) + 1)).toNat < ((4 : Int) - (i : Int)).toNat
        rw [ei i (by omega)]; omega
    refine (word_calls (i : Int) v).mono ?_
    rintro e u ⟨rfl, f1⟩
    have g1 := hf.trans1 f1
    refine ⟨_, rfl, (Tryd.strings_CutPrefix (bs l) (bs (wl (i : Int))) u).mono ?_⟩
    rintro e u2 ⟨rfl, rfl⟩
    rw [bs_list, bs_list]
    refine ⟨bs (trimPrefix l (wl (i : Int))), hasPrefix l (wl (i : Int)), rfl, vIf_mk (fun hp => next u2 g1 ?_) (fun hp => ?_)⟩
    · have hp : hasPrefix l (wl (i : Int)) = false := by simpa using hp
      intro n g he
      rw [he, fileL_good g, prefix_of] at hp
      cases hp
    · have hp : hasPrefix l (wl (i : Int)) = true := by simpa using hp
      have hsp := prefix_split hp
      have htr : trimPrefix l (wl (i : Int)) = l.drop (wl (i : Int)).length := by unfold trimPrefix; rw [if_pos hp]
      rw [htr]
      generalize l.drop (wl (i : Int)).length = f at hsp
      have file : ∀ n, good (i : Int) n → (l = fileL (i : Int) n ↔ f = digs 8 n.toNat) := fun n g => by
        rw [fileL_good g, hsp]
        exact ⟨fun h => List.append_cancel_left h, fun h => by rw [h]⟩
      refine vIf_mk (fun h8 => next u2 g1 ?_) (fun h8 => jnC_mk (fun _ => ?_))
      · have h8 : ¬ f.length = 8 := by
          rw [bs_size] at h8
          intro h
          rw [h] at h8
          simp at h8
        intro n g he
        have := (file n g).1 he
        rw [this, digs_len] at h8
        exact h8 rfl
      · have h8 : f.length = 8 := by
          rw [bs_size] at h8
          have h8 : (f.length : Int) = 8 := by simpa using h8
          omega
        have hfs : (bs f).size ≤ 18 := by rw [bs_size]; omega
        cases ha : Lib.atoi f with
        | none =>
          obtain ⟨tp, pp, herr⟩ := (hv.fr g1).err
          refine (Tryd.strconv_Atoi_err_var (bs f) hfs (by rw [bs_list]; exact ha) tp pp u2 herr).mono ?_
          rintro e u3 ⟨N, rfl, _, _, hb⟩
          refine ⟨0, _, rfl, ?_⟩
          refine ifNil_f (vIf_f rfl (jnC_mk (fun _ => vIf_f rfl (next u3 (g1.trans1 (below_fr hb)) ?_))))
          intro n g he
          have := (file n g).1 he
          have h2 := atoi_digs (u := n.toNat) (by have := g.2.2.2; omega)
          rw [← this, ha] at h2
          cases h2
        | some m =>
          refine (Tryd.strconv_Atoi (bs f) m hfs (by rw [bs_list]; exact ha) u2).mono ?_
          rintro e u3 ⟨rfl, t, rfl⟩
          have g3 := g1.trans1 (below_fr (Lib.bytesWorld_below u2 5 t))
          refine ⟨m, .nilIface, rfl, ?_⟩
          refine ifNil_t (vIf_t rfl ((file_calls (i : Int) m _ (hv.fr g3)).mono ?_))
          rintro e u4 ⟨rfl, f4⟩
          have g4 := g3.trans1 f4
          refine ⟨_, rfl, jnC_mk (fun _ => vIf_mk (fun heq => ?_) (fun hne => next u4 g4 ?_))⟩
          · have heq : ((bs (fileL (i : Int) m)).toList == (bs l).toList) = true := heq
            rw [eq_iff] at heq
            have heq := of_decide_eq_true heq
            have hg : good (i : Int) m := by
              by_cases hg : good (i : Int) m
              · exact hg
              · rw [fileL_nil hg] at heq
                rw [← heq] at hsp
                have := congrArg List.length hsp
                rw [List.length_append, h8] at this
                simp at this
            exact ⟨⟨_, _, rfl, .inl ⟨hg, heq.symm⟩⟩, g4⟩
          · have hne : ((bs (fileL (i : Int) m)).toList == (bs l).toList) = false := hne
            rw [eq_iff] at hne
            have hne := of_decide_eq_false hne
            intro n g he
            have h1 := (file n g).1 he
            have h2 := atoi_digs (u := n.toNat) (by have := g.2.2.2; omega)
            rw [← h1, ha] at h2
            injection h2 with h2
            have hnm : m = n := by rw [h2]; have := g.2.2.1; omega
            subst hnm
            exact hne he.symm
  · have hge2 : ¬ (i : Int) < 4 := of_decide_eq_false hge
    exact ⟨⟨0, 0, rfl, noK_all (fun k h1 h4 => hno k h1 (by omega))⟩, hf⟩
end Go.Proofs.YtfhimpkpfelilaaDoor
