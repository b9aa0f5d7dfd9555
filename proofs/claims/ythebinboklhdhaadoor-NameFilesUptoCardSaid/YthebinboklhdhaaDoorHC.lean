/- chapter 08: Number -/
import Derived.Test.YthebinboklhdhaaDoorHB
namespace Go.Proofs.YthebinboklhdhaaDoor
open Go.GV Go.RowKit Go.Lib
set_option linter.unusedVariables false
set_option linter.unusedSimpArgs false
theorem byte_bs {l : List UInt8} {i : Nat} {b : UInt8} (h : l[i]? = some b) : byteAt (bs l) i = (b.toNat : Int) := by
  unfold byteAt
  rw [bs_list, List.getD_eq_getElem?_getD, h]; rfl
theorem bs_extract (l : List UInt8) (n : Nat) : (bs l).extract 0 n = bs (l.take n) := by
  apply ByteArray.ext
  simp [bs, ByteArray.data_extract]
theorem ifNil_f {t : TypeId} {x : Value} {K : Bool → Prop} (h : K false) : ifNil (.iface t x) K := h
theorem ifNil_t {K : Bool → Prop} (h : K true) : ifNil .nilIface K := h
theorem prefix_split {l p : List UInt8} : hasPrefix l p = true → l = p ++ l.drop p.length := by
  intro h
  unfold hasPrefix at h
  obtain ⟨t, rfl⟩ := List.isPrefixOf_iff_prefix.1 h
  rw [List.drop_left]
theorem prefix_of (p t : List UInt8) : hasPrefix (p ++ t) p = true := by
  unfold hasPrefix
  exact List.isPrefixOf_iff_prefix.2 ⟨t, rfl⟩
/-- no name of this kind -/
def NoK (l : List UInt8) (k : Int) : Prop := ∀ n, good k n → l ≠ fileL k n
theorem noK_all {l : List UInt8} (h : ∀ k, 1 ≤ k → k < 4 → NoK l k) : IsNum l 0 0 := .inr ⟨rfl, rfl, fun k n g => h k g.1 (by have := g.2.1; omega) n g⟩
set_option maxHeartbeats 2000000 in
theorem number_calls (l : List UInt8) (w : World) (hv : VK w) (hl : l.length ≤ 1099511627775) :
    Calls Tryd.prog 6 #[.string (bs l)] w fun e w' => (∃ k n, e = .returned (.tuple #[.int .i64 k, .int .i64 n]) ∧ IsNum l k n) ∧ Fr (fun _ => False) w w' := by
  refine (F6.of (bs l) w (Q := fun v w' => (∃ k n, v = .tuple #[.int .i64 k, .int .i64 n] ∧ IsNum l k n) ∧ Fr (fun _ => False) w w') ?_).mono (fun e w' ⟨v, he, ⟨k, n, hv, h⟩, h'⟩ => ⟨⟨k, n, by rw [he, hv], h⟩, h'⟩)
  refine jnC_mk (loop_rule (fun p v => Fr (fun _ => False) w v ∧ ∃ i : Nat, 1 ≤ i ∧ i ≤ 4 ∧ p = (bs l, (i : Int), ()) ∧ ∀ k : Int, 1 ≤ k → k < i → NoK l k) (fun p _ => (4 - p.2.1).toNat) ?_ _ _ ⟨Fr.refl _ _, 1, by omega, by omega, rfl, fun k h1 h2 => by omega⟩)
  rintro p v C ⟨hf, i, hi1, hi, rfl, hno⟩ hC _
  refine vIf_mk (fun hlt => ?_) (fun hge => ?_)
  · have hlt2 : (i : Int) < 4 := of_decide_eq_true hlt
    have next : ∀ u, Fr (fun _ => False) w u → NoK l (i : Int) → jnC C (bs l, IntKind.wrap .i64 ((i : Int) + 1), ()) u := fun u fu hn => by
      refine jnC_mk (hC _ _ ⟨fu, i + 1, by omega, by omega, by rw [ei i (by omega)], fun k h1 h2 => ?_⟩ ?_)
      · by_cases hk : k = (i : Int)
        · subst hk; exact hn
        · exact hno k h1 (by omega)
      · show ((4 : Int) - IntKind.wrap .i64 ((i : Int) + 1)).toNat < ((4 : Int) - (i : Int)).toNat
        rw [ei i (by omega)]; omega
    refine (word_calls (i : Int) v).mono ?_
    rintro e u ⟨rfl, f1⟩
    have g1 := hf.trans1 f1
    refine ⟨_, rfl, (Tryd.strings_CutPrefix (bs l) (bs (wl (i : Int))) u).mono ?_⟩
    rintro e u2 ⟨rfl, rfl⟩
    rw [bs_list, bs_list]
    refine ⟨bs (trimPrefix l (wl (i : Int))), hasPrefix l (wl (i : Int)), rfl, vIf_mk (fun hp => next u2 g1 ?_) (fun hp => ?_)⟩
    · have hp : hasPrefix l (wl (i : Int)) = false := by simpa using hp
      intro n g he
      rw [he, fileL_good g, prefix_of] at hp
      cases hp
    · have hp : hasPrefix l (wl (i : Int)) = true := by simpa using hp
      have hsp := prefix_split hp
      have htr : trimPrefix l (wl (i : Int)) = l.drop (wl (i : Int)).length := by unfold trimPrefix; rw [if_pos hp]
      rw [htr]
      generalize l.drop (wl (i : Int)).length = f at hsp
      have file : ∀ n, good (i : Int) n → (l = fileL (i : Int) n ↔ f = digs 8 n.toNat) := fun n g => by
        rw [fileL_good g, hsp]
        exact ⟨fun h => List.append_cancel_left h, fun h => by rw [h]⟩
      refine vIf_mk (fun h8 => next u2 g1 ?_) (fun h8 => jnC_mk (fun _ => ?_))
      · have h8 : ¬ f.length = 8 := by
          rw [bs_size] at h8
          intro h
          rw [h] at h8
          simp at h8
        intro n g he
        have := (file n g).1 he
        rw [this, digs_len] at h8
        exact h8 rfl
      · have h8 : f.length = 8 := by
          rw [bs_size] at h8
          have h8 : (f.length : Int) = 8 := by simpa using h8
          omega
        have hfs : (bs f).size ≤ 18 := by rw [bs_size]; omega
        cases ha : Lib.atoi f with
        | none =>
          obtain ⟨tp, pp, herr⟩ := (hv.fr g1).err
          refine (Tryd.strconv_Atoi_err_var (bs f) hfs (by rw [bs_list]; exact ha) tp pp u2 herr).mono ?_
          rintro e u3 ⟨N, rfl, _, _, hb⟩
          refine ⟨0, _, rfl, ?_⟩
          refine ifNil_f (vIf_f rfl (jnC_mk (fun _ => vIf_f rfl (next u3 (g1.trans1 (below_fr hb)) ?_))))
          intro n g he
          have := (file n g).1 he
          have h2 := atoi_digs (u := n.toNat) (by have := g.2.2.2; omega)
          rw [← this, ha] at h2
          cases h2
        | some m =>
          refine (Tryd.strconv_Atoi (bs f) m hfs (by rw [bs_list]; exact ha) u2).mono ?_
          rintro e u3 ⟨rfl, t, rfl⟩
          have g3 := g1.trans1 (below_fr (Lib.bytesWorld_below u2 5 t))
          refine ⟨m, .nilIface, rfl, ?_⟩
          refine ifNil_t (vIf_t rfl ((file_calls (i : Int) m _ (hv.fr g3)).mono ?_))
          rintro e u4 ⟨rfl, f4⟩
          have g4 := g3.trans1 f4
          refine ⟨_, rfl, jnC_mk (fun _ => vIf_mk (fun heq => ?_) (fun hne => next u4 g4 ?_))⟩
          · have heq : ((bs (fileL (i : Int) m)).toList == (bs l).toList) = true := heq
            rw [eq_iff] at heq
            have heq := of_decide_eq_true heq
            have hg : good (i : Int) m := by
              by_cases hg : good (i : Int) m
              · exact hg
              · rw [fileL_nil hg] at heq
                rw [← heq] at hsp
                have := congrArg List.length hsp
                rw [List.length_append, h8] at this
                simp at this
            exact ⟨⟨_, _, rfl, .inl ⟨hg, heq.symm⟩⟩, g4⟩
          · have hne : ((bs (fileL (i : Int) m)).toList == (bs l).toList) = false := hne
            rw [eq_iff] at hne
            have hne := of_decide_eq_false hne
            intro n g he
            have h1 := (file n g).1 he
            have h2 := atoi_digs (u := n.toNat) (by have := g.2.2.2; omega)
            rw [← h1, ha] at h2
            injection h2 with h2
            have hnm : m = n := by rw [h2]; have := g.2.2.1; omega
            subst hnm
            exact hne he.symm
  · have hge2 : ¬ (i : Int) < 4 := of_decide_eq_false hge
    exact ⟨⟨0, 0, rfl, noK_all (fun k h1 h4 => hno k h1 (by omega))⟩, hf⟩
/-! ### the document's Number -/
theorem wrap_dig {acc : Nat} {b : UInt8} {d : Nat} (ha : acc < 100000000) (hb : 48 ≤ b.toNat) (hb2 : b.toNat ≤ 57) (hd : d = b.toNat - 48) :
    IntKind.wrap .i64 (IntKind.wrap .i64 ((acc : Int) * 10) + IntKind.wrap .i64 (IntKind.wrap .u8 ((b.toNat : Int) - 48))) = ((acc * 10 + d : Nat) : Int) := by
  rw [u8_id (n := (b.toNat : Int) - 48) (by omega) (by omega), i64_id (n := (acc : Int) * 10) (by omega) (by omega), i64_id (n := (b.toNat : Int) - 48) (by omega) (by omega), i64_id (by omega) (by omega)]
  omega
set_option maxHeartbeats 2000000 in
theorem rnumber_calls (l : List UInt8) (w : World) (hl : l.length ≤ 1099511627775) :
    Calls Tryd.prog 7 #[.string (bs l)] w fun e w' => (∃ k n, e = .returned (.tuple #[.int .i64 k, .int .i64 n]) ∧ IsNum l k n) ∧ Fr (fun _ => False) w w' := by
  refine (F7.of (bs l) w (Q := fun v w' => (∃ k n, v = .tuple #[.int .i64 k, .int .i64 n] ∧ IsNum l k n) ∧ Fr (fun _ => False) w w') ?_).mono (fun e w' ⟨v, he, ⟨k, n, hv, h⟩, h'⟩ => ⟨⟨k, n, by rw [he, hv], h⟩, h'⟩)
  refine jnC_mk (loop_rule (fun p v => Fr (fun _ => False) w v ∧ ∃ i : Nat, 1 ≤ i ∧ i ≤ 4 ∧ p = (bs l, (i : Int), ()) ∧ ∀ k : Int, 1 ≤ k → k < i → NoK l k) (fun p _ => (4 - p.2.1).toNat) ?_ _ _ ⟨Fr.refl _ _, 1, by omega, by omega, rfl, fun k h1 h2 => by omega⟩)
  rintro p v C ⟨hf, i, hi1, hi, rfl, hno⟩ hC _
  refine vIf_mk (fun hlt => ?_) (fun hge => ?_)
  · have hlt2 : (i : Int) < 4 := of_decide_eq_true hlt
    have next : ∀ u, Fr (fun _ => False) w u → NoK l (i : Int) → jnC C (bs l, IntKind.wrap .i64 ((i : Int) + 1), ()) u := fun u fu hn => by
      refine jnC_mk (hC _ _ ⟨fu, i + 1, by omega, by omega, by rw [ei i (by omega)], fun k h1 h2 => ?_⟩ ?_)
      · by_cases hk : k = (i : Int)
        · subst hk; exact hn
        · exact hno k h1 (by omega)
      · show ((4 : Int) - IntKind.wrap .i64 ((i : Int) + 1)).toNat < ((4 : Int) - (i : Int)).toNat
        rw [ei i (by omega)]; omega
    clear hC
    refine (words_calls v).mono ?_
    rintro e u ⟨rfl, f1, hc⟩
    have g1 := hf.trans1 f1
    have hwl : (wl (i : Int)).length ≤ 6 := by rcases kinds (k := (i : Int)) (by omega) (by omega) with h | h | h <;> rw [h] <;> simp [wl]
    refine ⟨_, 4, 4, rfl, dr_mk (gd_mk (decide_eq_true (by show (0 : Int) ≤ (i : Int); omega)) (gd_mk (decide_eq_true (by show (i : Int) < 4; omega)) ⟨_, hc (i : Int) (by omega) (by omega), vIf_mk (fun h8 => next u g1 ?_) (fun h8 => ?_)⟩))⟩
    · have h8 : (((bs l).size : Int) != IntKind.wrap .i64 (((bs (wl (i : Int))).size : Int) + 8)) = true := h8
      rw [bs_size, bs_size, i64_id (by omega) (by omega)] at h8
      have h8 : (l.length : Int) ≠ ((wl (i : Int)).length : Int) + 8 := by simpa using h8
      intro n g he
      have := congrArg List.length he
      rw [fileL_good g, List.length_append, digs_len] at this
      omega
    · have h8 : (((bs l).size : Int) != IntKind.wrap .i64 (((bs (wl (i : Int))).size : Int) + 8)) = false := h8
      rw [bs_size, bs_size, i64_id (by omega) (by omega)] at h8
      have h8 : (l.length : Int) = ((wl (i : Int)).length : Int) + 8 := by simpa using h8
      have hsz : (bs (wl (i : Int))).size = (wl (i : Int)).length := bs_size _
      refine gd_mk (decide_eq_true (by omega)) (gd_mk (decide_eq_true (by show ((bs (wl (i : Int))).size : Int) ≤ (((bs l).size : Nat) : Int); rw [bs_size, bs_size]; omega)) (vIf_mk (fun hp => next u g1 ?_) (fun hp => jnC_mk (fun _ => jnC_mk ?_))))
      · have hp : (!(((bs l).extract 0 (((bs (wl (i : Int))).size : Int)).toNat).toList == (bs (wl (i : Int))).toList)) = true := hp
        rw [bs_extract, eq_iff, Int.toNat_natCast, hsz] at hp
        have hp := ndec_t hp
        intro n g he
        apply hp
        rw [he, fileL_good g, List.take_left]
      · have hp : (!(((bs l).extract 0 (((bs (wl (i : Int))).size : Int)).toNat).toList == (bs (wl (i : Int))).toList)) = false := hp
        rw [bs_extract, eq_iff, Int.toNat_natCast, hsz] at hp
        have hp := ndec_f hp
        have hsp : l = wl (i : Int) ++ l.drop (wl (i : Int)).length := by
          conv => lhs; rw [← List.take_append_drop (wl (i : Int)).length l, hp]
        rw [hsz]
        generalize hfd : l.drop (wl (i : Int)).length = f at hsp
        have hf8 : f.length = 8 := by
          have := congrArg List.length hsp
          rw [List.length_append] at this
          omega
        generalize hwn : (wl (i : Int)).length = wn at hwl h8 hfd
        have at_f : ∀ j, wn ≤ j → l[j]? = f[j - wn]? := fun j hj => by
          rw [← hfd, List.getElem?_drop]; congr 1; omega
        have file : ∀ n, good (i : Int) n → (l = fileL (i : Int) n ↔ f = digs 8 n.toNat) := fun n g => by
          rw [fileL_good g]
          conv => lhs; lhs; rw [hsp]
          exact ⟨fun h => List.append_cancel_left h, fun h => by rw [h]⟩
        have noDig : ∀ (j : Nat) (b : UInt8), f[j]? = some b → digitVal b = none → IsNum l 0 0 := fun j b hj hb => by
          refine .inr ⟨rfl, rfl, fun k' n' g he => ?_⟩
          have hk : (i : Int) = k' := by
            have he2 := he
            rw [fileL_good g, hsp] at he2
            exact wl_ne (by omega) (by omega) g.1 g.2.1 he2
          subst hk
          have h1 := (file n' g).1 he
          have h2 := decFrom_digs 8 n'.toNat 0
          rw [← h1] at h2
          obtain ⟨d, hd⟩ := digit_of_decFrom f 0 _ h2 j b hj
          rw [hb] at hd
          cases hd
        refine loop_rule (fun p x => x = u ∧ ∃ (j acc : Nat), j ≤ 8 ∧ p = (bs l, (i : Int), (acc : Int), ((wn + j : Nat) : Int), ()) ∧ decFrom 0 (f.take j) = some acc) (fun p _ => (wn + 8 - p.2.2.2.1).toNat) ?_ _ _ ⟨rfl, 0, 0, by omega, rfl, rfl⟩
        rintro p x C8 ⟨rfl, j, acc, hj, rfl, hacc⟩ hC8 _
        have hacc8 : acc < 10 ^ j := by
          have := decFrom_lt _ 0 acc hacc
          rw [List.length_take, hf8, Nat.min_eq_left (by omega)] at this
          omega
        refine vIf_mk (fun hlt => ?_) (fun hge => ?_)
        · have hlt3 : ((wn + j : Nat) : Int) < ((bs l).size : Int) := of_decide_eq_true hlt
          rw [bs_size] at hlt3
          have hj8 : j < 8 := by omega
          have gf : f[j]? = some (f[j]'(by omega)) := List.getElem?_eq_getElem (by omega)
          have gl : l[wn + j]? = some (f[j]'(by omega)) := by rw [at_f _ (by omega), show wn + j - wn = j by omega, gf]
          generalize f[j]'(by omega) = b at gf gl
          have hby := byte_bs gl
          have d0 : decide (0 ≤ ((wn + j : Nat) : Int)) = true := decide_eq_true (by omega)
          refine gd_mk d0 (gd_mk hlt ?_)
          dsimp only
          rw [Int.toNat_natCast, hby]
          refine vIf_mk (fun h48 => ?_) (fun h48 => gd_mk d0 (gd_mk hlt (vIf_mk (fun h57 => ?_) (fun h57 => jnC_mk (fun _ => gd_mk d0 (gd_mk hlt ?_))))))
          · have h48 : (b.toNat : Int) < 48 := of_decide_eq_true h48
            exact ⟨⟨0, 0, rfl, noDig j b gf (by unfold digitVal; rw [if_neg (by omega)])⟩, g1⟩
          · have h57 : (b.toNat : Int) > 57 := of_decide_eq_true h57
            exact ⟨⟨0, 0, rfl, noDig j b gf (by unfold digitVal; rw [if_neg (by omega)])⟩, g1⟩
          · have h48 : ¬ (b.toNat : Int) < 48 := of_decide_eq_false h48
            have h57 : ¬ (b.toNat : Int) > 57 := of_decide_eq_false h57
            have hdv : digitVal b = some (b.toNat - 48) := by unfold digitVal; rw [if_pos (by omega)]
            have hst := decFrom_take f j 0 acc b _ hacc gf hdv
            have hpow : 10 ^ j ≤ 10 ^ 7 := Nat.pow_le_pow_right (by omega) (by omega)
            have hwd := wrap_dig (acc := acc) (b := b) (d := b.toNat - 48) (by omega) (by omega) (by omega) rfl
            dsimp only
            rw [Int.toNat_natCast, hby, hwd]
            refine jnC_mk (hC8 _ _ ⟨rfl, j + 1, _, by omega, by rw [ei (wn + j) (by omega)]; rfl, hst⟩ ?_)
            show ((wn : Int) + 8 - IntKind.wrap .i64 (((wn + j : Nat) : Int) + 1)).toNat < ((wn : Int) + 8 - ((wn + j : Nat) : Int)).toNat
            rw [ei (wn + j) (by omega)]; omega
        · have hge3 : ¬ ((wn + j : Nat) : Int) < ((bs l).size : Int) := of_decide_eq_false hge
          rw [bs_size] at hge3
          have hj8 : j = 8 := by omega
          subst hj8
          rw [List.take_of_length_le (by omega)] at hacc
          have hfd8 := digs_of 8 f acc hf8 hacc
          refine vIf_mk (fun hpos => ?_) (fun hz => next x g1 ?_)
          · have hpos : (acc : Int) > 0 := of_decide_eq_true hpos
            have hg : good (i : Int) (acc : Int) := ⟨by omega, by omega, by omega, by omega⟩
            exact ⟨⟨_, _, rfl, .inl ⟨hg, (file _ hg).2 (by rw [Int.toNat_natCast]; exact hfd8)⟩⟩, g1⟩
          · have hz : ¬ (acc : Int) > 0 := of_decide_eq_false hz
            intro n g he
            have h1 := (file n g).1 he
            rw [hfd8] at h1
            have := digs_inj (k := 8) (by omega) (by have := g.2.2.2; omega) h1
            have := g.2.2.1
            omega
  · have hge2 : ¬ (i : Int) < 4 := of_decide_eq_false hge
    exact ⟨⟨0, 0, rfl, noK_all (fun k h1 h4 => hno k h1 (by omega))⟩, hf⟩
end Go.Proofs.YthebinboklhdhaaDoor
