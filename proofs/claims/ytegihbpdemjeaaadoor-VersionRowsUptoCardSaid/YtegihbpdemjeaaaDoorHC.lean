/- chapter 51: the program's parts: the iterator -/
import Derived.Test.YtegihbpdemjeaaaDoorHB
import Derived.Test.YtegihbpdemjeaaaDoorG12
namespace Go.Proofs.YtegihbpdemjeaaaDoor
open Go.GV Go.RowKit Go.Lib
set_option linter.unusedVariables false
set_option linter.unusedSimpArgs false
theorem yld_mono {P : Program} {L : Nat} {args : List Value} {w : World} {K K' : Bool → World → Prop} (h : yld P L args w K) (hk : ∀ b w', K b w' → K' b w') : yld P L args w K' := by
  obtain ⟨fn, tmps, assign, body, hy, hR⟩ := h
  exact ⟨fn, tmps, assign, body, hy, hR.mono fun e w' ⟨b, he, hK⟩ => ⟨b, he, hk b w' hK⟩⟩
/-- whatever is said of the world, P, is not moved by the iterator's own variable nor by a draw; each part is handed on -/
theorem iter_calls (P : List Bs → World → Prop) (L b1 : Nat) (l : Bs) (W : World) (hn : l.length ≤ 4294967296)
    (hset : ∀ pre X s s', P pre X → RecAt X b1 9 [.string s] → P pre (stB X b1 0 [.string s'])) (hdr : ∀ pre X, P pre X → P pre X.drew)
    (hY : ∀ pre x X s, pre.length < (prt l).length → P pre X → RecAt X b1 9 [.string s] → yld Tryd.prog L [.string (ba x)] X (fun b X' => b = true ∧ P (pre ++ [x]) X' ∧ RecAt X' b1 9 [.string s]))
    (h0 : P [] W) (hb : RecAt W b1 9 [.string (ba l)]) :
    Calls Tryd.prog 26 #[.func (.yield L) #[] #[], .pointer (some ⟨b1, 0, none⟩)] W fun e W' => (∃ v, e = .returned v) ∧ P (prt l) W' := by
  refine (F26s.of L (b1, 0) W (Q := fun v w' => P (prt l) w') ?_).mono (fun e w' ⟨v, he, h⟩ => ⟨⟨v, he⟩, h⟩)
  refine jnC_mk (loop_ruleN (fun m s X => ∃ (pre : List Bs) (rest : Bs), m = rest.length ∧ s = (L, (b1, 0), ()) ∧ pre ++ prt rest = prt l ∧ rest.length ≤ l.length ∧ P pre X ∧ RecAt X b1 9 [.string (ba rest)]) ?_ _ _ _ ⟨[], l, rfl, rfl, rfl, Nat.le_refl _, h0, hb⟩)
  rintro m s X C ⟨pre, rest, rfl, rfl, hp, hrl, hP, hB⟩ hC _
  refine ⟨ba rest, hB.cell rfl, vIf_mk (fun hne => ?_) (fun he => ?_)⟩
  · have hne : (!((ba rest).toList == (ba []).toList)) = true := hne
    rw [ba_beq] at hne
    have hne : rest ≠ [] := by simpa using hne
    have hlen : 0 < rest.length := List.length_pos_iff.2 hne
    have g0 : rest[0]? = some (rest[0]'hlen) := List.getElem?_eq_getElem hlen
    generalize rest[0]'hlen = c0 at g0
    -- the part is handed on
    have k4 : ∀ (n : Nat) (Y : World), 1 ≤ n → n ≤ rest.length → (∀ j x, j < n → rest[j]? = some x → fig x = fig c0) → (∀ x, rest[n]? = some x → fig x ≠ fig c0) → P pre Y → RecAt Y b1 9 [.string (ba rest)] →
        jnC (F26s.k4 (fun v w' => P (prt l) w') C) (L, (b1, 0), (n : Int), ()) Y := by
      intro n Y h1 hn hu hb hPY hBY
      have hcut := prt_cut (f := 0) g0 h1 hn (fun j x _ h2 h3 => hu j x h2 h3) hb
      rw [List.drop_zero, Nat.sub_zero] at hcut
      refine jnC_mk (fun _ => ⟨ba rest, hBY.cell rfl, gd_mk (decide_eq_true (by show (0 : Int) ≤ (n : Int); omega)) (gd_mk (decide_eq_true (by show (n : Int) ≤ (((ba rest).size : Nat) : Int); rw [ba_size]; omega)) ?_)⟩)
      dsimp only
      rw [Int.toNat_natCast, ba_extract, List.drop_zero, Nat.sub_zero]
      refine yld_mono (hY pre (rest.take n) Y _ (by rw [← hp, hcut]; simp) hPY hBY) ?_
      rintro b Y2 ⟨rfl, hP2, hB2⟩
      refine vIf_f rfl ⟨ba rest, hB2.cell rfl, gd_mk (decide_eq_true (by omega)) (gd_mk (decide_eq_true (by rw [ba_size]; omega)) ?_)⟩
      rw [ba_extract, ba_size, List.take_of_length_le (by rw [List.length_drop]; exact Nat.le_refl _)]
      refine hB2.st_mk (o := 0) (by simp) (fun v hv => by simp at hv; subst hv; rfl) (fun r3 f3 => jnC_mk (hC _ _ _ ?_ ⟨pre ++ [rest.take n], rest.drop n, rfl, rfl, ?_, ?_, hset _ _ _ _ hP2 hB2, r3⟩))
      · rw [List.length_drop]; omega
      · rw [List.append_assoc, List.singleton_append, ← hcut, hp]
      · rw [List.length_drop]; omega
    refine jnC_mk (loop_rule (fun s Y => ∃ n : Nat, 1 ≤ n ∧ n ≤ rest.length ∧ s = (L, (b1, 0), (n : Int), ()) ∧ (∀ j x, j < n → rest[j]? = some x → fig x = fig c0) ∧ P pre Y ∧ RecAt Y b1 9 [.string (ba rest)])
      (fun s _ => (rest.length - s.2.2.1).toNat) ?_ _ _ ⟨1, by omega, by omega, rfl, fun j x hj hx => ?_, hP, hB⟩)
    rotate_left
    · obtain rfl : j = 0 := by omega
      rw [g0] at hx
      rw [Option.some.inj hx]
    rintro s Y C2 ⟨n, h1, hn2, rfl, hu, hPY, hBY⟩ hC2 _
    have hPd := hdr _ _ hPY
    have hBd := hBY.fr (Fr.drew (fun _ => False) Y) (fun h => h)
    refine ⟨ba rest, hBd.cell rfl, vIf_mk (fun hlt => ?_) (fun hge => ?_)⟩
    · have hlt : (n : Int) < ((ba rest).size : Int) := of_decide_eq_true hlt
      rw [ba_size] at hlt
      have gn : rest[n]? = some (rest[n]'(by omega)) := List.getElem?_eq_getElem (by omega)
      generalize rest[n]'(by omega) = cn at gn
      refine ⟨ba rest, hBd.cell rfl, gd_mk (decide_eq_true (by show (0 : Int) ≤ (n : Int); omega)) (gd_mk (decide_eq_true (by show (n : Int) < _; rw [ba_size]; omega)) ⟨ba rest, hBd.cell rfl, gd_mk (decide_eq_true (by rw [ba_size]; omega)) ?_⟩)⟩
      dsimp only
      rw [Int.toNat_natCast, ba_byte gn, ba_byte g0]
      refine (figure_calls cn _).mono ?_
      rintro r u ⟨rfl, rfl⟩
      refine ⟨_, rfl, kp_mk (Fr.refl (fun _ => False) _) hBd.lt (fun h => h) ((figure_calls c0 _).mono ?_)⟩
      rintro r u ⟨rfl, rfl⟩
      refine ⟨_, rfl, vIf_mk (fun he => jnC_mk (hC2 _ _ ⟨n + 1, by omega, by omega, by rw [ei n (by omega)], fun j x hj hx => ?_, hPd, hBd⟩ ?_)) (fun hne => ?_)⟩
      · by_cases hj2 : j < n
        · exact hu j x hj2 hx
        · obtain rfl : j = n := by omega
          rw [gn] at hx
          rw [← Option.some.inj hx]
          simpa using he
      · show ((rest.length : Int) - IntKind.wrap .i64 ((n : Int) + 1)).toNat < ((rest.length : Int) - (n : Int)).toNat
        rw [ei n (by omega)]; omega
      · exact k4 n _ h1 hn2 hu (fun x hx => by rw [gn] at hx; rw [← Option.some.inj hx]; simpa using hne) hPd hBd
    · have hge : ¬ (n : Int) < ((ba rest).size : Int) := of_decide_eq_false hge
      rw [ba_size] at hge
      exact k4 n _ h1 hn2 hu (fun x hx => by rw [List.getElem?_eq_none (by omega)] at hx; cases hx) hPd hBd
  · have he : (!((ba rest).toList == (ba []).toList)) = false := he
    rw [ba_beq] at he
    have he : rest = [] := by simpa using he
    subst he
    rw [prt_nil, List.append_nil] at hp
    rw [← hp]; exact hP
end Go.Proofs.YtegihbpdemjeaaaDoor
