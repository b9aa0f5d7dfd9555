/- chapter 26: rows of names; numbers are put into their rows -/
import Derived.Test.YtfhimpkpfelilaaDoorHP
import Derived.Test.YtfhimpkpfelilaaDoorLNumC
import Derived.Test.YtfhimpkpfelilaaDoorG14
namespace Go.Proofs.YtfhimpkpfelilaaDoor
open Go.GV Go.RowKit Go.Lib
set_option linter.unusedVariables false
set_option linter.unusedSimpArgs false
abbrev bvs (r : List Bs) : List Value := svs (r.map bs)
theorem map_atB {r : List Bs} {i : Nat} {x : Bs} (h : r[i]? = some x) : (r.map bs)[i]? = some (bs x) := by simp [h]
theorem bvs_len (r : List Bs) : (bvs r).length = r.length := by simp [bvs, svs]
theorem bvs_app (a b : List Bs) : bvs (a ++ b) = bvs a ++ bvs b := by simp [bvs, svs]
theorem bvs_at {r : List Bs} {i : Nat} {x : Bs} (h : r[i]? = some x) : (bvs r)[i]? = some (.string (bs x)) := svs_at (map_atB h)
theorem bvs_take (r : List Bs) (k : Nat) : bvs (r.take k) = (bvs r).take k := by simp [bvs, svs, List.map_take]
theorem bvs_set (r : List Bs) (k : Nat) (x : Bs) (hk : k < r.length) : bvs (r.set k x) = splice (bvs r) k [.string (bs x)] := by
  apply List.ext_getElem?
  intro t
  rw [splice_get (by rw [bvs_len]; simp; omega)]
  by_cases h : k = t
  · subst h
    rw [bvs_at (List.getElem?_set_self hk), if_neg (by omega), if_pos (by simp)]; simp
  · have e : (bvs (r.set k x))[t]? = (bvs r)[t]? := by simp [bvs, svs, List.getElem?_set_ne h]
    rw [e]
    by_cases h3 : t < k
    · rw [if_pos h3]
    · rw [if_neg h3, if_neg (by simp; omega)]
theorem bs_n {w : World} {A : Option Addr} {n : Nat} {r : List Bs} (h : Sl w 1 A n (bvs r)) : r.length = n := by
  have := h.1
  rw [bvs_len] at this
  omega
theorem bs_rd {w : World} {A : Option Addr} {n : Nat} {r : List Bs} (h : Sl w 1 A n (bvs r)) {i : Nat} (hi : i < n) {x : Bs} (hx : r[i]? = some x) {K : ByteArray → Prop} (hK : K (bs x)) :
    dr A fun b o => gd (decide (0 ≤ (i : Int))) (gd (decide ((i : Int) < ((n : Nat) : Int))) (ldS w b (o + ((i : Int)).toNat * 1) K)) := ss_rd h hi (map_atB hx) hK
theorem push_v {w : World} {B : Nat} {A : Option Addr} {n c : Nat} {out : List Bs} {x : Bs} {K : Option Addr → Nat → Nat → World → Prop} (hr : Row w B 9 1 A n c (bvs out)) (hB : B ≤ w.heap.size) (hn : n ≤ 1099511627776)
    (hK : ∀ A' c' w', Row w' B 9 1 A' (n + 1) c' (bvs (out ++ [x])) → Fr (fun k => blkOf A = some k) w w' → K A' (n + 1) c' w') : nw w ([Value.string (bs x)] ++ []) 9 fun b w' => app w' 1 16 [Value.string (⟨#[]⟩ : ByteArray)] 9 A n c (.slice (some ⟨b, 0, none⟩) 1 1) K :=
  push_s hr hB hn (fun A' c' w' h f => hK A' c' w' (by rw [bvs, List.map_append]; exact h) f)
/-- writing one text of a row, at a place told by a number -/
theorem put_v {w : World} {B : Nat} {e : TypeId} {A : Option Addr} {n c k : Nat} {vs : List Value} {v : Value} {K : World → Prop} (hr : Row w B e 1 A n c vs) (hk : k < n) (h1 : ∀ u ∈ [v], u.oneCell' = true)
    (hK : ∀ w', Row w' B e 1 A n c (splice vs k [v]) → Fr (fun k => blkOf A = some k) w w' → K w') : dr A fun b o => gd (decide (0 ≤ ((k : Nat) : Int))) (gd (decide (((k : Nat) : Int) < ((n : Nat) : Int))) (st w b (o + (((k : Nat) : Int)).toNat * 1) [v] K)) := by
  obtain ⟨b, o, rfl, _⟩ := hr.sl.2 (by omega)
  have h := row_put (o' := k) hr (by omega) (by simp; omega) h1 hK
  refine dr_mk (gd_mk (decide_eq_true (by omega)) (gd_mk (decide_eq_true (by omega)) ?_))
  rw [Int.toNat_natCast, Nat.mul_one]
  exact h
theorem clone_v (A : Option Addr) (n c : Nat) (r : List Bs) (w : World) (h : Sl w 1 A n (bvs r)) (hn : n ≤ 1099511627776) :
    Calls Tryd.prog 10 #[.slice A n c] w fun e w' => ∃ A' c', e = .returned (.slice A' n c') ∧ Fr (fun _ => False) w w' ∧ Row w' w.heap.size 9 1 A' n c' (bvs r) := by
  refine (F10.of A n c w (Q := fun v w' => ∃ A' c', v = .slice A' n c' ∧ Fr (fun _ => False) w w' ∧ Row w' w.heap.size 9 1 A' n c' (bvs r)) ?_).mono (fun e w' ⟨v, he, A', c', hv, h⟩ => ⟨A', c', by rw [he, hv], h⟩)
  have hl := bs_n h
  refine vIf_mk (fun h0 => ?_) (fun h0 => ?_)
  · have hA : A = none := by simpa using h0
    subst hA
    have hn0 : n = 0 := by
      by_cases hn0 : n = 0
      · exact hn0
      · obtain ⟨b, o, hA, _⟩ := h.2 (by omega); cases hA
    subst hn0
    have : r = [] := List.length_eq_zero_iff.1 hl
    subst this
    exact ⟨none, 0, rfl, Fr.refl _ _, Row.nil _ _ _ _⟩
  · refine nw_mk ?_
    have f1 : Fr (fun _ => False) w (w.alloc (.cells ([] : List Value).toArray 9)) := Fr.alloc _ _ _
    have r1 : Row (w.alloc (.cells ([] : List Value).toArray 9)) w.heap.size 9 1 (some ⟨w.heap.size, 0, none⟩) 0 0 [] := Row.new (Nat.le_refl _) rfl
    have hs1 : (w.alloc (.cells ([] : List Value).toArray 9)).heap.size = w.heap.size + 1 := alloc_size _ _
    generalize w.alloc (.cells ([] : List Value).toArray 9) = w1 at f1 r1 hs1 ⊢
    refine app_row r1 (f1.sl h (fun _ _ _ h => h)).src (svs_one _) rfl (by omega) (by omega) (by omega) (fun A' c' w' hr' f' => ?_)
    rw [Nat.zero_add, List.nil_append] at hr'
    rw [Nat.zero_add]
    exact ⟨A', c', rfl, f1.trans f' (fun _ _ h => h) (fun k hk h' => by simp only [blkOf, Option.some.injEq] at h'; omega), hr'⟩
/-! ### the four rows of numbers -/
def rw4 (A : Nat → Option Addr) (n c : Nat → Nat) : List Value := [.slice (A 0) (n 0) (c 0), .slice (A 1) (n 1) (c 1), .slice (A 2) (n 2) (c 2), .slice (A 3) (n 3) (c 3)]
theorem rw4_at {A : Nat → Option Addr} {n c : Nat → Nat} {k : Nat} (hk : k < 4) : (rw4 A n c)[k]? = some (.slice (A k) (n k) (c k)) := by
  match k, hk with
  | 0, _ => rfl
  | 1, _ => rfl
  | 2, _ => rfl
  | 3, _ => rfl
  | k + 4, hk => omega
def updN {α : Type} (f : Nat → α) (k : Nat) (x : α) : Nat → α := fun j => if j = k then x else f j
theorem rw4_upd {A : Nat → Option Addr} {n c : Nat → Nat} {k : Nat} (hk : k < 4) (A' : Option Addr) (n' c' : Nat) : splice (rw4 A n c) k [.slice A' n' c'] = rw4 (updN A k A') (updN n k n') (updN c k c') := by
  match k, hk with
  | 0, _ => rfl
  | 1, _ => rfl
  | 2, _ => rfl
  | 3, _ => rfl
  | k + 4, hk => omega
structure RSx (B b : Nat) (w : World) (L : Nat → List Int) (A : Nat → Option Addr) (c : Nat → Nat) : Prop where
  rcd : RecAt w b 32 (rw4 A (fun k => (L k).length) c)
  row : ∀ k, k < 4 → Row w B 3 1 (A k) (L k).length (c k) (ivs (L k))
  dis : ∀ i k, i < 4 → blkOf (A i) = some k → ∀ j, j < 4 → j ≠ i → blkOf (A j) ≠ some k
  lt : b < B
  le : B ≤ w.heap.size
def RS (B b : Nat) (w : World) (L : Nat → List Int) : Prop := ∃ A c, RSx B b w L A c
/-- what the rows' changes leave alone -/
abbrev RF (B b : Nat) : Nat → Prop := fun k => k = b ∨ B ≤ k
noncomputable def rowsOf (p : List Bs) (k : Nat) : List Int := if k = 0 then [] else nums (k : Int) p
theorem rowsOf_len (p : List Bs) (k : Nat) : (rowsOf p k).length ≤ p.length := by
  unfold rowsOf
  split
  · simp
  · exact nums_len _ _
theorem RS.fr {B b : Nat} {w w' : World} {L : Nat → List Int} {S : Nat → Prop} (h : RS B b w L) (f : Fr S w w') (h1 : ∀ k, S k → k ≠ b ∧ k < B) : RS B b w' L := by
  obtain ⟨A, c, hx⟩ := h
  refine ⟨A, c, hx.rcd.fr f (fun hs => (h1 b hs).1 rfl), fun k hk => f.row (hx.row k hk) (fun j hj hs => ?_), hx.dis, hx.lt, Nat.le_trans hx.le f.size⟩
  have := ((hx.row k hk).blt hj).1
  have := (h1 j hs).2
  omega
theorem RF.trans {B b : Nat} {w u v : World} (f : Fr (RF B b) w u) (g : Fr (RF B b) u v) : Fr (RF B b) w v := f.trans g (fun _ _ h => h) (fun _ _ h => h)
theorem fr_false {S : Nat → Prop} {w u : World} (f : Fr (fun _ => False) w u) : Fr S w u := f.mono (fun _ _ h => h.elim)
/-- the variables, which lie below a block -/
structure VKN (N : Nat) (w : World) : Prop where
  vk : VK w
  lt : ∀ n ∈ ["internal/strconv.uint64pow10", "strconv.ErrSyntax"], ∀ g, Tryd.prog.globalNamed n = some g → g < N
theorem var_frS {S : Nat → Prop} {w w' : World} {n : String} {cs : Array Value} (f : Fr S w w') (hS : ∀ g, Tryd.prog.globalNamed n = some g → ¬ S g) (h : w.var? Tryd.prog n = some cs) : w'.var? Tryd.prog n = some cs := by
  unfold World.var? at h ⊢
  cases hg : Tryd.prog.globalNamed n with
  | none => rw [hg] at h; cases h
  | some g =>
    simp only [hg, Option.bind_some] at h ⊢
    have hlt : g < w.heap.size := by
      rcases Nat.lt_or_ge g w.heap.size with h' | h'
      · exact h'
      · rw [Array.getElem?_eq_none h'] at h; cases h
    rw [f.block g hlt (hS g hg)]
    exact h
theorem var_lt {w : World} {n : String} {cs : Array Value} (h : w.var? Tryd.prog n = some cs) {g : Nat} (hg : Tryd.prog.globalNamed n = some g) : g < w.heap.size := by
  unfold World.var? at h
  simp only [hg, Option.bind_some] at h
  rcases Nat.lt_or_ge g w.heap.size with h' | h'
  · exact h'
  · rw [Array.getElem?_eq_none h'] at h; cases h
theorem VK.to (w : World) (h : VK w) : VKN w.heap.size w := by
  refine ⟨h, fun n hn g hg => ?_⟩
  simp only [List.mem_cons, List.not_mem_nil, or_false] at hn
  rcases hn with rfl | rfl
  · exact var_lt h.tab hg
  · obtain ⟨tp, p, h2⟩ := h.err
    exact var_lt h2 hg
theorem VKN.fr {N : Nat} {S : Nat → Prop} {w w' : World} (h : VKN N w) (f : Fr S w w') (hS : ∀ g, g < N → ¬ S g) : VKN N w' := by
  obtain ⟨h1, tp, p, h2⟩ := h.vk
  exact ⟨⟨var_frS f (fun g hg => hS g (h.lt _ (by simp) g hg)) h1, tp, p, var_frS f (fun g hg => hS g (h.lt _ (by simp) g hg)) h2⟩, h.lt⟩
theorem VKN.fr0 {N : Nat} {w w' : World} (h : VKN N w) (f : Fr (fun _ => False) w w') : VKN N w' := h.fr f (fun _ _ h => h)
set_option maxHeartbeats 1000000 in
theorem add_calls (B b : Nat) (p : List Bs) (x : Bs) (w : World) (h : RS B b w (rowsOf p)) (hv : VK w) (hp : p.length ≤ 1099511627776) (hl : x.length ≤ 1099511627775) :
    Calls Tryd.prog 8 #[.pointer (some ⟨b, 0, none⟩), .string (bs x)] w fun e w' => e = .returned (.bool (!decide ((num x).1 = 0))) ∧ Fr (RF B b) w w' ∧ RS B b w' (rowsOf (p ++ [x])) := by
  refine (F8.of (some ⟨b, 0, none⟩) (bs x) w (Q := fun v w' => v = .bool (!decide ((num x).1 = 0)) ∧ Fr (RF B b) w w' ∧ RS B b w' (rowsOf (p ++ [x]))) ?_).mono (fun e w' ⟨v, he, hv, h⟩ => ⟨by rw [he, hv], h⟩)
  refine (number_calls x w hv hl).mono ?_
  rintro e w1 ⟨⟨k, n, rfl, hn⟩, f1⟩
  have hkn := num_eq hn
  have hrng := num_rng x
  rw [hkn] at hrng ⊢
  have h1 := h.fr f1 (fun k hk => hk.elim)
  refine ⟨_, _, rfl, vIf_mk (fun h0 => ?_) (fun h0 => ?_)⟩
  · have h0 : k = 0 := by simpa using h0
    refine ⟨by simp [h0], fr_false f1, ?_⟩
    have e : rowsOf (p ++ [x]) = rowsOf p := by
      funext j
      unfold rowsOf
      split
      · rfl
      · rename_i hj
        rw [nums_snoc, if_neg (by rw [hkn, h0]; show ¬ ((0 : Int) = (j : Int)); omega)]
    rw [e]; exact h1
  · have h0 : ¬ k = 0 := by simpa using h0
    obtain ⟨q, hq0, hq4⟩ : ∃ q : Nat, k = (q : Int) ∧ q < 4 := ⟨k.toNat, by omega, by omega⟩
    subst hq0
    obtain ⟨A, c, hx⟩ := h1
    have fd := f1.trans1 (Fr.drew (fun _ => False) w1)
    have hxd : RSx B b w1.drew (rowsOf p) A c := ⟨hx.rcd.fr (Fr.drew (fun _ => False) w1) (fun h => h), fun k hk => (Fr.drew (fun _ => False) w1).row (hx.row k hk) (fun _ _ h => h), hx.dis, hx.lt, hx.le⟩
    generalize w1.drew = u at fd hxd
    have hqr := hxd.row q hq4
    have hcell : cellAt u b (0 + ((q : Int)).toNat * 1) = some (.slice (A q) (rowsOf p q).length (c q)) := by
      rw [Int.toNat_natCast, Nat.zero_add, Nat.mul_one]
      exact hxd.rcd.cell (rw4_at hq4)
    have hql := rowsOf_len p q
    refine dr_mk (gd_mk (decide_eq_true (by omega)) (gd_mk (decide_eq_true (by omega)) ⟨_, _, _, hcell, dr_mk (nw_mk ?_)⟩))
    rw [List.append_nil]
    have g1 : Fr (fun _ => False) u (u.alloc (.cells [Value.int .i64 n].toArray 3)) := Fr.alloc _ _ _
    have r1 : Row (u.alloc (.cells [Value.int .i64 n].toArray 3)) 0 3 1 (some ⟨u.heap.size, 0, none⟩) 1 1 (ivs [n]) := Row.new (Nat.zero_le _) rfl
    have hs : (u.alloc (.cells [Value.int .i64 n].toArray 3)).heap.size = u.heap.size + 1 := alloc_size _ _
    generalize u.alloc (.cells [Value.int .i64 n].toArray 3) = u1 at g1 r1 hs ⊢
    have hle := hxd.le
    refine kp_mk g1 hxd.rcd.lt (fun h => h) (app_row2 (g1.row hqr (fun _ _ h => h)) r1.sl.src (ivs_one [n]) rfl (by omega) (by omega) (by omega) (fun A' c' u2 hr2 g2 hA' => ?_))
    have g12 : Fr (fun k => blkOf (A q) = some k) u u2 := g1.trans g2 (fun _ _ h => h.elim) (fun _ _ h => h)
    have hbA : ∀ j, j < 4 → ∀ k, blkOf (A j) = some k → B ≤ k ∧ k < u.heap.size := fun j hj k hk => (hxd.row j hj).blt hk
    have nb : ¬ blkOf (A q) = some b := fun h => by have := hbA q hq4 b h; have := hxd.lt; omega
    have hrec2 := hxd.rcd.fr g12 nb
    refine gd_mk (decide_eq_true (by omega)) (gd_mk (decide_eq_true (by omega)) ?_)
    refine hrec2.st_mk (by show 0 + ((q : Int)).toNat * 1 + 1 ≤ 4; rw [Int.toNat_natCast]; omega) (fun v hv => by simp at hv; subst hv; rfl) (fun hrec3 g3 => ⟨by rw [decide_eq_false h0]; rfl, ?_, updN A q A', updN c q c', ?_⟩)
    · refine (fr_false fd).trans (g12.trans g3 (U := RF B b) (fun k hk h => .inr (hbA q hq4 k h).1) (fun k hk h => .inl h)) (fun _ _ h => h) (fun _ _ h => h)
    · have eL : ∀ j, rowsOf (p ++ [x]) j = if j = q then rowsOf p q ++ [n] else rowsOf p j := by
        intro j
        unfold rowsOf
        by_cases hj : j = q
        · subst hj
          rw [if_pos rfl, if_neg (by omega), if_neg (by omega), nums_snoc, if_pos (by rw [hkn]), hkn]
        · rw [if_neg hj]
          split
          · rfl
          · rw [nums_snoc, if_neg (by rw [hkn]; show ¬ ((q : Int) = (j : Int)); omega)]
      have hn3 : ∀ k, blkOf A' = some k → B ≤ k ∧ k ≠ b := fun k hk => by
        have := (hr2.blt hk).1
        have := hxd.lt
        omega
      refine ⟨?_, fun j hj => ?_, fun i k hi hik j hj hji => ?_, hxd.lt, Nat.le_trans hle (Nat.le_trans g12.size g3.size)⟩
      · have e := rw4_upd (A := A) (n := fun k => (rowsOf p k).length) (c := c) hq4 A' ((rowsOf p q).length + 1) c'
        rw [Int.toNat_natCast, Nat.zero_add, Nat.mul_one, e] at hrec3
        have e2 : (fun k => (rowsOf (p ++ [x]) k).length) = updN (fun k => (rowsOf p k).length) q ((rowsOf p q).length + 1) := by
          funext j
          unfold updN
          rw [eL]
          split
          · rw [List.length_append]; rfl
          · rfl
        rw [e2, Int.toNat_natCast, Nat.zero_add, Nat.mul_one]; exact hrec3
      · rw [eL]
        unfold updN
        by_cases hjq : j = q
        · rw [if_pos hjq, if_pos hjq, if_pos hjq, List.length_append, ivs_app]
          exact g3.row hr2 (fun k hk h => (hn3 k hk).2 h)
        · rw [if_neg hjq, if_neg hjq, if_neg hjq]
          refine g3.row (g12.row (hxd.row j hj) (fun k hk h => hxd.dis q k hq4 h j hj hjq hk)) (fun k hk h => ?_)
          have h : k = b := h
          have := (hbA j hj k hk).1
          have := hxd.lt
          omega
      · unfold updN at hik ⊢
        by_cases hiq : i = q
        · rw [if_pos hiq] at hik
          rw [if_neg (by omega)]
          intro hjk
          rcases hA' k hik with h' | h'
          · exact hxd.dis q k hq4 h' j hj (by omega) hjk
          · have := (hbA j hj k hjk).2; omega
        · rw [if_neg hiq] at hik
          by_cases hjq : j = q
          · rw [if_pos hjq]
            intro hjk
            rcases hA' k hjk with h' | h'
            · exact hxd.dis i k hi hik q hq4 (by omega) h'
            · have := (hbA i hi k hik).2; omega
          · rw [if_neg hjq]
            exact hxd.dis i k hi hik j hj hji
end Go.Proofs.YtfhimpkpfelilaaDoor
