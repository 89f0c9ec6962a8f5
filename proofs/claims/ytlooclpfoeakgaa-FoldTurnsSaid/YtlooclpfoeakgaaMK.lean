/- A graph is numbered as its vertices are first met: what the scan knows. Plain laws. -/
import Derived.Test.YtlooclpfoeakgaaMJ
import Derived.Test.YtlooclpfoeakgaaMG
import Derived.Test.YtlooclpfoeakgaaMF
import Derived.Test.YtlooclpfoeakgaaMB
import Derived.Test.YtlooclpfoeakgaaMI
import Derived.Test.YtlooclpfoeakgaaKFolds
namespace Go.Proofs.Ytlooclpfoeakgaa

/-- a row, met when m vertices are known: how many are known behind it; none where a number is left out -/
def okR (nx : Nat → Option Nat) : List Nat → Nat → Option Nat
  | [], m => some m
  | p :: ps, m => match nx p with
    | none => okR nx ps m
    | some u => if m < u then none else okR nx ps (if u = m then m + 1 else m)
def okG (nx : Nat → Nat → Option Nat) (ps : List Nat) : Nat → Nat → Nat → Option Nat
  | 0, _, m => some m
  | f + 1, i, m => if i < m then (okR (nx i) ps m).bind (okG nx ps f (i + 1)) else some m
theorem okR_app (nx : Nat → Option Nat) : ∀ (a b : List Nat) (m : Nat), okR nx (a ++ b) m = (okR nx a m).bind (okR nx b)
  | [], _, _ => rfl
  | p :: a, b, m => by
    rw [List.cons_append, okR, okR]
    cases nx p with
    | none => exact okR_app nx a b m
    | some u =>
      simp only
      split
      · rfl
      · exact okR_app nx a b _
theorem okR_le {nx : Nat → Option Nat} : ∀ {ps : List Nat} {m n : Nat}, okR nx ps m = some n → m ≤ n
  | [], m, n, h => by cases h; exact Nat.le_refl _
  | p :: ps, m, n, h => by
    rw [okR] at h
    cases hp : nx p with
    | none => rw [hp] at h; exact okR_le h
    | some u =>
      rw [hp] at h
      simp only at h
      split at h
      · cases h
      · have := okR_le h
        split at this <;> omega
theorem okR_bound {nx : Nat → Option Nat} {V : Nat} (hV : ∀ p u, nx p = some u → u < V) : ∀ {ps : List Nat} {m n : Nat}, m ≤ V → okR nx ps m = some n → n ≤ V
  | [], m, n, hm, h => by cases h; exact hm
  | p :: ps, m, n, hm, h => by
    rw [okR] at h
    cases hp : nx p with
    | none => rw [hp] at h; exact okR_bound hV hm h
    | some u =>
      rw [hp] at h
      simp only at h
      split at h
      · cases h
      · have := hV p u hp
        exact okR_bound hV (by split <;> omega) h
theorem posOf_range {u m : Nat} (h : u < m) : posOf u (List.range m) = some u := posOf_of List.nodup_range (by rw [List.getElem?_range h])
theorem posOf_range_none {u m : Nat} (h : m ≤ u) : posOf u (List.range m) = none := by
  rw [posOf_none, List.mem_range]; omega
theorem rowN_pre (nx : Nat → Nat → Option Nat) (v : Nat) : ∀ (ps : List Nat) (l : List Nat) (r : List Int), ∃ t, (rowN nx v ps l r).2 = r ++ t
  | [], _, r => ⟨[], by simp [rowN]⟩
  | p :: ps, l, r => by
    rw [rowN]
    cases hp : nx v p with
    | none =>
      obtain ⟨t, ht⟩ := rowN_pre nx v ps l (r ++ [-1])
      exact ⟨-1 :: t, by simp only; rw [ht]; simp⟩
    | some u =>
      simp only
      cases hq : posOf u l with
      | some n =>
        obtain ⟨t, ht⟩ := rowN_pre nx v ps l (r ++ [(n : Int)])
        exact ⟨(n : Int) :: t, by simp only; rw [ht]; simp⟩
      | none =>
        obtain ⟨t, ht⟩ := rowN_pre nx v ps (l ++ [u]) (r ++ [(l.length : Int)])
        exact ⟨(l.length : Int) :: t, by simp only; rw [ht]; simp⟩
/-- a row is numbered as it is just if no number is left out -/
theorem rowN_ok (nx : Nat → Nat → Option Nat) (v : Nat) : ∀ (ps : List Nat) (m : Nat) (r : List Int),
    (∀ n, okR (nx v) ps m = some n → rowN nx v ps (List.range m) r = (List.range n, r ++ ps.map fun p => optI (nx v p))) ∧
    ((rowN nx v ps (List.range m) r).2 = r ++ (ps.map fun p => optI (nx v p)) → ∃ n, okR (nx v) ps m = some n)
  | [], m, r => ⟨fun n h => by cases h; simp [rowN], fun _ => ⟨m, rfl⟩⟩
  | p :: ps, m, r => by
    rw [okR, rowN]
    cases hp : nx v p with
    | none =>
      obtain ⟨h1, h2⟩ := rowN_ok nx v ps m (r ++ [-1])
      simp only
      refine ⟨fun n h => ?_, fun h => h2 ?_⟩
      · rw [h1 n h]; simp [hp, optI]
      · rw [h]; simp [hp, optI]
    | some u =>
      simp only
      by_cases hu : u < m
      · rw [posOf_range hu]
        simp only
        obtain ⟨h1, h2⟩ := rowN_ok nx v ps m (r ++ [(u : Int)])
        rw [if_neg (by omega), if_neg (by omega)]
        refine ⟨fun n h => ?_, fun h => h2 ?_⟩
        · rw [h1 n h]; simp [hp, optI]
        · rw [h]; simp [hp, optI]
      · rw [posOf_range_none (by omega)]
        simp only
        by_cases e : u = m
        · subst e
          rw [if_neg (by omega), if_pos rfl, ← List.range_succ, List.length_range]
          obtain ⟨h1, h2⟩ := rowN_ok nx v ps (u + 1) (r ++ [(u : Int)])
          refine ⟨fun n h => ?_, fun h => h2 ?_⟩
          · rw [h1 n h]; simp [hp, optI]
          · rw [h]; simp [hp, optI]
        · rw [if_pos (by omega)]
          refine ⟨fun n h => (by cases h), fun h => ?_⟩
          exfalso
          obtain ⟨t, ht⟩ := rowN_pre nx v ps (List.range m ++ [u]) (r ++ [((List.range m).length : Int)])
          rw [ht, List.map_cons, hp, List.append_assoc] at h
          have h3 := List.append_cancel_left h
          have h4 := (List.cons.inj h3).1
          rw [List.length_range] at h4
          have : ((m : Nat) : Int) = (u : Int) := h4
          omega
theorem numN_pre (nx : Nat → Nat → Option Nat) (ps : List Nat) : ∀ (f i : Nat) (l : List Nat) (g : List (List Int)), ∃ t, numN nx ps f i l g = g ++ t
  | 0, _, _, g => ⟨[], by simp [numN]⟩
  | f + 1, i, l, g => by
    rw [numN]
    split
    · exact ⟨[], by simp⟩
    · rename_i v _
      obtain ⟨t, ht⟩ := numN_pre nx ps f (i + 1) (rowN nx v ps l []).1 (g ++ [(rowN nx v ps l []).2])
      exact ⟨(rowN nx v ps l []).2 :: t, by rw [ht]; simp⟩
/-- a graph is numbered as it is just if the scan leaves out no number and knows all vertices at its end -/
theorem numN_ok {nx : Nat → Nat → Option Nat} {ps : List Nat} {g : List (List Int)} (hrow : ∀ v r, g[v]? = some r → r = ps.map fun p => optI (nx v p)) (hV : ∀ v p u, nx v p = some u → u < g.length) : ∀ (f i m : Nat), i ≤ g.length → g.length ≤ i + f → m ≤ g.length → i ≤ m →
    (numN nx ps f i (List.range m) (g.take i) = g ↔ okG nx ps f i m = some g.length)
  | 0, i, m, h1, h2, h3, h4 => by
    have e1 : i = g.length := by omega
    have e2 : m = g.length := by omega
    subst e1
    rw [numN, okG, List.take_length, e2]
    simp
  | f + 1, i, m, h1, h2, h3, h4 => by
    rw [numN, okG]
    by_cases him : i < m
    · rw [List.getElem?_range him, if_pos him]
      simp only
      have hi : i < g.length := by omega
      have hgi : g[i]? = some g[i] := List.getElem?_eq_getElem hi
      have hr := hrow i _ hgi
      obtain ⟨r1, r2⟩ := rowN_ok nx i ps m []
      have htk : g.take i ++ [g[i]] = g.take (i + 1) := by rw [List.take_add_one, hgi]; rfl
      constructor
      · intro h
        obtain ⟨t, ht⟩ := numN_pre nx ps f (i + 1) (rowN nx i ps (List.range m) []).1 (g.take i ++ [(rowN nx i ps (List.range m) []).2])
        rw [h] at ht
        have h5 : g[i]? = some (rowN nx i ps (List.range m) []).2 := by
          rw [ht, List.append_assoc, List.getElem?_append_right (by rw [List.length_take]; omega), List.length_take]
          rw [show i - min i g.length = 0 by omega]; rfl
        rw [hgi] at h5
        have h6 := Option.some.inj h5
        obtain ⟨n, hn⟩ := r2 (by rw [← h6, List.nil_append]; exact hr)
        have h7 := r1 n hn
        rw [h7, List.nil_append, ← hr, htk] at h
        rw [hn]
        show okG nx ps f (i + 1) n = _
        have hle := okR_le hn
        exact (numN_ok hrow hV f (i + 1) n (by omega) (by omega) (okR_bound (hV i) h3 hn) (by omega)).1 h
      · intro h
        cases hn : okR (nx i) ps m with
        | none => rw [hn] at h; cases h
        | some n =>
          rw [hn] at h
          change okG nx ps f (i + 1) n = some g.length at h
          have h7 := r1 n hn
          rw [h7, List.nil_append, ← hr, htk]
          have hle := okR_le hn
          exact (numN_ok hrow hV f (i + 1) n (by omega) (by omega) (okR_bound (hV i) h3 hn) (by omega)).2 h
    · have e : i = m := by omega
      subst e
      rw [List.getElem?_eq_none (by simp), if_neg (Nat.lt_irrefl _)]
      simp only
      constructor
      · intro h
        have := congrArg List.length h
        rw [List.length_take] at this
        congr 1; omega
      · intro h
        rw [Option.some.inj h, List.take_length]

/-! ### what is known at each place of a good graph -/
theorem good_rows {k : Nat} {g : List (List Int)} (hr : ∀ r ∈ g, r.length = 2 * k ∧ ∀ x ∈ r, -1 ≤ x ∧ x < g.length) : ∀ v r, g[v]? = some r → r = (List.range (2 * k)).map fun p => optI (nxT g v p) := by
  intro v r h
  obtain ⟨h1, h2⟩ := hr r (List.mem_of_getElem? h)
  apply List.ext_getElem?
  intro p
  by_cases hp : p < 2 * k
  · obtain ⟨x, hx⟩ : ∃ x, r[p]? = some x := ⟨_, List.getElem?_eq_getElem (by omega)⟩
    rw [hx, List.getElem?_map, List.getElem?_range hp]
    show some x = some _
    congr 1
    exact (nxT_opt (by unfold atG; rw [h]; exact hx) (h2 x (List.mem_of_getElem? hx)).1).symm
  · rw [List.getElem?_eq_none (by omega), List.getElem?_eq_none (by simp; omega)]
theorem good_ok {k : Nat} {g : List (List Int)} (hg : GoodG k g) : okG (nxT g) (List.range (2 * k)) 5000 0 1 = some g.length := by
  have h := hg.num
  have h1 := numN_ok (g := g) (good_rows hg.row) (fun v p u h => (nxT_bounds hg h).2.2) 5000 0 1 (by omega) (by have := hg.n5; omega) hg.n1 (by omega)
  exact h1.1 (by simpa using h)
theorem scan_known {k : Nat} {g : List (List Int)} : ∀ v i m, (∀ s, metF g (scanN (2 * k) v i) s = decide (s < m)) → i ≤ 2 * k → 1 ≤ m → ∀ j, j ≤ 2 * k → i ≤ j → ∀ n, okR (nxT g v) (List.range' i (j - i)) m = some n → ∀ s, metF g (scanN (2 * k) v j) s = decide (s < n) := by
  intro v i m h hi hm j
  induction j generalizing i m with
  | zero =>
    intro hj hij n hn s
    obtain rfl : i = 0 := by omega
    rw [Nat.sub_self] at hn
    cases hn
    exact h s
  | succ j ih =>
    intro hj hij n hn s
    by_cases e : i = j + 1
    · subst e
      rw [Nat.sub_self] at hn
      cases hn
      exact h s
    · have e2 : List.range' i (j + 1 - i) = List.range' i (j - i) ++ [j] := by
        rw [show j + 1 - i = (j - i) + 1 by omega, List.range'_concat]
        rw [show i + 1 * (j - i) = j by omega]
      rw [e2, okR_app] at hn
      cases hq : okR (nxT g v) (List.range' i (j - i)) m with
      | none => rw [hq] at hn; cases hn
      | some q =>
        rw [hq] at hn
        change okR (nxT g v) [j] q = some n at hn
        have hpre := ih i m h hi hm (by omega) (by omega) q hq
        have hq1 := okR_le hq
        rw [scan_step]
        rw [okR] at hn
        cases hu : nxT g v j with
        | none =>
          rw [hu] at hn
          cases hn
          rw [(tree_same (q := (v, j)) (fun t ht => by rw [hu] at ht; cases ht)).2]
          exact hpre s
        | some u =>
          rw [hu] at hn
          simp only at hn
          split at hn
          · cases hn
          · rw [okR] at hn
            have hn2 := (Option.some.inj hn).symm
            by_cases hum : u = q
            · rw [if_pos hum] at hn2
              rw [(tree_new (q := (v, j)) (t := u) hu (by rw [hpre u]; exact decide_eq_false (by omega))).2]
              show (if s = u then true else _) = _
              rw [hpre s, hn2, hum]
              by_cases hs : s = q
              · rw [if_pos hs]; exact (decide_eq_true (by omega)).symm
              · rw [if_neg hs]
                exact decide_eq_decide.2 (by omega)
            · rw [if_neg hum] at hn2
              rw [(tree_same (q := (v, j)) (fun t ht => by rw [hu] at ht; rw [← Option.some.inj ht, hpre u]; exact decide_eq_true (by omega))).2, hpre s, hn2]
/-- the number of vertices that are known before a row -/
theorem known_row {k : Nat} {g : List (List Int)} (hg : GoodG k g) : ∀ v, v ≤ g.length → ∃ m, 1 ≤ m ∧ m ≤ g.length ∧ (v < g.length → v < m) ∧ (∀ s, metF g (scanN (2 * k) v 0) s = decide (s < m)) ∧ okG (nxT g) (List.range (2 * k)) (5000 - v) v m = some g.length := by
  have hn1 := hg.n1
  have hn5 := hg.n5
  intro v
  induction v with
  | zero =>
    intro _
    refine ⟨1, by omega, hn1, fun _ => by omega, fun s => ?_, good_ok hg⟩
    unfold metF scanN
    simp only [List.range_zero, List.flatMap_nil, List.map_nil, List.append_nil, List.find?_nil, Option.isSome_none, Bool.or_false]
    exact decide_eq_decide.2 (by omega)
  | succ v ih =>
    intro hv
    obtain ⟨m, h1, h2, h3, h4, h5⟩ := ih (by omega)
    have h6 := h3 (by omega)
    rw [show 5000 - v = (5000 - (v + 1)) + 1 by omega, okG, if_pos h6] at h5
    cases hn : okR (nxT g v) (List.range (2 * k)) m with
    | none => rw [hn] at h5; cases h5
    | some n =>
      rw [hn] at h5
      change okG _ _ (5000 - (v + 1)) (v + 1) n = some g.length at h5
      have hle := okR_le hn
      have hb := okR_bound (fun p u h => (nxT_bounds hg h).2.2) h2 hn
      refine ⟨n, by omega, hb, fun hlt => ?_, ?_, h5⟩
      · rcases Nat.lt_or_ge (v + 1) n with q | q
        · exact q
        · exfalso
          rw [show 5000 - (v + 1) = (5000 - (v + 1) - 1) + 1 by omega, okG, if_neg (by omega)] at h5
          have := Option.some.inj h5
          omega
      · rw [← scan_next]
        exact scan_known v 0 m h4 (by omega) h1 (2 * k) (Nat.le_refl _) (by omega) n (by rw [Nat.sub_zero, ← List.range_eq_range']; exact hn)
/-- the number of vertices that are known at a place -/
theorem known_at {k : Nat} {g : List (List Int)} (hg : GoodG k g) {v : Nat} (hv : v < g.length) : ∀ i, i ≤ 2 * k → ∃ m, 1 ≤ m ∧ m ≤ g.length ∧ v < m ∧ (∀ s, metF g (scanN (2 * k) v i) s = decide (s < m)) ∧ (i < 2 * k → ∀ u, nxT g v i = some u → u ≤ m) := by
  obtain ⟨m, h1, h2, h3, h4, h5⟩ := known_row hg v (by omega)
  have hn5 := hg.n5
  rw [show 5000 - v = (5000 - (v + 1)) + 1 by omega, okG, if_pos (h3 hv)] at h5
  obtain ⟨n, hn⟩ : ∃ n, okR (nxT g v) (List.range (2 * k)) m = some n := by
    cases hn : okR (nxT g v) (List.range (2 * k)) m with
    | none => rw [hn] at h5; cases h5
    | some n => exact ⟨n, rfl⟩
  intro i hi
  have e : List.range (2 * k) = List.range' 0 i ++ List.range' i (2 * k - i) := by
    have := List.range'_append_1 (s := 0) (m := i) (n := 2 * k - i)
    rw [Nat.zero_add, show i + (2 * k - i) = 2 * k by omega] at this
    rw [List.range_eq_range']; exact this.symm
  rw [e, okR_app] at hn
  cases hq : okR (nxT g v) (List.range' 0 i) m with
  | none => rw [hq] at hn; cases hn
  | some q =>
    rw [hq] at hn
    change okR (nxT g v) (List.range' i (2 * k - i)) q = some n at hn
    have hle := okR_le hq
    have hb := okR_bound (fun p u h => (nxT_bounds hg h).2.2) h2 hq
    have h3 := h3 hv
    refine ⟨q, by omega, hb, by omega, scan_known v 0 m h4 (by omega) h1 i hi (by omega) q (by rw [Nat.sub_zero]; exact hq), fun hlt u hu => ?_⟩
    rw [show 2 * k - i = (2 * k - i - 1) + 1 by omega, List.range'_succ, okR, hu] at hn
    simp only at hn
    split at hn
    · cases hn
    · omega
end Go.Proofs.Ytlooclpfoeakgaa

/- The tree as the reference makes it: what is marked. Plain laws. -/
namespace Go.Proofs.Ytlooclpfoeakgaa

theorem scan_row (K v : Nat) {i : Nat} : ∀ {j : Nat}, i ≤ j → scanN K v i <+: scanN K v j
  | 0, h => by obtain rfl : i = 0 := by omega
               exact List.prefix_refl _
  | j + 1, h => by
    by_cases e : i = j + 1
    · subst e; exact List.prefix_refl _
    · rw [scan_step]
      exact (scan_row K v (show i ≤ j by omega)).trans (List.prefix_append _ _)
theorem scan_prefix (K : Nat) {v i : Nat} (hi : i ≤ K) : ∀ {n : Nat}, v < n → scanN K v i <+: scanN K n 0
  | 0, h => by omega
  | n + 1, h => by
    by_cases e : v = n
    · subst e
      rw [← scan_next]
      exact scan_row K v hi
    · have h1 := scan_prefix K hi (show v < n by omega)
      have h2 : scanN K n 0 <+: scanN K (n + 1) 0 := by rw [← scan_next]; exact scan_row K n (Nat.zero_le _)
      exact h1.trans h2
/-- where a vertex is first met -/
theorem tree_at {k : Nat} {g : List (List Int)} {v i m : Nat} (hv : v < g.length) (hi : i < 2 * k) (h : nxT g v i = some m) (hm : metF g (scanN (2 * k) v i) m = false) : treeT k g m = (v, i) := by
  have h0 : m ≠ 0 := by
    rintro rfl
    unfold metF at hm
    simp at hm
  have h1 : (scanN (2 * k) v i).find? (hitP g m) = none := by
    unfold metF at hm
    rw [Bool.or_eq_false_iff] at hm
    cases hf : (scanN (2 * k) v i).find? (hitP g m) with
    | none => rfl
    | some a => rw [hf] at hm; simp at hm
  have h2 := find_new (q := (v, i)) h h1
  rw [← scan_step] at h2
  obtain ⟨R, hR⟩ := scan_prefix (2 * k) (show i + 1 ≤ 2 * k by omega) hv
  show treeF g (scanN (2 * k) g.length 0) m = _
  unfold treeF
  rw [if_neg h0, ← hR, List.find?_append, h2]
  rfl
/-- what is marked when the vertices up to some are known -/
def usedN (T : Nat → Nat × Nat) : Nat → Nat → Nat → Bool
  | 0, _, _ => false
  | s + 1, v, p => usedN T s v p || (decide (s ≠ 0) && (decide (T s = (v, p)) || (decide (v = s) && decide (p = (T s).2 ^^^ 1))))
theorem used_one (T : Nat → Nat × Nat) (v p : Nat) : usedN T 1 v p = false := by simp [usedN]
theorem used_iff (T : Nat → Nat × Nat) : ∀ {n v p : Nat}, usedN T n v p = true ↔ ∃ s, s < n ∧ s ≠ 0 ∧ (T s = (v, p) ∨ (v = s ∧ p = (T s).2 ^^^ 1))
  | 0, v, p => by simp [usedN]
  | n + 1, v, p => by
    rw [usedN, Bool.or_eq_true, used_iff T, Bool.and_eq_true, Bool.or_eq_true, Bool.and_eq_true, decide_eq_true_iff, decide_eq_true_iff, decide_eq_true_iff, decide_eq_true_iff]
    constructor
    · rintro (⟨s, h1, h2, h3⟩ | ⟨h1, h2⟩)
      · exact ⟨s, by omega, h2, h3⟩
      · exact ⟨n, by omega, h1, h2⟩
    · rintro ⟨s, h1, h2, h3⟩
      by_cases e : s = n
      · subst e; exact .inr ⟨h2, h3⟩
      · exact .inl ⟨s, by omega, h2, h3⟩
/-- at an edge: what is marked are the edges of the tree -/
theorem used_skip {k : Nat} {g : List (List Int)} (hg : GoodG k g) {v p u : Nat} (h : nxT g v p = some u) : usedN (treeT k g) g.length v p = skipT (treeT k g) (v, p, u) := by
  have hk4 := hg.k4
  obtain ⟨b1, b2, b3⟩ := nxT_bounds hg h
  rw [Bool.eq_iff_iff, used_iff]
  unfold skipT
  rw [Bool.or_eq_true, Bool.and_eq_true, Bool.and_eq_true, decide_eq_true_iff, decide_eq_true_iff, decide_eq_true_iff, decide_eq_true_iff]
  dsimp only
  constructor
  · rintro ⟨s, h1, h2, h3⟩
    obtain ⟨f, q, a1, a2, a3, a4, -⟩ := tree_first hg h1 h2
    change treeT k g s = (f, q) at a1
    rcases h3 with h3 | ⟨h3, h4⟩
    · rw [h3] at a1
      obtain ⟨rfl, rfl⟩ := Prod.mk.inj a1
      rw [h] at a4
      obtain rfl := Option.some.inj a4
      exact .inl ⟨h2, h3⟩
    · subst h3
      rw [a1] at h4
      dsimp only at h4
      have h5 := hg.sym f q v a3 a4
      rw [← h4, h] at h5
      obtain rfl := Option.some.inj h5
      refine .inr ⟨h2, ?_⟩
      rw [a1, h4, xor_xor q (by omega)]
  · rintro (⟨h1, h2⟩ | ⟨h1, h2⟩)
    · exact ⟨u, b3, h1, .inl h2⟩
    · exact ⟨v, b1, h1, .inr ⟨rfl, by rw [h2]; exact (xor_xor p (by omega)).symm⟩⟩
end Go.Proofs.Ytlooclpfoeakgaa

/- The number of an edge is that of the words before it, and one. Plain laws. -/
namespace Go.Proofs.Ytlooclpfoeakgaa

theorem edges_row' (k : Nat) (g : List (List Int)) (v : Nat) {i : Nat} : ∀ {j : Nat}, i ≤ j → edgesTo k g v i <+: edgesTo k g v j
  | 0, h => by obtain rfl : i = 0 := by omega
               exact List.prefix_refl _
  | j + 1, h => by
    by_cases e : i = j + 1
    · subst e; exact List.prefix_refl _
    · rw [edges_step]
      exact (edges_row' k g v (show i ≤ j by omega)).trans (List.prefix_append _ _)
theorem edges_prefix (k : Nat) (g : List (List Int)) {v i : Nat} (hi : i ≤ k) : ∀ {n : Nat}, v < n → edgesTo k g v i <+: edgesTo k g n 0
  | 0, h => by omega
  | n + 1, h => by
    by_cases e : v = n
    · subst e
      rw [← edges_next]
      exact edges_row' k g v hi
    · have h1 := edges_prefix k g hi (show v < n by omega)
      have h2 : edgesTo k g n 0 <+: edgesTo k g (n + 1) 0 := by rw [← edges_next]; exact edges_row' k g n (Nat.zero_le _)
      exact h1.trans h2
theorem mapQ_stay (T : Nat → Nat × Nat) {x y : Nat} : ∀ (r l : List E3), (∀ e ∈ r, (x, y) ≠ (e.1, e.2.1) ∧ (x, y) ≠ (e.2.2, e.2.1 ^^^ 1)) → (mapQ T (l ++ r)).2 x y = (mapQ T l).2 x y
  | [], l, _ => by rw [List.append_nil]
  | e :: r, l, h => by
    have h1 := mapQ_stay T r (l ++ [e]) (fun f hf => h f (by simp [hf]))
    rw [List.append_assoc, List.singleton_append] at h1
    rw [h1, mapQ_snoc]
    unfold stepQ
    split
    · rfl
    · obtain ⟨a, b⟩ := h e (by simp)
      show putQ _ _ _ _ _ = _
      unfold putQ
      rw [if_neg b, if_neg a]
/-- the number at a place -/
theorem num_at {k : Nat} {g : List (List Int)} (hg : GoodG k g) {v i u : Nat} (hv : v < g.length) (hi : i < k) (h : nxT g v (2 * i) = some u) :
    numQ k g v (2 * i) = if skipT (treeT k g) (v, 2 * i, u) = true then 0 else ((wordsQ (treeT k g) (wayW k g) (edgesTo k g v i)).length : Int) + 1 := by
  have hk4 := hg.k4
  obtain ⟨R, hR⟩ := edges_prefix k g (show i + 1 ≤ k by omega) hv
  have he : edgesTo k g v (i + 1) = edgesTo k g v i ++ [(v, 2 * i, u)] := by
    rw [edges_step]
    unfold edgeAt
    rw [h]
  have hk := edges_keys k g
  have hm := fun (e : E3) => (mem_edges hg (v := e.1) (p := e.2.1) (u := e.2.2)).1
  unfold edgesE at hk hm
  rw [← hR, he] at hk
  have hst : (mapQ (treeT k g) (edgesE k g)).2 v (2 * i) = (mapQ (treeT k g) (edgesTo k g v i ++ [(v, 2 * i, u)])).2 v (2 * i) := by
    unfold edgesE
    rw [← hR, he]
    refine mapQ_stay _ R _ (fun e hm2 => ?_)
    have h1 := (List.pairwise_append.1 hk).2.2 (v, 2 * i, u) (by simp) e hm2
    refine ⟨h1, fun x => ?_⟩
    have h2 := hm e (by rw [← hR]; exact List.mem_append_right _ hm2)
    have h3 := xor_odd e.2.1 (by have := (nxT_bounds hg h2.1).2.1; omega) h2.2
    have := (Prod.mk.inj x).2
    omega
  unfold numQ mapM
  rw [hst, mapQ_snoc]
  unfold stepQ
  by_cases hs : skipT (treeT k g) (v, 2 * i, u) = true
  · rw [if_pos hs, if_pos hs]
    -- no number before
    have hN := nums_all hg (treeT k g) (wayW k g) _ (edgesTo k g v i) rfl (fun e he2 => hm e (by rw [← hR, he]; simp [he2])) ((List.pairwise_append.1 (List.pairwise_append.1 hk).1).1)
    cases hx : (mapQ (treeT k g) (edgesTo k g v i)).2 v (2 * i) with
    | none => rfl
    | some z =>
      exfalso
      obtain ⟨e, he2, j, -, h4⟩ := hN.only _ _ _ hx
      have h5 := (List.pairwise_append.1 (List.pairwise_append.1 hk).1).2.2 e he2 (v, 2 * i, u) (by simp)
      rcases h4 with ⟨h4, -⟩ | ⟨h4, -⟩
      · exact h5 h4.symm
      · have h2 := hm e (by rw [← hR, he]; simp [he2])
        have h3 := xor_odd e.2.1 (by have := (nxT_bounds hg h2.1).2.1; omega) h2.2
        have := (Prod.mk.inj h4).2
        omega
  · rw [if_neg hs, if_neg hs]
    show (putQ _ _ _ v (2 * i)).getD 0 = _
    unfold putQ
    have h3 := xor_odd (2 * i) (by omega) (by omega)
    rw [if_neg (fun x => by have := (Prod.mk.inj x).2; dsimp only at this; omega), if_pos rfl, mapQ_len _ (wayW k g)]
    show ((_ + 1 : Nat) : Int) = _
    push_cast; rfl
theorem num_none {k : Nat} {g : List (List Int)} (hg : GoodG k g) {v i : Nat} (h : nxT g v (2 * i) = none) : numQ k g v (2 * i) = 0 := by
  have hk4 := hg.k4
  unfold numQ
  cases hx : mapM k g v (2 * i) with
  | none => rfl
  | some z =>
    exfalso
    obtain ⟨e, he, j, -, h4⟩ := (nums_good hg).only _ _ _ hx
    have h2 := (mem_edges hg (v := e.1) (p := e.2.1) (u := e.2.2)).1 he
    rcases h4 with ⟨h4, -⟩ | ⟨h4, -⟩
    · obtain ⟨h5, h6⟩ := Prod.mk.inj h4
      rw [← h5, ← h6, h] at h2
      cases h2.1
    · have h3 := xor_odd e.2.1 (by have := (nxT_bounds hg h2.1).2.1; omega) h2.2
      have := (Prod.mk.inj h4).2
      omega
/-- the numbers of the small letters' edges, by vertices -/
def numR (k : Nat) (g : List (List Int)) : List (List Int) := (List.range g.length).map fun v => (List.range k).map fun i => numQ k g v (2 * i)
end Go.Proofs.Ytlooclpfoeakgaa

/- The reference's letter: the walk. -/
namespace Go.Proofs.Ytlooclpfoeakgaa
open Go.RowKit

set_option maxHeartbeats 1000000 in
theorem rLetterP_any (w : World) (p : Nat) (hp : p < 8) :
    Calls Try.prog 72 #[.int .i64 p] w fun e w' => e = .returned (.string (strB [letP p])) ∧ Below w.heap.size w w' := by
  have hconv := fun (c : UInt8) => conv_one (w := w) (c := c)
  obtain ⟨h, h97, h98, h99, h100, h65, h66, h67, h68⟩ : True ∧ _ ∧ _ ∧ _ ∧ _ ∧ _ ∧ _ ∧ _ ∧ _ := ⟨trivial, hconv 97, hconv 98, hconv 99, hconv 100, hconv 65, hconv 66, hconv 67, hconv 68⟩
  clear hconv h
  have e97 : (((97 : UInt8).toNat : Nat) : Int) = 97 := rfl
  have e98 : (((98 : UInt8).toNat : Nat) : Int) = 98 := rfl
  have e99 : (((99 : UInt8).toNat : Nat) : Int) = 99 := rfl
  have e100 : (((100 : UInt8).toNat : Nat) : Int) = 100 := rfl
  have e65 : (((65 : UInt8).toNat : Nat) : Int) = 65 := rfl
  have e66 : (((66 : UInt8).toNat : Nat) : Int) = 66 := rfl
  have e67 : (((67 : UInt8).toNat : Nat) : Int) = 67 := rfl
  have e68 : (((68 : UInt8).toNat : Nat) : Int) = 68 := rfl
  rw [e97] at h97; rw [e98] at h98; rw [e99] at h99; rw [e100] at h100
  rw [e65] at h65; rw [e66] at h66; rw [e67] at h67; rw [e68] at h68
  clear e97 e98 e99 e100 e65 e66 e67 e68
  have hB : ∀ o, Below w.heap.size w (w.alloc o) := fun o => (Below.refl _ w).alloc (Nat.le_refl _) o
  have HB := Lib.hid hB
  clear hB
  obtain rfl | rfl | rfl | rfl | rfl | rfl | rfl | rfl : p = 0 ∨ p = 1 ∨ p = 2 ∨ p = 3 ∨ p = 4 ∨ p = 5 ∨ p = 6 ∨ p = 7 := by omega
  all_goals
    go_enter Try.func72, Try.ntmps72
    go_wp2_with fail
    go_ret
    exact ⟨rfl, HB.out _⟩
end Go.Proofs.Ytlooclpfoeakgaa

/- The reference's tree of a good graph: the walk. -/
namespace Go.Proofs.Ytlooclpfoeakgaa
open Go.RowKit

theorem Try.info113 : (Try.prog.info? 113).map (fun i => (i.zero, i.size, i.bytes)) = some (some (.slice none 0 0), 1, 24) := by kernel_rfl

/-- the ways and the marks in memory, when the vertices up to m are known -/
structure TreeM (W : World) (wb ub rb K n : Nat) (Wf : Nat → List UInt8) (T : Nat → Nat × Nat) (m : Nat) : Prop where
  ways : Blk W wb 9 (tabV (fun s => .string (strB (if s < m then Wf s else []))) n)
  top : Blk W ub 113 (tabV (fun v => .slice (some ⟨rb + v, 0, none⟩) K K) n)
  rows : ∀ v, v < n → Blk W (rb + v) 4 (tabV (fun p => .bool (usedN T m v p)) K)
theorem TreeM.keep {W W' : World} {wb ub rb K n : Nat} {Wf : Nat → List UInt8} {T : Nat → Nat × Nat} {m : Nat} (h : TreeM W wb ub rb K n Wf T m) (hb : Below W.heap.size W W') : TreeM W' wb ub rb K n Wf T m :=
  ⟨h.ways.keep hb, h.top.keep hb, fun v hv => (h.rows v hv).keep hb⟩
theorem TreeM.step {W : World} {wb ub rb K n : Nat} {Wf : Nat → List UInt8} {T : Nat → Nat × Nat} {m v p : Nat} (h : TreeM W wb ub rb K n Wf T m) (h1 : wb < ub) (h2 : ub < rb) (hm : m < n) (hv : v < m) (hm0 : m ≠ 0) (hT : T m = (v, p)) :
    TreeM (((W.setCell ⟨wb, m, none⟩ (.string (strB (Wf m)))).setCell ⟨rb + v, p, none⟩ (.bool true)).setCell ⟨rb + m, p ^^^ 1, none⟩ (.bool true)) wb ub rb K n Wf T (m + 1) := by
  refine ⟨?_, ?_, fun x hx => ?_⟩
  · have e1 := ((h.ways.set m (.string (strB (Wf m)))).other (a := ⟨rb + v, p, none⟩) (by show wb ≠ rb + v; omega) (.bool true)).other (a := ⟨rb + m, p ^^^ 1, none⟩) (by show wb ≠ rb + m; omega) (.bool true)
    rw [tabV_set] at e1
    have e2 : tabV (fun i => if i = m then Value.string (strB (Wf m)) else .string (strB (if i < m then Wf i else []))) n = tabV (fun s => .string (strB (if s < m + 1 then Wf s else []))) n := tabV_congr fun j _ => by
      by_cases q : j = m
      · rw [if_pos q, if_pos (by omega), q]
      · rw [if_neg q]
        by_cases q2 : j < m
        · rw [if_pos q2, if_pos (by omega)]
        · rw [if_neg q2, if_neg (by omega)]
    rw [← e2]; exact e1
  · exact ((h.top.other (a := ⟨wb, m, none⟩) (by show ub ≠ wb; omega) _).other (a := ⟨rb + v, p, none⟩) (by show ub ≠ rb + v; omega) _).other (a := ⟨rb + m, p ^^^ 1, none⟩) (by show ub ≠ rb + m; omega) _
  · have e0 := (h.rows x hx).other (a := ⟨wb, m, none⟩) (by show rb + x ≠ wb; omega) (.string (strB (Wf m)))
    have key : ∀ q, usedN T (m + 1) x q = (usedN T m x q || (decide ((v, p) = (x, q)) || (decide (x = m) && decide (q = p ^^^ 1)))) := fun q => by
      rw [usedN, hT]
      simp [hm0]
    by_cases hxv : x = v
    · subst hxv
      have e1 := (e0.set p (.bool true)).other (a := ⟨rb + m, p ^^^ 1, none⟩) (by show rb + x ≠ rb + m; omega) (.bool true)
      rw [tabV_set] at e1
      have e2 : tabV (fun i => if i = p then Value.bool true else .bool (usedN T m x i)) K = tabV (fun q => .bool (usedN T (m + 1) x q)) K := tabV_congr fun j _ => by
        rw [key]
        by_cases q : j = p
        · subst q; rw [if_pos rfl]; simp
        · rw [if_neg q]
          have : ¬ (x, p) = (x, j) := fun e => q (Prod.mk.inj e).2.symm
          rw [decide_eq_false this, decide_eq_false (show ¬ x = m by omega)]
          simp
      rw [← e2]; exact e1
    · have e1 := e0.other (a := ⟨rb + v, p, none⟩) (by show rb + x ≠ rb + v; omega) (.bool true)
      by_cases hxm : x = m
      · subst hxm
        have e3 := e1.set (p ^^^ 1) (.bool true)
        rw [tabV_set] at e3
        have e2 : tabV (fun i => if i = p ^^^ 1 then Value.bool true else .bool (usedN T x x i)) K = tabV (fun q => .bool (usedN T (x + 1) x q)) K := tabV_congr fun j _ => by
          rw [key]
          have : ¬ (v, p) = (x, j) := fun e => hxv (Prod.mk.inj e).1.symm
          rw [decide_eq_false this]
          by_cases q : j = p ^^^ 1
          · rw [if_pos q, decide_eq_true q]; simp
          · rw [if_neg q, decide_eq_false q]; simp
        rw [← e2]; exact e3
      · have e3 := e1.other (a := ⟨rb + m, p ^^^ 1, none⟩) (by show rb + x ≠ rb + m; omega) (.bool true)
        have e2 : tabV (fun i => Value.bool (usedN T m x i)) K = tabV (fun q => .bool (usedN T (m + 1) x q)) K := tabV_congr fun j _ => by
          rw [key]
          have : ¬ (v, p) = (x, j) := fun e => hxv (Prod.mk.inj e).1.symm
          rw [decide_eq_false this, decide_eq_false hxm]; simp
        rw [← e2]; exact e3
/-- what is kept while the marks are made -/
structure TreeZ (W : World) (wb ub rb K n v : Nat) : Prop where
  ways : Blk W wb 9 (List.replicate n (.string ⟨#[]⟩))
  top : Blk W ub 113 (tabV (fun j => if j < v then .slice (some ⟨rb + j, 0, none⟩) K K else .slice none 0 0) n)
  rows : ∀ j, j < v → Blk W (rb + j) 4 (List.replicate K (.bool false))
  size : W.heap.size = rb + v

set_option maxRecDepth 100000 in
set_option maxHeartbeats 4000000 in
theorem rTree_any (w : World) (k : Nat) (rv : Value) (g : List (List Int)) (h : RowsR w rv g) (hg : GoodG k g) :
    Calls Try.prog 71 #[.agg #[.int .i64 k, rv]] w fun e w' => ∃ wb ub rb, e = .returned (.tuple #[.slice (some ⟨wb, 0, none⟩) g.length g.length, .slice (some ⟨ub, 0, none⟩) g.length g.length]) ∧
      TreeM w' wb ub rb (2 * k) g.length (wayW k g) (treeT k g) g.length ∧ wb < ub ∧ ub < rb ∧ w.heap.size ≤ wb ∧ Below w.heap.size w w' := by
  obtain ⟨w1, hw1⟩ : ∃ w1, w1 = w.alloc (.cells #[.int .i64 k, rv] 32) := ⟨_, rfl⟩
  have hb1 : Below w.heap.size w w1 := by rw [hw1]; exact (Below.refl _ w).alloc (Nat.le_refl _) _
  have hx1 : Blk w1 w.heap.size 32 [.int .i64 k, rv] := by rw [hw1]; exact Blk.new w 32 [.int .i64 k, rv]
  have hs1 : w1.heap.size = w.heap.size + 1 := by rw [hw1]; simp
  have h1 := h.keep hb1
  obtain ⟨n, hn⟩ : ∃ n, g.length = n := ⟨_, rfl⟩
  obtain ⟨va, vc, rfl, hv1, hv2⟩ := h1.shape hn
  have hn1 := hg.n1
  have hn5 := hg.n5
  have hrow := hg.row
  rw [hn] at hn1 hn5 hrow ⊢
  have hk4 := hg.k4
  obtain ⟨K, hK⟩ : ∃ K, 2 * k = K := ⟨_, rfl⟩
  have hK8 : K ≤ 8 := by omega
  have hKI : 2 * (k : Int) = K := by omega
  have hKW : IntKind.i64.wrap (K : Int) = K := by rw [IntKind.wrap_i64]; omega
  rw [hK] at hrow ⊢
  have c0 := hx1.cell (j := 0) rfl
  have c1 := hx1.cell (j := 1) rfl
  have H1 := Lib.hid h1
  have HX := Lib.hid hx1
  have HB := Lib.hid hb1
  have HN := Lib.hid hn
  have HROW := Lib.hid hrow
  have HG := Lib.hid hg
  have HK := Lib.hid hK
  have HS1 := Lib.hid hs1
  clear h h1 hx1 hb1 hn hrow hg hs1 hK
  go_enter Try.func71, Try.ntmps71
  go_upto_region 1 with fail
  rw [← hw1]
  clear hw1
  go_upto_region 2 with (at_make; refine wpList_makeV Try.info9 Try.underlying22 rfl rfl _ _ rfl n rfl rfl rfl rfl (by omega) (by omega) ?_; intro w2 hm2 hb2 hs2)
  obtain ⟨wb, hwb⟩ : ∃ wb, w1.heap.size = wb := ⟨_, rfl⟩
  rw [hwb] at hm2 hs2 ⊢
  have HM2 := Lib.hid hm2
  have HB2 := Lib.hid hb2
  have HS2 := Lib.hid hs2
  have HWB0 := Lib.hid hwb
  have c0 := (HX.out.keep hb2).cell (j := 0) rfl
  have c1 := (HX.out.keep hb2).cell (j := 1) rfl
  clear hm2 hb2 hs2 hwb
  go_upto_region 3 with (at_make; refine wpList_makeV Try.info113 Try.underlying110 rfl rfl _ _ rfl n rfl rfl rfl rfl (by omega) (by omega) ?_; intro w3 hm3 hb3 hs3)
  obtain ⟨ub, hub⟩ : ∃ ub, w2.heap.size = ub := ⟨_, rfl⟩
  rw [hub] at hm3 hs3 ⊢
  have hs2 := HS2.out
  rw [hub] at hs2
  obtain ⟨rb, hrb⟩ : ∃ rb, w3.heap.size = rb := ⟨_, rfl⟩
  rw [hrb] at hs3
  have hz0 : TreeZ w3 wb ub rb K n 0 := by
    refine ⟨HM2.out.keep hb3, ?_, fun j h => by omega, hrb⟩
    have e1 : tabV (fun j => if j < 0 then Value.slice (some ⟨rb + j, 0, none⟩) K K else .slice none 0 0) n = List.replicate n (.slice none 0 0) := by
      rw [← tabV_const]
      exact tabV_congr fun j _ => by simp
    rw [e1]; exact hm3
  have hb13 : Below w1.heap.size w1 w3 := HB2.out.trans (hb3.mono HB2.out.size)
  have HZ := Lib.hid hz0
  have HBW := Lib.hid hb13
  have hwbw : w.heap.size < wb := by have := HS1.out; have := HWB0.out; omega
  have HWB := Lib.hid (And.intro HWB0.out (And.intro hs2 hs3))
  clear hm3 hb3 hz0 hb13 hrb hub c0 c1 HM2 HB2 HS2 hs2 hs3 HWB0
  go_wp2_with fail
  go_loopw [6] (fun vv wr => ∃ v : Nat, v ≤ n ∧ vv = .int .i64 v ∧ Hid (TreeZ wr wb ub rb K n v) ∧ Hid (Below w1.heap.size w1 wr)) (fun vv _ => n - (intOf vv).toNat)
  case atStart => exact ⟨0, by omega, rfl, HZ, HBW⟩
  case round =>
    clear HZ HBW
    obtain ⟨v, hv, rfl, HZ, HBW⟩ := hrel
    have c0 := (HX.out.keep HBW.out).cell (j := 0) rfl
    have c1 := (HX.out.keep HBW.out).cell (j := 1) rfl
    by_cases hlt : v < n
    · have v0 : (0 : Int) ≤ v := by omega
      have v1 : (v : Int) < n := by omega
      have hlow : w1.heap.size ≤ ub := by have := HWB.out; omega
      go_upto_region 6 with fail
      go_upto_region 5 with (at_make; refine wpList_makeV Try.info4 Try.underlying113 rfl rfl _ _ rfl K rfl rfl (by rfl) (by rfl) (by omega) (by omega) ?_; intro w4 hm4 hb4 hs4; have cz4 := (HZ.out.top.keep hb4).cell (tabV_get _ hlt); rw [if_neg (Nat.lt_irrefl v)] at cz4; have fz4 := (HZ.out.top.keep hb4).free v; have HM4 := Lib.hid hm4; have HB4 := Lib.hid hb4; have HS4 := Lib.hid hs4; clear hm4 hb4 hs4)
      have hzs := HZ.out.size
      have G1 : Hid (TreeZ (w4.setCell ⟨ub, v, none⟩ (.slice (some ⟨wr.heap.size, 0, none⟩) K K)) wb ub rb K n (v + 1)) := Lib.hid (by
        have h2 := HWB.out
        refine ⟨(HZ.out.ways.keep HB4.out).other (a := ⟨ub, v, none⟩) (by show wb ≠ ub; omega) _, ?_, fun j hj => ?_, by rw [World.size_setCell, HS4.out, hzs]; omega⟩
        · have e1 := (HZ.out.top.keep HB4.out).set v (.slice (some ⟨wr.heap.size, 0, none⟩) K K)
          rw [tabV_set] at e1
          have e2 : tabV (fun i => if i = v then Value.slice (some ⟨wr.heap.size, 0, none⟩) K K else if i < v then .slice (some ⟨rb + i, 0, none⟩) K K else .slice none 0 0) n = tabV (fun j => if j < v + 1 then .slice (some ⟨rb + j, 0, none⟩) K K else .slice none 0 0) n := tabV_congr fun j _ => by
            by_cases q : j = v
            · rw [if_pos q, if_pos (by omega), hzs, q]
            · rw [if_neg q]
              by_cases q2 : j < v
              · rw [if_pos q2, if_pos (by omega)]
              · rw [if_neg q2, if_neg (by omega)]
          rw [← e2]; exact e1
        · by_cases q : j = v
          · have := HM4.out
            rw [hzs] at this
            rw [q]
            exact this.other (a := ⟨ub, v, none⟩) (by show rb + v ≠ ub; omega) _
          · exact ((HZ.out.rows j (by omega)).keep HB4.out).other (a := ⟨ub, v, none⟩) (by show rb + j ≠ ub; omega) _)
      have G2 : Hid (Below w1.heap.size w1 (w4.setCell ⟨ub, v, none⟩ (.slice (some ⟨wr.heap.size, 0, none⟩) K K))) := Lib.hid ((HBW.out.trans (HB4.out.mono HBW.out.size)).setCell (p := ⟨ub, v, none⟩) hlow _)
      clear cz4 fz4 hzs
      go_wp2_with fail
      go_roundw
      case rel => exact ⟨v + 1, by omega, by go_num, G1, G2⟩
      case measure => simp [intOf]; omega
    · obtain rfl : v = n := by omega
      have ht0 : TreeM wr wb ub rb K v (wayW k g) (treeT k g) 1 := by
        refine ⟨?_, ?_, fun x hx => ?_⟩
        · have e1 : tabV (fun s => Value.string (strB (if s < 1 then wayW k g s else []))) v = List.replicate v (.string ⟨#[]⟩) := by
            rw [← tabV_const]
            refine tabV_congr fun j _ => ?_
            by_cases q : j < 1
            · obtain rfl : j = 0 := by omega
              rw [if_pos q, way_zero]
            · rw [if_neg q]
          rw [e1]; exact HZ.out.ways
        · have e1 : tabV (fun j => if j < v then Value.slice (some ⟨rb + j, 0, none⟩) K K else .slice none 0 0) v = tabV (fun x => .slice (some ⟨rb + x, 0, none⟩) K K) v := tabV_congr fun j hj => by rw [if_pos hj]
          rw [← e1]; exact HZ.out.top
        · have e1 : tabV (fun p => Value.bool (usedN (treeT k g) 1 x p)) K = List.replicate K (.bool false) := by
            rw [← tabV_const]
            exact tabV_congr fun j _ => by rw [used_one]
          rw [e1]; exact HZ.out.rows x hx
      have hk0 : ∀ s, metF g (scanN K 0 0) s = decide (s < 1) := fun s => by
        unfold metF scanN
        simp only [List.range_zero, List.flatMap_nil, List.map_nil, List.append_nil, List.find?_nil, Option.isSome_none, Bool.or_false]
        exact decide_eq_decide.2 (by omega)
      have HT := Lib.hid ht0
      have HKN := Lib.hid hk0
      clear ht0 hk0 HZ
      go_wp2_with fail
      go_loopw [8, 7] (fun vv nv wr => ∃ x m : Nat, x ≤ v ∧ vv = .int .i64 x ∧ nv = .int .i64 m ∧ 1 ≤ m ∧ m ≤ v ∧ Hid (∀ s, metF g (scanN K x 0) s = decide (s < m)) ∧ Hid (TreeM wr wb ub rb K v (wayW k g) (treeT k g) m) ∧ Hid (Below w1.heap.size w1 wr)) (fun vv _ _ => v - (intOf vv).toNat)
      case atStart => exact ⟨0, 1, by omega, rfl, rfl, by omega, by omega, HKN, HT, HBW⟩
      case round =>
        clear HT HKN HBW
        obtain ⟨x, m, hx, rfl, rfl, hm1, hmn, HKN, HT, HBW⟩ := hrel
        have c0 := (HX.out.keep HBW.out).cell (j := 0) rfl
        have c1 := (HX.out.keep HBW.out).cell (j := 1) rfl
        by_cases hlt : x < v
        · go_wp2_with fail
          go_loopw [9, 7] (fun iv nv wr => ∃ i m : Nat, i ≤ K ∧ iv = .int .i64 i ∧ nv = .int .i64 m ∧ 1 ≤ m ∧ m ≤ v ∧ Hid (∀ s, metF g (scanN K x i) s = decide (s < m)) ∧ Hid (TreeM wr wb ub rb K v (wayW k g) (treeT k g) m) ∧ Hid (Below w1.heap.size w1 wr)) (fun iv _ _ => K - (intOf iv).toNat)
          case atStart => exact ⟨0, m, by omega, rfl, rfl, by omega, by omega, HKN, HT, HBW⟩
          case round =>
            clear HT HKN HBW c0 c1
            obtain ⟨i, m, hi, rfl, rfl, hm1, hmn, HKN, HT, HBW⟩ := hrel
            have c0 := (HX.out.keep HBW.out).cell (j := 0) rfl
            have c1 := (HX.out.keep HBW.out).cell (j := 1) rfl
            by_cases hli : i < K
            · obtain ⟨r, hr⟩ : ∃ r, g[x]? = some r := ⟨_, List.getElem?_eq_getElem (by rw [HN.out]; exact hlt)⟩
              obtain ⟨hl1, hl2⟩ := HROW.out r (List.mem_of_getElem? hr)
              obtain ⟨z, hz⟩ : ∃ z, r[i]? = some z := ⟨_, List.getElem?_eq_getElem (by rw [hl1]; exact hli)⟩
              obtain ⟨b1, v1, hva, d1, e1⟩ := H1.out.at_ HBW.out hr
              subst hva
              obtain ⟨a2, c2, rfl, q1, q2⟩ := e1.shape hl1
              obtain ⟨b2, rfl, d2⟩ := e1.at_ (Below.refl _ _) hz
              obtain ⟨hz1, hz2⟩ := hl2 z (List.mem_of_getElem? hz)
              have hzo : z = optI (nxT g x i) := (nxT_opt (by unfold atG; rw [hr]; exact hz) hz1).symm
              obtain ⟨m2, k1, k2, k3, k4, k5⟩ := known_at HG.out (show x < g.length by rw [HN.out]; exact hlt) i (by rw [HK.out]; exact hi)
              rw [HK.out] at k4 k5
              obtain rfl : m2 = m := by
                have f := HKN.out
                have g1 := (k4 m).symm.trans (f m)
                have g2 := (k4 m2).symm.trans (f m2)
                rw [decide_eq_decide] at g1 g2
                omega
              have i0 : (0 : Int) ≤ i := by omega
              have i1 : (i : Int) < K := by omega
              have x0 : (0 : Int) ≤ x := by omega
              have x1 : (x : Int) < v := by omega
              have hsame : (∀ t, nxT g x i = some t → metF g (scanN K x i) t = true) → ∀ s, metF g (scanN K x (i + 1)) s = decide (s < m2) := fun h s => by
                rw [scan_step, (tree_same (q := (x, i)) h).2]
                exact HKN.out s
              by_cases hzm : z = (m2 : Int)
              · subst hzm
                have hnx : nxT g x i = some m2 := by
                  cases hq : nxT g x i with
                  | none => rw [hq] at hzo; have : ((m2 : Nat) : Int) = -1 := hzo; omega
                  | some u => rw [hq] at hzo; have : ((m2 : Nat) : Int) = (u : Int) := hzo; congr 1; omega
                have hmv : m2 < v := by have := (nxT_bounds HG.out hnx).2.2; rw [HN.out] at this; exact this
                have htm : treeT k g m2 = (x, i) := tree_at (by rw [HN.out]; exact hlt) (by rw [HK.out]; exact hli) hnx (by rw [HK.out, HKN.out m2]; exact decide_eq_false (by omega))
                have hway : wayW k g m2 = wayW k g x ++ [letP i] := way_step HG.out (by rw [HN.out]; exact hmv) (by omega) htm
                have hnew : ∀ s, metF g (scanN K x (i + 1)) s = decide (s < m2 + 1) := fun s => by
                  rw [scan_step, (tree_new (q := (x, i)) (t := m2) hnx (by rw [HKN.out m2]; exact decide_eq_false (by omega))).2]
                  show (if s = m2 then true else _) = _
                  rw [HKN.out s]
                  by_cases hs : s = m2
                  · rw [if_pos hs]; exact (decide_eq_true (by omega)).symm
                  · rw [if_neg hs]
                    exact decide_eq_decide.2 (by omega)
                have G1 := Lib.hid hnew
                have HTM := Lib.hid htm
                have HWY := Lib.hid hway
                have m0 : (0 : Int) ≤ m2 := by omega
                have hxm : x < m2 := k3
                have m1 : (m2 : Int) < v := by omega
                have hle := rLetterP_any
                obtain ⟨X, hX⟩ : ∃ X, strB (wayW k g x) = X := ⟨_, rfl⟩
                obtain ⟨L, hL⟩ : ∃ L, strB [letP i] = L := ⟨_, rfl⟩
                obtain ⟨Y, hY⟩ : ∃ Y, strB (wayW k g m2) = Y := ⟨_, rfl⟩
                have hcat : X ++ L = Y := by
                  rw [← hX, ← hL, ← hY, hway]
                  apply ByteArray.ext
                  simp
                have hXs : X.size ≤ 5000 := by
                  rw [← hX, size_str]
                  have := wayT_len (treeT k g) g.length x
                  have h9 := HN.out
                  show (wayT (treeT k g) g.length x).length ≤ _
                  omega
                have hLs : L.size = 1 := by rw [← hL]; rfl
                have hno : ¬ 9223372036854775807 < X.size + 1 := by omega
                have hlet := fun wx => rLetterP_any wx i (by omega)
                rw [hL] at hlet
                have HLE := Lib.hid hlet
                have hcx : ∀ wx, Below wr.heap.size wr wx → wx.cell? ⟨wb, x, none⟩ = some (.string X) := fun wx hb => by
                  have := (HT.out.ways.keep hb).cell (tabV_get _ hlt)
                  rw [if_pos (by omega), hX] at this; exact this
                have HCX := Lib.hid hcx
                have hcm : ∀ wx, Below wr.heap.size wr wx → ∃ u, wx.cell? ⟨wb, m2, none⟩ = some u ∧ wx.frozen? ⟨wb, m2, none⟩ = false := fun wx hb => ⟨_, (HT.out.ways.keep hb).cell (tabV_get _ hmv), (HT.out.ways.keep hb).free m2⟩
                have HCM := Lib.hid hcm
                have HYY := Lib.hid hY
                clear hzo hnx htm hway hnew hle hX hL hY hlet hcx hcm hsame k1 k2 k3 k4 k5 hl2 hr hz e1 hl1
                go_upto_region 16 with fail
                refine wp_region_noPanic ?_
                refine wp_region_held_drew (S := fun w' => w'.cell? ⟨wb, x, none⟩ = some (.string X)) (by kernel_rfl) (HCX.out _ ((Below.refl _ _).drewN' 1)) (fun hHeld => ?_)
                refine takeH 0 (v := ?_) rfl (by kernel_rfl) (by kernel_rfl) (by kernel_rfl) (fun _ _ _ h => h) (by rfl) ?_ hHeld ?_
                rotate_left
                · (intro w hSw; (try dsimp only at hSw); go_simp; try with_reducible rfl)
                try simp only [Act.put, List.setIfInBounds_toArray, List.set_cons_zero, List.set_cons_succ]
                refine takeH 1 (v := ?_) rfl (by kernel_rfl) (by kernel_rfl) (by kernel_rfl) (fun _ _ _ h => h) (by rfl) ?_ hHeld ?_
                rotate_left
                · (intro w hSw; (try dsimp only at hSw); go_simp; try with_reducible rfl)
                try simp only [Act.put, List.setIfInBounds_toArray, List.set_cons_zero, List.set_cons_succ]
                refine takeH 2 (v := ?_) rfl (by kernel_rfl) (by kernel_rfl) (by kernel_rfl) (fun _ _ _ h => h) (by rfl) ?_ hHeld ?_
                rotate_left
                · (intro w hSw; (try dsimp only at hSw); go_simp; try with_reducible rfl)
                try simp only [Act.put, List.setIfInBounds_toArray, List.set_cons_zero, List.set_cons_succ]
                refine takeH 3 (v := ?_) rfl (by kernel_rfl) (by kernel_rfl) (by kernel_rfl) (fun _ _ _ h => h) (by rfl) ?_ hHeld ?_
                rotate_left
                · (intro w hSw; (try dsimp only at hSw); go_simp; try with_reducible rfl)
                try simp only [Act.put, List.setIfInBounds_toArray, List.set_cons_zero, List.set_cons_succ]
                refine takeH 4 (v := ?_) rfl (by kernel_rfl) (by kernel_rfl) (by kernel_rfl) (fun _ _ _ h => h) (by rfl) ?_ hHeld ?_
                rotate_left
                · (intro w hSw; (try dsimp only at hSw); go_simp; try with_reducible rfl)
                try simp only [Act.put, List.setIfInBounds_toArray, List.set_cons_zero, List.set_cons_succ]
                refine takeH 5 (v := ?_) rfl (by kernel_rfl) (by kernel_rfl) (by kernel_rfl) (fun _ _ _ h => h) (by rfl) ?_ hHeld ?_
                rotate_left
                · (intro w hSw; (try dsimp only at hSw); go_simp; try with_reducible rfl)
                try simp only [Act.put, List.setIfInBounds_toArray, List.set_cons_zero, List.set_cons_succ]
                refine takeH 6 (v := ?_) rfl (by kernel_rfl) (by kernel_rfl) (by kernel_rfl) (fun _ _ _ h => h) (by rfl) ?_ hHeld ?_
                rotate_left
                · (intro w hSw; (try dsimp only at hSw); go_simp; try with_reducible rfl)
                try simp only [Act.put, List.setIfInBounds_toArray, List.set_cons_zero, List.set_cons_succ]
                refine oneH 7 (by kernel_rfl) rfl (fun K hK => ?_)
                go_simp
                go_at_call 72
                refine (HLE.out _).mono ?_
                rintro e w9 ⟨rfl, hb9⟩
                have hb9' : Below wr.heap.size wr w9 := ((Below.refl _ wr).drewN' 1).trans (by exact hb9)
                have HB9 := Lib.hid hb9'
                dsimp only
                refine hK.out _ _ (HCX.out _ hb9') (fun hHeld => ?_)
                clear hK K
                try simp only [Act.put, List.setIfInBounds_toArray, List.set_cons_zero, List.set_cons_succ]
                obtain ⟨um, cm, fm⟩ := HCM.out _ HB9.out
                refine takeH 8 (v := ?_) rfl (by kernel_rfl) (by kernel_rfl) (by kernel_rfl) (fun _ _ _ h => h) (by rfl) ?_ hHeld ?_
                rotate_left
                · (intro w hSw; (try dsimp only at hSw); go_simp; try with_reducible rfl)
                try simp only [Act.put, List.setIfInBounds_toArray, List.set_cons_zero, List.set_cons_succ]
                refine takeH 9 (v := ?_) rfl (by kernel_rfl) (by kernel_rfl) (by kernel_rfl) (fun _ _ _ h => h) (by rfl) ?_ hHeld ?_
                rotate_left
                · (intro w hSw; (try dsimp only at hSw); go_simp; try with_reducible rfl)
                try simp only [Act.put, List.setIfInBounds_toArray, List.set_cons_zero, List.set_cons_succ]
                refine oneH 10 (by kernel_rfl) rfl (fun K hK => ?_)
                go_simp
                have hT9 := HT.out.keep HB9.out
                obtain ⟨V1, hV1⟩ : ∃ V1, w9.setCell ⟨wb, m2, none⟩ (.string Y) = V1 := ⟨_, rfl⟩
                rw [hV1]
                have hwbs := HWB.out
                have cV1 : V1.cell? ⟨wb, x, none⟩ = some (.string X) := by
                  rw [← hV1, World.cell?_setCell_other _ _ _ _ (by intro e; have := (Addr.mk.inj e).2.1; omega)]
                  exact HCX.out _ HB9.out
                refine hK.out _ _ cV1 (fun hHeld => ?_)
                clear hK K
                try simp only [Act.put, List.setIfInBounds_toArray, List.set_cons_zero, List.set_cons_succ]
                refine wpAnyH_done (by kernel_rfl) ?_ _
                refine NoPanic.normal ?_
                have hy9 := HYY.out
                obtain ⟨q, hq⟩ : ∃ q, i ^^^ 1 = q := ⟨_, rfl⟩
                have hx9 : bits BinOp.xor IntKind.i64 (i : Int) 1 = ((i ^^^ 1 : Nat) : Int) := xor_one_bits (by omega)
                have hqK : q < K := by have := xor_one_lt k i (by omega) (by have := HK.out; omega); have := HK.out; omega
                rw [hq] at hx9
                have t1 := (hT9.top.other (a := ⟨wb, m2, none⟩) (by show ub ≠ wb; omega) (.string Y))
                have r1 := ((hT9.rows x hlt).other (a := ⟨wb, m2, none⟩) (by show rb + x ≠ wb; omega) (.string Y))
                have r2 := ((hT9.rows m2 hmv).other (a := ⟨wb, m2, none⟩) (by show rb + m2 ≠ wb; omega) (.string Y))
                rw [hV1] at t1 r1 r2
                have cu1 := t1.cell (tabV_get _ hlt)
                have cr1 := r1.cell (tabV_get _ hli)
                have fr1 := r1.free i
                have t2 := t1.other (a := ⟨rb + x, i, none⟩) (by show ub ≠ rb + x; omega) (.bool true)
                have r3 := r2.other (a := ⟨rb + x, i, none⟩) (by show rb + m2 ≠ rb + x; omega) (.bool true)
                have cu2 := t2.cell (tabV_get _ hmv)
                have cr2 := r3.cell (tabV_get _ hqK)
                have fr2 := r3.free q
                have hst := hT9.step (by omega) (by omega) hmv hxm (by omega) HTM.out
                rw [hy9, hV1, hq] at hst
                have hbe : Below w1.heap.size w1 (((V1.setCell ⟨rb + x, i, none⟩ (.bool true)).setCell ⟨rb + m2, q, none⟩ (.bool true))) := by
                  have e0 := HBW.out.trans (HB9.out.mono HBW.out.size)
                  rw [← hV1]
                  exact (((e0.setCell (p := ⟨wb, m2, none⟩) (by show w1.heap.size ≤ wb; omega) _).setCell (p := ⟨rb + x, i, none⟩) (by show w1.heap.size ≤ rb + x; omega) _)).setCell (p := ⟨rb + m2, q, none⟩) (by show w1.heap.size ≤ rb + m2; omega) _
                have G2 := Lib.hid hst
                have G3 := Lib.hid hbe
                have q0 : (0 : Int) ≤ q := by omega
                have q1 : (q : Int) < K := by omega
                clear hst hbe t1 t2 r1 r2 r3 hT9 hV1 cm fm hHeld cV1 hy9 hq hwbs c0 c1 d1 d2 hcat
                go_wp2_with fail
                go_roundw
                case rel => exact ⟨i + 1, m2 + 1, by omega, by go_num, by go_num, by omega, by omega, G1, G2, G3⟩
                case measure => simp [intOf]; omega
              · have hk : ∀ t, nxT g x i = some t → metF g (scanN K x i) t = true := fun t ht => by
                  rw [HKN.out t]
                  have h1 := k5 hli t ht
                  have h2 : z = (t : Int) := by rw [hzo, ht]; rfl
                  exact decide_eq_true (by omega)
                have G1 := Lib.hid (hsame hk)
                clear hsame hk hzo k1 k2 k3 k4 k5 hl2 hr hz e1 hl1
                go_wp2_with fail
                go_roundw
                case rel => exact ⟨i + 1, m2, by omega, by go_num, rfl, by omega, by omega, G1, HT, HBW⟩
                case measure => simp [intOf]; omega
            · obtain rfl : i = K := by omega
              have hkn := HKN.out
              rw [scan_next] at hkn
              have G1 := Lib.hid hkn
              clear hkn
              go_wp2_with fail
              go_roundw
              case rel => exact ⟨x + 1, m, by omega, by go_num, rfl, by omega, by omega, G1, HT, HBW⟩
              case measure => simp [intOf]; omega
        · obtain rfl : x = v := by omega
          have hmx : m = x := by
            rcases Nat.lt_or_ge 1 x with q | q
            · obtain ⟨f, p, -, -, -, -, h5⟩ := tree_first HG.out (show x - 1 < g.length by rw [HN.out]; omega) (by omega)
              have h6 := HKN.out (x - 1)
              have h7 : metF g (scanN K x 0) (x - 1) = true := by
                unfold metF
                rw [HK.out, HN.out] at h5
                rw [h5]; simp
              rw [h7] at h6
              have := of_decide_eq_true h6.symm
              omega
            · omega
          subst hmx
          go_wp2_with fail
          go_ret2
          exact ⟨wb, ub, rb, rfl, HT.out, by have := HWB.out; omega, by have := HWB.out; omega, by omega, HB.out.trans (HBW.out.mono HB.out.size)⟩
end Go.Proofs.Ytlooclpfoeakgaa

/- The reference's basis of a good graph: the walk. -/
namespace Go.Proofs.Ytlooclpfoeakgaa
open Go.RowKit

/-- rows of numbers that are made one after the other: the first a of V -/
structure NumB (W : World) (nb k V a : Nat) (rb : Nat → Nat) (val : Nat → Nat → Int) : Prop where
  top : Blk W nb 54 (tabV (fun j => if j < a then .slice (some ⟨rb j, 0, none⟩) k k else .slice none 0 0) V)
  rows : ∀ j, j < a → Blk W (rb j) 3 (tabV (fun i => .int .i64 (val j i)) k)
  inj : ∀ j j', j < a → j' < a → rb j = rb j' → j = j'
theorem NumB.map_ {W W' : World} {nb k V a : Nat} {rb : Nat → Nat} {val : Nat → Nat → Int} (h : NumB W nb k V a rb val) (f : ∀ b e vs, e = 54 ∨ e = 3 → Blk W b e vs → Blk W' b e vs) : NumB W' nb k V a rb val :=
  ⟨f _ _ _ (.inl rfl) h.top, fun j hj => f _ _ _ (.inr rfl) (h.rows j hj), h.inj⟩
theorem NumB.keep {W W' : World} {nb k V a : Nat} {rb : Nat → Nat} {val : Nat → Nat → Int} (h : NumB W nb k V a rb val) (hb : Below W.heap.size W W') : NumB W' nb k V a rb val := h.map_ fun _ _ _ _ hx => hx.keep hb
theorem NumB.ne {W : World} {nb k V a : Nat} {rb : Nat → Nat} {val : Nat → Nat → Int} (h : NumB W nb k V a rb val) {j : Nat} (hj : j < a) : rb j ≠ nb := fun e => by
  have h1 := h.rows j hj
  have h2 := h.top
  rw [e] at h1
  unfold Blk at h1 h2
  rw [h1] at h2
  simp at h2
theorem NumB.more {W W' : World} {nb k V a z : Nat} {rb : Nat → Nat} {val val' : Nat → Nat → Int} (h : NumB W nb k V a rb val) (hb : Below W.heap.size W W') (hz : Blk W' z 3 (tabV (fun i => .int .i64 (val' a i)) k)) (hzW : W.heap.size ≤ z)
    (hv : ∀ j i, j < a → i < k → val' j i = val j i) : NumB (W'.setCell ⟨nb, a, none⟩ (.slice (some ⟨z, 0, none⟩) k k)) nb k V (a + 1) (fun j => if j = a then z else rb j) val' := by
  have hnb := h.top.lt
  refine ⟨?_, fun j hj => ?_, fun j j' hj hj' e => ?_⟩
  · have e1 := (h.top.keep hb).set a (.slice (some ⟨z, 0, none⟩) k k)
    rw [tabV_set] at e1
    have e2 : tabV (fun i => if i = a then Value.slice (some ⟨z, 0, none⟩) k k else if i < a then .slice (some ⟨rb i, 0, none⟩) k k else .slice none 0 0) V = tabV (fun j => if j < a + 1 then .slice (some ⟨if j = a then z else rb j, 0, none⟩) k k else .slice none 0 0) V := tabV_congr fun j _ => by
      by_cases q : j = a
      · rw [if_pos q, if_pos (by omega), if_pos q]
      · rw [if_neg q, if_neg q]
        by_cases q2 : j < a
        · rw [if_pos q2, if_pos (by omega)]
        · rw [if_neg q2, if_neg (by omega)]
    rw [← e2]; exact e1
  · by_cases q : j = a
    · rw [if_pos q, q]; exact hz.other (a := ⟨nb, a, none⟩) (by show z ≠ nb; omega) _
    · rw [if_neg q]
      have e1 := ((h.rows j (by omega)).keep hb).other (a := ⟨nb, a, none⟩) (h.ne (by omega)) (.slice (some ⟨z, 0, none⟩) k k)
      have e2 : tabV (fun i => Value.int .i64 (val j i)) k = tabV (fun i => .int .i64 (val' j i)) k := tabV_congr fun i hi => by rw [hv j i (by omega) hi]
      rw [← e2]; exact e1
  · have hl : ∀ j, j < a → rb j < z := fun j hj => by have := (h.rows j hj).lt; omega
    by_cases q : j = a
    · by_cases q' : j' = a
      · omega
      · rw [if_pos q, if_neg q'] at e
        have := hl j' (by omega); omega
    · by_cases q' : j' = a
      · rw [if_neg q, if_pos q'] at e
        have := hl j (by omega); omega
      · rw [if_neg q, if_neg q'] at e
        exact h.inj j j' (by omega) (by omega) e
theorem NumB.put {W : World} {nb k V a x i : Nat} {rb : Nat → Nat} {val val' : Nat → Nat → Int} (h : NumB W nb k V a rb val) (hx : x < a) (hv : ∀ j t, j < a → t < k → (j, t) ≠ (x, i) → val' j t = val j t) :
    NumB (W.setCell ⟨rb x, i, none⟩ (.int .i64 (val' x i))) nb k V a rb val' := by
  refine ⟨h.top.other (a := ⟨rb x, i, none⟩) (fun e => h.ne hx e.symm) _, fun j hj => ?_, h.inj⟩
  by_cases q : j = x
  · subst q
    have e1 := (h.rows j hj).set i (.int .i64 (val' j i))
    rw [tabV_set] at e1
    have e2 : tabV (fun t => if t = i then Value.int .i64 (val' j i) else .int .i64 (val j t)) k = tabV (fun t => .int .i64 (val' j t)) k := tabV_congr fun t ht => by
      by_cases q : t = i
      · rw [if_pos q, q]
      · rw [if_neg q, hv j t hj ht (fun e => q (Prod.mk.inj e).2)]
    rw [← e2]; exact e1
  · have e1 := (h.rows j hj).other (a := ⟨rb x, i, none⟩) (fun e => q (h.inj j x hj hx e)) (.int .i64 (val' x i))
    have e2 : tabV (fun t => Value.int .i64 (val j t)) k = tabV (fun t => .int .i64 (val' j t)) k := tabV_congr fun t ht => by rw [hv j t hj ht (fun e => q (Prod.mk.inj e).1)]
    rw [← e2]; exact e1
theorem NumB.same {W : World} {nb k V a : Nat} {rb : Nat → Nat} {val val' : Nat → Nat → Int} (h : NumB W nb k V a rb val) (hv : ∀ j t, j < a → t < k → val' j t = val j t) : NumB W nb k V a rb val' := by
  refine ⟨h.top, fun j hj => ?_, h.inj⟩
  have e2 : tabV (fun t => Value.int .i64 (val j t)) k = tabV (fun t => .int .i64 (val' j t)) k := tabV_congr fun t ht => by rw [hv j t hj ht]
  rw [← e2]; exact h.rows j hj
theorem NumB.read {W : World} {nb k V : Nat} {rb : Nat → Nat} {val : Nat → Nat → Int} (h : NumB W nb k V V rb val) (hV : V ≤ 1000000) (hk : k ≤ 1000000) : RowsR W (.slice (some ⟨nb, 0, none⟩) V V) ((List.range V).map fun v => (List.range k).map fun i => val v i) := by
  refine ⟨some ⟨nb, 0, none⟩, V, by simp, by simp, by omega, fun h0 => ⟨nb, rfl, fun i r hr => ?_⟩⟩
  rw [List.getElem?_map] at hr
  obtain ⟨v, hv, rfl⟩ := Option.map_eq_some_iff.1 hr
  obtain ⟨hvl, rfl⟩ := List.getElem?_eq_some_iff.1 hv
  rw [List.length_range] at hvl
  rw [List.getElem_range]
  refine ⟨_, h.top.cell (tabV_get _ hvl), ?_⟩
  rw [if_pos hvl]
  refine ⟨some ⟨rb i, 0, none⟩, k, by simp, by simp, by omega, fun _ => ⟨rb i, rfl, fun j x hj => ?_⟩⟩
  rw [List.getElem?_map] at hj
  obtain ⟨t, ht, rfl⟩ := Option.map_eq_some_iff.1 hj
  obtain ⟨htl, rfl⟩ := List.getElem?_eq_some_iff.1 ht
  rw [List.length_range] at htl
  rw [List.getElem_range]
  exact (h.rows i hvl).cell (tabV_get _ htl)
/-- the numbers as far as they are made: rows ahead of v, and in row v the places ahead of i -/
def valF (F : Nat → Nat → Int) (v i j t : Nat) : Int := if j < v ∨ t < i then F j t else 0
def numF (k : Nat) (g : List (List Int)) (v i : Nat) : Int := numQ k g v (2 * i)
theorem ownsRow_grown {w w' : World} {base : Nat} {e : TypeId} {s : Nat} {v : Value} {n : Nat} {xs : List Value} (h : w.ownsRow base e s v n xs) {b e2 : Nat} {vs : List Value} (hb : Blk w b e2 vs) (he : e ≠ e2) (j : Nat) (u : Value) (hw : w' = w.setCell ⟨b, j, none⟩ u) : w'.ownsRow base e s v n xs := by
  rw [hw]
  refine World.ownsRow.kept h (Go.Lib.grownBy_setCell w b j u) ?_
  cases hv : v.ownBlock with
  | none => exact .inl rfl
  | some g => exact .inr fun e3 => own_ne h hb he hv (Option.some.inj e3)

set_option maxRecDepth 100000 in
set_option maxHeartbeats 4000000 in
theorem rBasis_any (w : World) (k : Nat) (rv : Value) (g : List (List Int)) (h : RowsR w rv g) (hg : GoodG k g) :
    Calls Try.prog 26 #[.agg #[.int .i64 k, rv]] w fun e w' => ∃ v nv, e = .returned (.tuple #[v, nv]) ∧ w'.ownsRow w.heap.size 9 1 v (basisW k g).length (strsV (basisW k g)) ∧ RowsR w' nv (numR k g) ∧ Below w.heap.size w w' := by
  obtain ⟨w1, hw1⟩ : ∃ w1, w1 = w.alloc (.cells #[.int .i64 k, rv] 32) := ⟨_, rfl⟩
  have hb1 : Below w.heap.size w w1 := by rw [hw1]; exact (Below.refl _ w).alloc (Nat.le_refl _) _
  have hx1 : Blk w1 w.heap.size 32 [.int .i64 k, rv] := by rw [hw1]; exact Blk.new w 32 [.int .i64 k, rv]
  have h1 := h.keep hb1
  obtain ⟨n, hn⟩ : ∃ n, g.length = n := ⟨_, rfl⟩
  obtain ⟨va, vc, rfl, hv1, hv2⟩ := h1.shape hn
  have htr := rTree_any w1 k _ g h1 hg
  have hn1 := hg.n1
  have hn5 := hg.n5
  have hrow := hg.row
  rw [hn] at hn1 hn5 hrow htr
  have hk4 := hg.k4
  have hk1 := hg.k1
  have c0 := hx1.cell (j := 0) rfl
  have c1 := hx1.cell (j := 1) rfl
  have H1 := Lib.hid h1
  have HX := Lib.hid hx1
  have HB := Lib.hid hb1
  have HN := Lib.hid hn
  have HROW := Lib.hid hrow
  have HG := Lib.hid hg
  have HTR := Lib.hid htr
  clear h h1 hx1 hb1 hn hrow hg htr
  go_enter Try.func26, Try.ntmps26
  go_upto_region 1 with fail
  rw [← hw1]
  clear hw1
  go_upto_region 2 with (go_at_call 71; refine HTR.out.mono ?_; rintro e w2 ⟨wb, ub, ur, rfl, ht2, hwu, hur, hwb, hb2⟩)
  have HT := Lib.hid ht2
  have HB2 := Lib.hid hb2
  have c0 := (HX.out.keep hb2).cell (j := 0) rfl
  have c1 := (HX.out.keep hb2).cell (j := 1) rfl
  clear ht2 hb2 HTR
  go_upto_region 3 with fail
  go_upto_region 4 with (at_make; refine wpList_makeV Try.info54 Try.underlying23 rfl rfl _ _ rfl n rfl rfl rfl rfl (by omega) (by omega) ?_; intro w3 hm3 hb3 hs3)
  obtain ⟨nb, hnb⟩ : ∃ nb, w2.heap.size = nb := ⟨_, rfl⟩
  have hz0 : NumB w3 nb k n 0 (fun _ => 0) (valF (numF k g) 0 0) := by
    refine ⟨?_, fun j hj => by omega, fun j j' hj => by omega⟩
    have e1 : tabV (fun j => if j < 0 then Value.slice (some ⟨0, 0, none⟩) k k else .slice none 0 0) n = List.replicate n (.slice none 0 0) := by
      rw [← tabV_const]
      exact tabV_congr fun j _ => by simp
    rw [e1, ← hnb]; exact hm3
  have hlw : w1.heap.size ≤ nb := by rw [← hnb]; exact HB2.out.size
  have hb3' : Below nb w2 w3 := by rw [← hnb]; exact hb3
  have ho0 : w3.ownsRow nb 9 1 (.slice none 0 0) (wordsQ (treeT k g) (wayW k g) (edgesTo k g 0 0)).length (strsV (wordsQ (treeT k g) (wayW k g) (edgesTo k g 0 0))) := World.ownsRow_nil _ _ _ _
  rw [hnb] at hs3 ⊢
  have HNB := Lib.hid hnb
  have HZ := Lib.hid hz0
  have HO := Lib.hid ho0
  have HBW := Lib.hid hb3'
  clear hz0 ho0 hb3 hb3' hm3 hnb c0 c1 hs3
  go_wp2_with fail
  go_loopw [8, 6] (fun vv ov wr => ∃ (v : Nat) (lw : Value) (rb : Nat → Nat), v ≤ n ∧ vv = .int .i64 v ∧ lw = ov ∧ Hid (NumB wr nb k n v rb (valF (numF k g) v 0)) ∧ Hid (wr.ownsRow nb 9 1 lw (wordsQ (treeT k g) (wayW k g) (edgesTo k g v 0)).length (strsV (wordsQ (treeT k g) (wayW k g) (edgesTo k g v 0)))) ∧ Hid (Below nb w2 wr)) (fun vv _ _ => n - (intOf vv).toNat)
  case atStart => exact ⟨0, _, fun _ => 0, by omega, rfl, rfl, HZ, HO, HBW⟩
  case round =>
    clear HZ HO HBW
    obtain ⟨v, lw, rb, hv, rfl, rfl, HZ, HO, HBW⟩ := hrel
    have hX2 : Below w1.heap.size w1 wr := HB2.out.trans (HBW.out.mono hlw)
    have HX2 := Lib.hid hX2
    have c0 := (HX.out.keep hX2).cell (j := 0) rfl
    have c1 := (HX.out.keep hX2).cell (j := 1) rfl
    clear hX2
    by_cases hlt : v < n
    · have v0 : (0 : Int) ≤ v := by omega
      have v1 : (v : Int) < n := by omega
      go_upto_region 7 with fail
      go_upto_region 8 with (at_make; refine wpList_makeV Try.info3 Try.underlying54 rfl rfl _ _ rfl k rfl rfl (by rfl) (by rfl) (by omega) (by omega) ?_; intro w4 hm4 hb4 hs4; have cz4 := (HZ.out.top.keep hb4).cell (tabV_get _ hlt); rw [if_neg (Nat.lt_irrefl v)] at cz4; have fz4 := (HZ.out.top.keep hb4).free v; have HM4 := Lib.hid hm4; have HB4 := Lib.hid hb4; have HS4 := Lib.hid hs4; clear hm4 hb4 hs4)
      obtain ⟨z, hz⟩ : ∃ z, wr.heap.size = z := ⟨_, rfl⟩
      obtain ⟨W5, hW5⟩ : ∃ W5, W5 = w4.setCell ⟨nb, v, none⟩ (.slice (some ⟨z, 0, none⟩) k k) := ⟨_, rfl⟩
      have hm4 : Blk w4 z 3 (tabV (fun i => .int .i64 (valF (numF k g) v 0 v i)) k) := by
        have e1 : tabV (fun i => Value.int .i64 (valF (numF k g) v 0 v i)) k = List.replicate k (.int .i64 0) := by
          rw [← tabV_const]
          refine tabV_congr fun i _ => ?_
          unfold valF
          rw [if_neg (by omega)]
        rw [e1, ← hz]; exact HM4.out
      have hz5 := HZ.out.more HB4.out hm4 (by omega) (fun j i hj _ => by unfold valF; rw [if_pos (.inl hj)])
      rw [← hW5] at hz5
      have hnz : nb < z := by rw [← hz]; exact HZ.out.top.lt
      have ho5 : W5.ownsRow nb 9 1 lw (wordsQ (treeT k g) (wayW k g) (edgesTo k g v 0)).length (strsV (wordsQ (treeT k g) (wayW k g) (edgesTo k g v 0))) :=
        ownsRow_grown (World.ownsRow.keep HO.out HB4.out) (HZ.out.top.keep HB4.out) (by decide) v _ hW5
      have hb5 : Below nb w2 W5 := by rw [hW5]; exact (HBW.out.trans (HB4.out.mono (by omega))).setCell (p := ⟨nb, v, none⟩) (Nat.le_refl nb) _
      change Code.wp _ _ _ _ (w4.setCell ⟨nb, v, none⟩ (.slice (some ⟨wr.heap.size, 0, none⟩) k k))
      rw [hz, ← hW5]
      obtain ⟨rb2, hrb2⟩ : ∃ rb2, (fun j => if j = v then z else rb j) = rb2 := ⟨_, rfl⟩
      rw [hrb2] at hz5
      have hrz : rb2 v = z := by rw [← hrb2]; simp
      have HZ5 := Lib.hid hz5
      have HO5 := Lib.hid ho5
      have HB5 := Lib.hid hb5
      have HRZ := Lib.hid hrz
      clear hW5 hz hm4 hz5 ho5 hb5 HZ HO HBW HX2 HM4 HB4 HS4 cz4 fz4 c0 c1 hrb2 hrz
      go_wp2_with fail
      go_loopw [9, 6] (fun iv ov wr => ∃ (i : Nat) (lw : Value), i ≤ k ∧ iv = .int .i64 i ∧ lw = ov ∧ Hid (NumB wr nb k n (v + 1) rb2 (valF (numF k g) v i)) ∧ Hid (wr.ownsRow nb 9 1 lw (wordsQ (treeT k g) (wayW k g) (edgesTo k g v i)).length (strsV (wordsQ (treeT k g) (wayW k g) (edgesTo k g v i)))) ∧ Hid (Below nb w2 wr)) (fun iv _ _ => k - (intOf iv).toNat)
      case atStart => exact ⟨0, _, by omega, rfl, rfl, HZ5, HO5, HB5⟩
      case round =>
        clear HZ5 HO5 HB5
        obtain ⟨i, lw, hi, rfl, rfl, HZ, HO, HBW⟩ := hrel
        have hX2 : Below w1.heap.size w1 wr := HB2.out.trans (HBW.out.mono hlw)
        have HX2 := Lib.hid hX2
        have c0 := (HX.out.keep hX2).cell (j := 0) rfl
        have c1 := (HX.out.keep hX2).cell (j := 1) rfl
        clear hX2
        by_cases hli : i < k
        · obtain ⟨r, hr⟩ : ∃ r, g[v]? = some r := ⟨_, List.getElem?_eq_getElem (by rw [HN.out]; exact hlt)⟩
          obtain ⟨hl1, hl2⟩ := HROW.out r (List.mem_of_getElem? hr)
          obtain ⟨J, hJ⟩ : ∃ J, 2 * i = J := ⟨_, rfl⟩
          obtain ⟨K, hK⟩ : ∃ K, 2 * k = K := ⟨_, rfl⟩
          rw [hK] at hl1
          have hJK : J < K := by omega
          have hJ8 : J < 8 := by omega
          obtain ⟨x, hx⟩ : ∃ x, r[J]? = some x := ⟨_, List.getElem?_eq_getElem (by rw [hl1]; exact hJK)⟩
          obtain ⟨b1, v1', hva, d1, e1⟩ := H1.out.at_ HX2.out hr
          subst hva
          obtain ⟨a2, c2, rfl, q1, q2⟩ := e1.shape hl1
          obtain ⟨b2, rfl, d2⟩ := e1.at_ (Below.refl _ _) hx
          obtain ⟨hx1, hx2⟩ := hl2 x (List.mem_of_getElem? hx)
          have hxo : x = optI (nxT g v J) := (nxT_opt (by unfold atG; rw [hr]; exact hx) hx1).symm
          have i0 : (0 : Int) ≤ i := by omega
          have i1 : (i : Int) < k := by omega
          have j0 : (0 : Int) ≤ J := by omega
          have j1 : (J : Int) < K := by omega
          have hJI : 2 * (i : Int) = J := by omega
          have hJW : IntKind.i64.wrap (J : Int) = J := by rw [IntKind.wrap_i64]; omega
          have hT2 : TreeM wr wb ub ur (2 * k) n (wayW k g) (treeT k g) n := by
            have := HBW.out
            rw [← HNB.out] at this
            exact HT.out.keep this
          have HT2 := Lib.hid hT2
          have HJ := Lib.hid hJ
          have HK := Lib.hid hK
          cases hnx : nxT g v J with
          | none =>
            have hxm : x = -1 := by rw [hxo, hnx]; rfl
            subst hxm
            have hea : edgesTo k g v (i + 1) = edgesTo k g v i := by
              rw [edges_step, hJ]
              unfold edgeAt
              rw [hnx, List.append_nil]
            have hz9 := HZ.out.same (val' := valF (numF k g) v (i + 1)) (fun j t hj ht => by
              unfold valF
              by_cases q : j < v ∨ t < i
              · rw [if_pos q, if_pos (by omega)]
              · rw [if_neg q]
                by_cases q2 : t = i
                · rw [if_pos (by omega), show j = v by omega, q2]
                  exact num_none HG.out (by rw [hJ]; exact hnx)
                · rw [if_neg (by omega)])
            have ho9 := HO.out
            rw [← hea] at ho9
            have G1 := Lib.hid hz9
            have G2 := Lib.hid ho9
            clear hr hl1 hl2 hx e1 hxo hnx hea hz9 ho9 hT2 hJ hK
            go_wp2_with fail
            go_roundw
            case rel => exact ⟨i + 1, _, by omega, by go_num, rfl, G1, G2, HBW⟩
            case measure => simp [intOf]; omega
          | some u =>
            have hxm : x = (u : Int) := by rw [hxo, hnx]; rfl
            subst hxm
            have hun : u < n := by have := (nxT_bounds HG.out hnx).2.2; rw [HN.out] at this; exact this
            have hus := used_skip HG.out hnx
            rw [HN.out] at hus
            obtain ⟨SK, hSK⟩ : ∃ SK, skipT (treeT k g) (v, J, u) = SK := ⟨_, rfl⟩
            rw [hSK] at hus
            have cu1 := hT2.top.cell (tabV_get _ hlt)
            have cu2 := (hT2.rows v hlt).cell (tabV_get _ (show J < 2 * k by omega))
            rw [hus] at cu2
            rw [hK] at cu1
            have hnum := num_at HG.out (show v < g.length by rw [HN.out]; exact hlt) hli (by rw [hJ]; exact hnx)
            rw [hJ, hSK] at hnum
            have hea : edgesTo k g v (i + 1) = edgesTo k g v i ++ [(v, J, u)] := by
              rw [edges_step, hJ]
              unfold edgeAt
              rw [hnx]
            have hwq := wordsQ_snoc (treeT k g) (wayW k g) (edgesTo k g v i) (v, J, u)
            rw [← hea, hSK] at hwq
            have u0 : (0 : Int) ≤ u := by omega
            have u1 : (u : Int) < n := by omega
            have u2 : ¬ (u : Int) < 0 := by omega
            have HNUM := Lib.hid hnum
            have HWQ := Lib.hid hwq
            clear hr hl1 hl2 hx e1 hxo hnx hea hT2 hJ hK hus hSK hnum hwq hx1 hx2
            cases SK
            · have hw52 : ∀ s, (treeT k g s).2 < 52 := fun s => by
                have := treeF_lt HG.out rfl (scanN (2 * k) g.length 0) s
                have h8 : (treeT k g s).2 < 2 * k := this.2
                omega
              have hl1 : (wayW k g v).length ≤ 5000 := by have := way_le (k := k) (g := g) v; rw [HN.out] at this; omega
              have hl2 : (wayW k g u).length ≤ 5000 := by have := way_le (k := k) (g := g) u; rw [HN.out] at this; omega
              have hd1 : isWord (wayW k g v) = true := wayT_word _ hw52 _ _
              have hd2 : isWord (wayW k g u) = true := wayT_word _ hw52 _ _
              obtain ⟨X, hX⟩ : ∃ X, strB (wayW k g v) = X := ⟨_, rfl⟩
              obtain ⟨Bt, hBt⟩ : ∃ X, strB (wayW k g u) = X := ⟨_, rfl⟩
              obtain ⟨L, hL⟩ : ∃ L, strB [letP J] = L := ⟨_, rfl⟩
              obtain ⟨I, hI⟩ : ∃ I, strB (invL (wayW k g u)) = I := ⟨_, rfl⟩
              obtain ⟨Y, hY⟩ : ∃ Y, X ++ L = Y := ⟨_, rfl⟩
              obtain ⟨Z, hZ⟩ : ∃ Z, Y ++ I = Z := ⟨_, rfl⟩
              have hXs : X.size ≤ 5000 := by rw [← hX, size_str]; exact hl1
              have hBs : Bt.size ≤ 5000 := by rw [← hBt, size_str]; exact hl2
              have hLs : L.size = 1 := by rw [← hL]; rfl
              have hIs : I.size ≤ 5000 := by rw [← hI, size_str, invL_len]; exact hl2
              have hYs : Y.size = X.size + 1 := by rw [← hY, ByteArray.size_append, hLs]
              have hZs : Z.size ≤ 10001 := by rw [← hZ, ByteArray.size_append, hYs]; omega
              have hZb : bts Z = wayW k g v ++ [letP J] ++ invL (wayW k g u) := by rw [← hZ, ← hY, bts_add, bts_add, ← hX, ← hL, ← hI]
              have hZw : isWord (bts Z) = true := by
                rw [hZb]
                refine isWord_app (isWord_app hd1 ?_) (isWord_invL hd2)
                unfold isWord
                simp only [List.all_cons, List.all_nil, Bool.and_true]
                exact letP_letter _ (by omega)
              have hno1 : ¬ 9223372036854775807 < X.size + 1 := by omega
              have hno2 : ¬ 9223372036854775807 < X.size + 1 + I.size := by omega
              have hno3 : ¬ 9223372036854775807 < Y.size + I.size := by omega
              have hno4 : ¬ 9223372036854775807 < X.size + L.size := by omega
              obtain ⟨Wd, hWd⟩ : ∃ Wd, strB (wordQ (wayW k g) (v, J, u)) = Wd := ⟨_, rfl⟩
              have hrd := fun wx => rReduce_any Z wx hZw (by omega)
              have hinv := fun wx => rInverse_any Bt wx (by rw [← hBt]; exact hd2) (by omega)
              have hlet := fun wx => rLetterP_any wx J hJ8
              rw [hZb] at hrd
              rw [show bts Bt = wayW k g u by rw [← hBt], hI] at hinv
              rw [hL] at hlet
              change ∀ wx, Calls Try.prog 66 #[.string Z] wx fun e w' => e = .returned (.string (strB (wordQ (wayW k g) (v, J, u)))) ∧ Below wx.heap.size wx w' at hrd
              rw [hWd] at hrd
              have hcc : ∀ wx, Below wr.heap.size wr wx → wx.cell? ⟨wb, v, none⟩ = some (.string X) ∧ wx.cell? ⟨wb, u, none⟩ = some (.string Bt) := fun wx hb => by
                have e1 := (HT2.out.ways.keep hb).cell (tabV_get _ hlt)
                have e2 := (HT2.out.ways.keep hb).cell (tabV_get _ hun)
                rw [if_pos hlt, hX] at e1
                rw [if_pos hun, hBt] at e2
                exact ⟨e1, e2⟩
              obtain ⟨ws, hws⟩ : ∃ ws, wordsQ (treeT k g) (wayW k g) (edgesTo k g v i) = ws := ⟨_, rfl⟩
              rw [hws] at HO HNUM HWQ
              obtain ⟨c, hc⟩ : ∃ c, ws.length = c := ⟨_, rfl⟩
              have hcl : c ≤ 25000 := by
                rw [← hc, ← hws]
                have h1 := wordsQ_len (treeT k g) (wayW k g) (edgesTo k g v i)
                have h2 := edges_len k g v i
                have h3 : v * k ≤ 5000 * 4 := Nat.mul_le_mul (by omega) hk4
                omega
              rw [hc] at HO HNUM
              obtain ⟨la, lc, rfl, -, -⟩ := row_shapeV HO.out
              have HCC := Lib.hid hcc
              have HRD := Lib.hid hrd
              have HINV := Lib.hid hinv
              have HLE := Lib.hid hlet
              have HWD := Lib.hid hWd
              have HC := Lib.hid hc
              clear hw52 hl1 hl2 hd1 hd2 hX hBt hL hI hYs hZs hZb hZw hWd hrd hinv hlet hcc hws hc
              go_upto_region 13 with fail
              refine wp_region_noPanic ?_
              refine wp_region_held_drew (S := fun w' => w'.cell? ⟨wb, v, none⟩ = some (.string X) ∧ w'.cell? ⟨wb, u, none⟩ = some (.string Bt)) (by kernel_rfl) (HCC.out _ ((Below.refl _ _).drewN' 1)) (fun hHeld => ?_)
              refine takeH 0 (v := ?_) rfl (by kernel_rfl) (by kernel_rfl) (by kernel_rfl) (fun _ _ _ h => h) (by rfl) ?_ hHeld ?_
              rotate_left
              · (intro w hSw; (try dsimp only at hSw); go_simp; try with_reducible rfl)
              try simp only [Act.put, List.setIfInBounds_toArray, List.set_cons_zero, List.set_cons_succ]
              refine takeH 1 (v := ?_) rfl (by kernel_rfl) (by kernel_rfl) (by kernel_rfl) (fun _ _ _ h => h) (by rfl) ?_ hHeld ?_
              rotate_left
              · (intro w hSw; (try dsimp only at hSw); go_simp; try with_reducible rfl)
              try simp only [Act.put, List.setIfInBounds_toArray, List.set_cons_zero, List.set_cons_succ]
              refine takeH 2 (v := ?_) rfl (by kernel_rfl) (by kernel_rfl) (by kernel_rfl) (fun _ _ _ h => h) (by rfl) ?_ hHeld ?_
              rotate_left
              · (intro w hSw; (try dsimp only at hSw); go_simp; try with_reducible rfl)
              try simp only [Act.put, List.setIfInBounds_toArray, List.set_cons_zero, List.set_cons_succ]
              refine takeH 3 (v := ?_) rfl (by kernel_rfl) (by kernel_rfl) (by kernel_rfl) (fun _ _ _ h => h) (by rfl) ?_ hHeld ?_
              rotate_left
              · (intro w hSw; (try dsimp only at hSw); go_simp; try with_reducible rfl)
              try simp only [Act.put, List.setIfInBounds_toArray, List.set_cons_zero, List.set_cons_succ]
              refine takeH 4 (v := ?_) rfl (by kernel_rfl) (by kernel_rfl) (by kernel_rfl) (fun _ _ _ h => h) (by rfl) ?_ hHeld ?_
              rotate_left
              · (intro w hSw; (try dsimp only at hSw); go_simp; try with_reducible rfl)
              try simp only [Act.put, List.setIfInBounds_toArray, List.set_cons_zero, List.set_cons_succ]
              refine takeH 5 (v := ?_) rfl (by kernel_rfl) (by kernel_rfl) (by kernel_rfl) (fun _ _ _ h => h) (by rfl) ?_ hHeld ?_
              rotate_left
              · (intro w hSw; (try dsimp only at hSw); go_simp; try with_reducible rfl)
              try simp only [Act.put, List.setIfInBounds_toArray, List.set_cons_zero, List.set_cons_succ]
              refine takeH 6 (v := ?_) rfl (by kernel_rfl) (by kernel_rfl) (by kernel_rfl) (fun _ _ _ h => h) (by rfl) ?_ hHeld ?_
              rotate_left
              · (intro w hSw; (try dsimp only at hSw); go_simp; try with_reducible rfl)
              try simp only [Act.put, List.setIfInBounds_toArray, List.set_cons_zero, List.set_cons_succ]
              refine takeH 9 (v := ?_) rfl (by kernel_rfl) (by kernel_rfl) (by kernel_rfl) (fun _ _ _ h => h) (by rfl) ?_ hHeld ?_
              rotate_left
              · (intro w hSw; (try dsimp only at hSw); go_simp; try with_reducible rfl)
              try simp only [Act.put, List.setIfInBounds_toArray, List.set_cons_zero, List.set_cons_succ]
              refine takeH 10 (v := ?_) rfl (by kernel_rfl) (by kernel_rfl) (by kernel_rfl) (fun _ _ _ h => h) (by rfl) ?_ hHeld ?_
              rotate_left
              · (intro w hSw; (try dsimp only at hSw); go_simp; try with_reducible rfl)
              try simp only [Act.put, List.setIfInBounds_toArray, List.set_cons_zero, List.set_cons_succ]
              refine takeH 11 (v := ?_) rfl (by kernel_rfl) (by kernel_rfl) (by kernel_rfl) (fun _ _ _ h => h) (by rfl) ?_ hHeld ?_
              rotate_left
              · (intro w hSw; (try dsimp only at hSw); go_simp; try with_reducible rfl)
              try simp only [Act.put, List.setIfInBounds_toArray, List.set_cons_zero, List.set_cons_succ]
              refine takeH 12 (v := ?_) rfl (by kernel_rfl) (by kernel_rfl) (by kernel_rfl) (fun _ _ _ h => h) (by rfl) ?_ hHeld ?_
              rotate_left
              · (intro w hSw; (try dsimp only at hSw); go_simp; try with_reducible rfl)
              try simp only [Act.put, List.setIfInBounds_toArray, List.set_cons_zero, List.set_cons_succ]
              refine oneH 7 (by kernel_rfl) rfl (fun K hK => ?_)
              go_simp
              go_at_call 72
              refine (HLE.out _).mono ?_
              rintro e w5 ⟨rfl, hb5⟩
              have HB15 : Hid (Below wr.heap.size wr w5) := Lib.hid (((Below.refl _ wr).drewN' 1).trans (by exact hb5))
              clear hb5
              dsimp only
              refine hK.out _ _ (HCC.out _ HB15.out) (fun hHeld => ?_)
              clear hK K
              try simp only [Act.put, List.setIfInBounds_toArray, List.set_cons_zero, List.set_cons_succ]
              refine takeH 8 (v := ?_) rfl (by kernel_rfl) (by kernel_rfl) (by kernel_rfl) (fun _ _ _ h => h) (by rfl) ?_ hHeld ?_
              rotate_left
              · (intro w hSw; (try dsimp only at hSw); go_simp; try with_reducible rfl)
              try simp only [Act.put, List.setIfInBounds_toArray, List.set_cons_zero, List.set_cons_succ]
              refine oneH 13 (by kernel_rfl) rfl (fun K hK => ?_)
              go_simp
              go_at_call 38
              refine (HINV.out _).mono ?_
              rintro e w6 ⟨rfl, hb6⟩
              have HB16 : Hid (Below wr.heap.size wr w6) := Lib.hid (HB15.out.trans (hb6.mono HB15.out.size))
              clear hb6
              dsimp only
              refine hK.out _ _ (HCC.out _ HB16.out) (fun hHeld => ?_)
              clear hK K
              try simp only [Act.put, List.setIfInBounds_toArray, List.set_cons_zero, List.set_cons_succ]
              refine takeH 14 (v := ?_) rfl (by kernel_rfl) (by kernel_rfl) (by kernel_rfl) (fun _ _ _ h => h) (by rfl) ?_ hHeld ?_
              rotate_left
              · (intro w hSw; (try dsimp only at hSw); go_simp; try with_reducible rfl)
              try simp only [Act.put, List.setIfInBounds_toArray, List.set_cons_zero, List.set_cons_succ]
              refine oneH 15 (by kernel_rfl) rfl (fun K hK => ?_)
              go_simp
              go_at_call 66
              refine (HRD.out _).mono ?_
              rintro e w7 ⟨rfl, hb7⟩
              have HB17 : Hid (Below wr.heap.size wr w7) := Lib.hid (HB16.out.trans (hb7.mono HB16.out.size))
              clear hb7
              dsimp only
              refine hK.out _ _ (HCC.out _ HB17.out) (fun hHeld => ?_)
              clear hK K
              try simp only [Act.put, List.setIfInBounds_toArray, List.set_cons_zero, List.set_cons_succ]
              refine oneH 16 (by kernel_rfl) rfl (fun K hK => ?_)
              go_simp
              obtain ⟨W8, hW8⟩ : ∃ W8, w7.alloc (.cells #[.string Wd] 9) = W8 := ⟨_, rfl⟩
              have hb8 : Below wr.heap.size wr W8 := by rw [← hW8]; exact HB17.out.alloc HB17.out.size _
              have hx8 : Blk W8 w7.heap.size 9 [.string Wd] := by rw [← hW8]; exact Blk.new w7 9 [.string Wd]
              rw [hW8]
              refine hK.out _ _ (HCC.out _ hb8) (fun hHeld => ?_)
              have HB18 := Lib.hid hb8
              have HX8 := Lib.hid hx8
              clear hW8 hb8 hx8
              clear hK K
              try simp only [Act.put, List.setIfInBounds_toArray, List.set_cons_zero, List.set_cons_succ]
              have hown8 := World.ownsRow.keep HO.out HB18.out
              have hnb8 : nb ≤ W8.heap.size := by have := HB18.out.size; have := HZ.out.top.lt; omega
              have hlo := World.ownsRow.lt hown8
              refine oneH 17 (by kernel_rfl) rfl (fun K hK => ?_)
              refine step_appV Try.info9 rfl (by decide) Try.underlying22 hown8 (by omega) rfl (.tmp 60) (.tmp 76) rfl (by simp [Act.eval]) (by simp [Act.eval]) HX8.out rfl hnb8 _ rfl ?_
              intro g9 cap9 w9 hown9 hgrow9 hat9 hlt9
              have hwbn : wb < nb := by have h1 := HT.out.ways.lt; have h2 := HNB.out; omega
              have hneb : ∀ b, b < nb → some b ≠ (Value.slice la c lc).ownBlock := fun b hb e => by have := (hlo b e.symm).1; omega
              have hs9 : w9.cell? ⟨wb, v, none⟩ = some (.string X) ∧ w9.cell? ⟨wb, u, none⟩ = some (.string Bt) := by
                have h9 := HCC.out W8 HB18.out
                have e0 := (HT2.out.ways.keep HB18.out)
                have e1 := (e0.cell (tabV_get _ hlt)).symm.trans h9.1
                have e2 := (e0.cell (tabV_get _ hun)).symm.trans h9.2
                have e3 := e0.grown hgrow9 (hneb wb hwbn)
                exact ⟨(e3.cell (tabV_get _ hlt)).trans e1, (e3.cell (tabV_get _ hun)).trans e2⟩
              refine hK.out _ _ hs9 (fun hHeld => ?_)
              clear hK K
              try simp only [Act.put, List.setIfInBounds_toArray, List.set_cons_zero, List.set_cons_succ]
              refine takeH 18 (v := ?_) rfl (by kernel_rfl) (by kernel_rfl) (by kernel_rfl) (fun _ _ _ h => h) (by rfl) ?_ hHeld ?_
              rotate_left
              · (intro w hSw; (try dsimp only at hSw); go_simp; try with_reducible rfl)
              try simp only [Act.put, List.setIfInBounds_toArray, List.set_cons_zero, List.set_cons_succ]
              refine wpAnyH_done (by kernel_rfl) ?_ _
              refine NoPanic.normal ?_
              have hz9 : NumB w9 nb k n (v + 1) rb2 (valF (numF k g) v i) := (HZ.out.keep HB18.out).map_ fun b e vs he hx => hx.grown hgrow9 (fun e3 => by
                refine own_ne hown8 hx (by rcases he with rfl | rfl <;> decide) e3.symm rfl)
              have hb9 : Below nb w2 w9 := (HBW.out.trans (HB18.out.mono (by have := HZ.out.top.lt; omega))).grown hgrow9 (by omega) (fun b e => (hlo b e).1)
              have ct9 := hz9.top.cell (tabV_get _ hlt)
              rw [if_pos (show v < v + 1 by omega)] at ct9
              have cr9 := (hz9.rows v (by omega)).cell (tabV_get _ hli)
              have fr9 := (hz9.rows v (by omega)).free i
              have hrz := HRZ.out
              rw [hrz] at ct9 cr9 fr9
              have hfv : valF (numF k g) v (i + 1) v i = (c : Int) + 1 := by
                unfold valF
                rw [if_pos (by omega)]
                unfold numF
                rw [HJ.out]; exact HNUM.out
              have hp9 := hz9.put (val' := valF (numF k g) v (i + 1)) (x := v) (i := i) (by omega) (fun j t hj ht hne => by
                unfold valF
                by_cases q : j < v ∨ t < i
                · rw [if_pos q, if_pos (by omega)]
                · have hti : t ≠ i := fun e => hne (by rw [e, show j = v by omega])
                  rw [if_neg q, if_neg (by omega)])
              rw [hfv, hrz] at hp9
              have ho9 := ownsRow_grown hown9 (hz9.rows v (by omega)) (by decide) i (.int .i64 ((c : Int) + 1)) rfl
              rw [hrz] at ho9
              have hwf : wordsQ (treeT k g) (wayW k g) (edgesTo k g v (i + 1)) = ws ++ [wordQ (wayW k g) (v, J, u)] := HWQ.out
              have ho10 : (w9.setCell ⟨z, i, none⟩ (.int .i64 ((c : Int) + 1))).ownsRow nb 9 1 (.slice (some ⟨g9, 0, none⟩) (c + 1) cap9) (wordsQ (treeT k g) (wayW k g) (edgesTo k g v (i + 1))).length (strsV (wordsQ (treeT k g) (wayW k g) (edgesTo k g v (i + 1)))) := by
                rw [hwf, List.length_append, List.length_singleton, HC.out]
                unfold strsV at ho9 ⊢
                rw [List.map_append, List.map_cons, List.map_nil, HWD.out]
                exact ho9
              have hzn : nb ≤ z := by omega
              have hb10 : Below nb w2 (w9.setCell ⟨z, i, none⟩ (.int .i64 ((c : Int) + 1))) := hb9.setCell (p := ⟨z, i, none⟩) hzn _
              have G1 := Lib.hid hp9
              have G2 := Lib.hid ho10
              have G3 := Lib.hid hb10
              have hc1 : ((c + 1 : Nat) : Int) = (c : Int) + 1 := by omega
              clear hs9 hz9 hb9 hrz hfv hp9 ho9 hwf ho10 hb10 hown9 hgrow9 hat9 hown8 hlo hneb hHeld cu1 cu2 c0 c1 d1 d2
              go_wp2_with fail
              go_roundw
              case rel => exact ⟨i + 1, _, by omega, by go_num, rfl, G1, G2, G3⟩
              case measure => simp [intOf]; omega
            · have hz9 := HZ.out.same (val' := valF (numF k g) v (i + 1)) (fun j t hj ht => by
                unfold valF
                by_cases q : j < v ∨ t < i
                · rw [if_pos q, if_pos (by omega)]
                · rw [if_neg q]
                  by_cases q2 : t = i
                  · rw [if_pos (by omega), show j = v by omega, q2]
                    unfold numF
                    rw [HJ.out]; exact HNUM.out
                  · rw [if_neg (by omega)])
              have ho9 := HO.out
              rw [← show _ = wordsQ (treeT k g) (wayW k g) (edgesTo k g v i) from HWQ.out] at ho9
              have G1 := Lib.hid hz9
              have G2 := Lib.hid ho9
              clear hz9 ho9
              go_wp2_with fail
              go_roundw
              case rel => exact ⟨i + 1, _, by omega, by go_num, rfl, G1, G2, HBW⟩
              case measure => simp [intOf]; omega
        · obtain rfl : i = k := by omega
          have hz9 := HZ.out.same (val' := valF (numF i g) (v + 1) 0) (fun j t hj ht => by unfold valF; rw [if_pos (.inl hj), if_pos (.inr ht)])
          have ho9 := HO.out
          rw [edges_next] at ho9
          have G1 := Lib.hid hz9
          have G2 := Lib.hid ho9
          clear hz9 ho9
          go_wp2_with fail
          go_roundw
          case rel => exact ⟨v + 1, _, _, by omega, by go_num, rfl, G1, G2, HBW⟩
          case measure => simp [intOf]; omega
    · obtain rfl : v = n := by omega
      have hrd := HZ.out.read (by omega) (by omega)
      have hnr : ((List.range v).map fun x => (List.range k).map fun i => valF (numF k g) v 0 x i) = numR k g := by
        unfold numR
        rw [HN.out]
        refine List.map_congr_left fun x hx => List.map_congr_left fun i _ => ?_
        unfold valF
        rw [if_pos (.inl (List.mem_range.1 hx))]
        rfl
      rw [hnr] at hrd
      have ho9 := ownsRow_mono HO.out (show w.heap.size ≤ nb by have := HB.out.size; omega)
      have hbw := HB.out.trans ((HB2.out.trans (HBW.out.mono hlw)).mono HB.out.size)
      have hwo : wordsQ (treeT k g) (wayW k g) (edgesTo k g v 0) = basisW k g := by
        unfold basisW
        rw [HN.out]
        rw [show wayW k g = wayT (treeF g (scanN (2 * k) g.length 0)) g.length from rfl, HN.out]
        show wordsQ (treeF g (scanN (2 * k) g.length 0)) _ _ = _
        rw [HN.out]
      rw [hwo] at ho9
      have HRD := Lib.hid hrd
      have HO9 := Lib.hid ho9
      have HB9 := Lib.hid hbw
      clear hrd hnr ho9 hbw hwo
      go_wp2_with fail
      go_ret2
      exact ⟨_, _, rfl, HO9.out, HRD.out, HB9.out⟩
end Go.Proofs.Ytlooclpfoeakgaa

/- The reference's Way, Has, Edges, Rank, Index, Express; Same of two words; the group of words: the walks. -/
namespace Go.Proofs.Ytlooclpfoeakgaa
open Go.RowKit

set_option maxHeartbeats 1000000 in
theorem rPlace_any (c : UInt8) (w : World) (hc : letter c.toNat = true) : Calls Try.prog 86 #[.int .u8 c.toNat] w fun e w' => e = .returned (.int .i64 (placeB c)) ∧ w' = w := by
  obtain ⟨h1, h2⟩ := place_val c hc
  have hlt := (let_place c hc).2
  have hu := c.toNat_lt
  by_cases h : (97 : Int) ≤ (c.toNat : Int)
  · have h3 := h1 h
    clear h1 h2
    go_enter Try.func86, Try.ntmps86
    go_wp2_with fail
    go_ret
    exact ⟨rfl, rfl⟩
  · obtain ⟨h3, h4⟩ := h2 h
    clear h1 h2
    go_enter Try.func86, Try.ntmps86
    go_wp2_with fail
    go_ret
    exact ⟨rfl, rfl⟩

set_option maxRecDepth 100000 in
set_option maxHeartbeats 2000000 in
theorem rWay_any (w : World) (k : Nat) (rv : Value) (g : List (List Int)) (h : RowsR w rv g) (hg : GoodG k g) (v : Nat) (hv : v < g.length) (s : ByteArray) (hs : s.size < 1000000000) (hw : isWord (bts s) = true) (hf : fitW k (bts s) = true) :
    Calls Try.prog 49 #[.agg #[.int .i64 k, rv], .int .i64 v, .string s] w fun e w' => e = .returned (.int .i64 (optI (runS (stepL k (nxT g)) v (bts s)))) ∧ Below w.heap.size w w' := by
  obtain ⟨w1, hw1⟩ : ∃ w1, w1 = w.alloc (.cells #[.int .i64 k, rv] 32) := ⟨_, rfl⟩
  have hb1 : Below w.heap.size w w1 := by rw [hw1]; exact (Below.refl _ w).alloc (Nat.le_refl _) _
  have hx1 : Blk w1 w.heap.size 32 [.int .i64 k, rv] := by rw [hw1]; exact Blk.new w 32 [.int .i64 k, rv]
  have h1 := h.keep hb1
  obtain ⟨n, hn⟩ : ∃ n, g.length = n := ⟨_, rfl⟩
  obtain ⟨va, vc, rfl, hv1, hv2⟩ := h1.shape hn
  rw [hn] at hv
  have hlet : ∀ c ∈ bts s, letter c.toNat = true ∧ placeB c < 2 * k := fun c hc => ⟨List.all_eq_true.1 (show (bts s).all _ = true from hw) c hc, of_decide_eq_true (List.all_eq_true.1 hf c hc)⟩
  have hst : ∀ u p, nxT g u p ≠ none → True := fun _ _ _ => trivial
  have hrow := hg.row
  rw [hn] at hrow
  have HX := Lib.hid hx1
  have HB := Lib.hid hb1
  have H1 := Lib.hid h1
  have HLET := Lib.hid hlet
  have HROW := Lib.hid hrow
  have HN := Lib.hid hn
  have hn5 : n ≤ 5000 := by rw [← hn]; exact hg.n5
  have hk4 := hg.k4
  obtain ⟨KK, hKK⟩ : ∃ KK, KK = 2 * k := ⟨_, rfl⟩
  have HKK := Lib.hid hKK
  have HO : Hid (runS (stepL k (nxT g)) v ((bts s).take 0) = some v ∧ ∀ u, some v = some u → u < n) := Lib.hid ⟨rfl, fun u e => by cases e; exact hv⟩
  have HBW := Lib.hid (Below.refl w1.heap.size w1)
  clear h h1 hb1 hx1 hlet hst hw hf hn hrow hg hKK
  go_enter Try.func49, Try.ntmps49
  go_upto_region 1 with fail
  rw [← hw1]
  clear hw1
  go_wp2_with fail
  go_loopw [7, 1] (fun iv ov wr => ∃ (j : Nat) (o : Option Nat) (z : Int), j ≤ s.size ∧ iv = .int .i64 j ∧ ov = .int .i64 z ∧ Hid (z = optI o) ∧ Hid (runS (stepL k (nxT g)) v ((bts s).take j) = o ∧ ∀ u, o = some u → u < n) ∧ Hid (Below w1.heap.size w1 wr)) (fun iv _ _ => s.size - (intOf iv).toNat)
  case atStart => exact ⟨0, some v, v, by omega, rfl, rfl, Lib.hid rfl, HO, HBW⟩
  case round =>
    clear HO HBW
    obtain ⟨j, o, z, hj, rfl, rfl, HZ, HO, HBW⟩ := hrel
    by_cases hlt : j < s.size
    · have hltI : (j : Int) < s.size := by omega
      cases o with
      | none =>
        obtain rfl : z = -1 := HZ.out
        have hres : Hid (runS (stepL k (nxT g)) v (bts s) = none) := Lib.hid (leads_stop HO.out.1)
        go_wp2_with fail
        go_ret
        exact ⟨by rw [hres.out]; rfl, HB.out.trans (HBW.out.mono HB.out.size)⟩
      | some u =>
        obtain rfl : z = (u : Int) := HZ.out
        have hu := HO.out.2 u rfl
        have hc1 := (HX.out.keep HBW.out).cell (j := 1) rfl
        obtain ⟨r, hr⟩ : ∃ r, g[u]? = some r := ⟨_, List.getElem?_eq_getElem (by rw [HN.out]; exact hu)⟩
        obtain ⟨b1, v1, rfl, d1, e1⟩ := H1.out.at_ HBW.out hr
        obtain ⟨hl1, hl2⟩ := HROW.out r (List.mem_of_getElem? hr)
        rw [← HKK.out] at hl1
        obtain ⟨a2, c2, rfl, q1, q2⟩ := e1.shape hl1
        have hcj := bts_get hlt
        obtain ⟨c, hcc⟩ : ∃ c, s[j]'hlt = c := ⟨_, rfl⟩
        rw [hcc] at hcj
        obtain ⟨hcl, hcp⟩ := HLET.out c (List.mem_of_getElem? hcj)
        rw [← HKK.out] at hcp
        obtain ⟨x, hx⟩ : ∃ x, r[placeB c]? = some x := ⟨_, List.getElem?_eq_getElem (by rw [hl1]; exact hcp)⟩
        obtain ⟨b2, rfl, d2⟩ := e1.at_ (Below.refl _ _) hx
        obtain ⟨hx1, hx2⟩ := hl2 x (List.mem_of_getElem? hx)
        have hxo : x = optI (nxT g u (placeB c)) := (nxT_opt (by unfold atG; rw [hr]; exact hx) hx1).symm
        have hnx : runS (stepL k (nxT g)) v ((bts s).take (j + 1)) = nxT g u (placeB c) := by
          rw [List.take_add_one, hcj, Option.toList_some, leads_snoc, HO.out.1]
          show stepL k (nxT g) u c = _
          unfold stepL
          rw [if_pos ⟨hcl, by rw [← HKK.out]; exact hcp⟩]
        have hbd : ∀ y, nxT g u (placeB c) = some y → y < n := fun y hy => by
          rw [hy] at hxo
          have : x = (y : Int) := hxo
          omega
        have HPL := Lib.hid (fun wx => rPlace_any c wx hcl)
        obtain ⟨p, hp⟩ : ∃ p, placeB c = p := ⟨_, rfl⟩
        rw [hp] at hcp d2 HPL hxo hnx hbd
        have i0 : (0 : Int) ≤ u := by omega
        have i1 : (u : Int) < n := by omega
        have p0 : (0 : Int) ≤ p := by omega
        have p1 : (p : Int) < KK := by omega
        have j0 : (0 : Int) ≤ j := by omega
        have G1 := Lib.hid hxo
        have G2 := Lib.hid (And.intro hnx hbd)
        clear hr e1 hl1 hl2 hcj hcl hx hxo hnx hbd hp HO HZ
        go_upto_region 4 with fail
        go_quiet ((go_at_call 86; exact Calls.quiet_of_same (HPL.out _)))
        generalize nq = na
        have HB2 : Hid (Below w1.heap.size w1 (wr.drewN na)) := Lib.hid (HBW.out.trans ((Below.refl _ _).drewN' _))
        go_wp2_with fail
        go_roundw
        case rel => exact ⟨j + 1, _, x, by omega, by go_num, rfl, G1, G2, HB2⟩
        case measure => simp [intOf]; omega
    · obtain rfl : j = s.size := by omega
      have hres := HO.out.1
      rw [List.take_of_length_le (by rw [bts_len]; exact Nat.le_refl _)] at hres
      have HRES := Lib.hid hres
      have hz := HZ.out
      have HZ2 := Lib.hid hz
      clear hres hz
      go_wp2_with fail
      go_ret
      exact ⟨by rw [HRES.out, ← HZ2.out]; rfl, HB.out.trans (HBW.out.mono HB.out.size)⟩


set_option maxRecDepth 100000 in
set_option maxHeartbeats 2000000 in
theorem rEdges_any (w : World) (k : Nat) (rv : Value) (g : List (List Int)) (h : RowsR w rv g) (hg : GoodG k g) :
    Calls Try.prog 73 #[.agg #[.int .i64 k, rv]] w fun e w' => e = .returned (.int .i64 (edgesE k g).length) ∧ Below w.heap.size w w' := by
  obtain ⟨w1, hw1⟩ : ∃ w1, w1 = w.alloc (.cells #[.int .i64 k, rv] 32) := ⟨_, rfl⟩
  have hb1 : Below w.heap.size w w1 := by rw [hw1]; exact (Below.refl _ w).alloc (Nat.le_refl _) _
  have hx1 : Blk w1 w.heap.size 32 [.int .i64 k, rv] := by rw [hw1]; exact Blk.new w 32 [.int .i64 k, rv]
  have h1 := h.keep hb1
  obtain ⟨n, hn⟩ : ∃ n, g.length = n := ⟨_, rfl⟩
  obtain ⟨va, vc, rfl, hv1, hv2⟩ := h1.shape hn
  have hrow := hg.row
  have hn5 := hg.n5
  rw [hn] at hrow hn5
  have hk4 := hg.k4
  have hfin : edgesTo k g n 0 = edgesE k g := by unfold edgesE; rw [hn]
  obtain ⟨K, hK⟩ : ∃ K, 2 * k = K := ⟨_, rfl⟩
  have hKI : 2 * (k : Int) = K := by omega
  have hKW : IntKind.i64.wrap (K : Int) = K := by rw [IntKind.wrap_i64]; omega
  rw [hK] at hrow
  have c0 := hx1.cell (j := 0) rfl
  have c1 := hx1.cell (j := 1) rfl
  have hlen : ∀ v j, v ≤ n → j ≤ k → (edgesTo k g v j).length ≤ 25000 := fun v j hv hj => by
    have h1 := edges_len k g v j
    have h2 : v * k ≤ 5000 * 4 := Nat.mul_le_mul (by omega) hk4
    omega
  have H1 := Lib.hid h1
  have HX := Lib.hid hx1
  have HB := Lib.hid hb1
  have HN := Lib.hid hn
  have HK := Lib.hid hK
  have HROW := Lib.hid hrow
  have HF := Lib.hid hfin
  have HLEN := Lib.hid hlen
  clear h h1 hx1 hb1 hn hrow hg hfin hlen hK
  go_enter Try.func73, Try.ntmps73
  go_upto_region 1 with fail
  rw [← hw1]
  clear hw1
  go_wp2_with fail
  go_loop [4, 3] (fun vv cv => ∃ v c : Nat, v ≤ n ∧ vv = .int .i64 v ∧ cv = .int .i64 c ∧ Hid (c = (edgesTo k g v 0).length)) (fun vv _ => n - (intOf vv).toNat)
  case atStart => exact ⟨0, 0, by omega, rfl, rfl, Lib.hid rfl⟩
  case round =>
    obtain ⟨v, c, hv, rfl, rfl, HC⟩ := hrel
    by_cases hlt : v < n
    · obtain ⟨r, hr⟩ : ∃ r, g[v]? = some r := ⟨_, List.getElem?_eq_getElem (by rw [HN.out]; exact hlt)⟩
      obtain ⟨hl1, hl2⟩ := HROW.out r (List.mem_of_getElem? hr)
      have v0 : (0 : Int) ≤ v := by omega
      have v1 : (v : Int) < n := by omega
      obtain ⟨b1, v1', hva, d1, e1⟩ := H1.out.at_ (Below.refl _ _) hr
      subst hva
      obtain ⟨a2, c2, rfl, q1, q2⟩ := e1.shape hl1
      have HE1 := Lib.hid e1
      have HL2 := Lib.hid hl2
      have HL1 := Lib.hid hl1
      have HR := Lib.hid hr
      clear e1 hl2 hr hl1
      go_wp2_with fail
      go_loop [5, 3] (fun iv cv => ∃ j c : Nat, j ≤ k ∧ iv = .int .i64 ((2 * j : Nat) : Int) ∧ cv = .int .i64 c ∧ Hid (c = (edgesTo k g v j).length)) (fun iv _ => K - (intOf iv).toNat)
      case atStart => exact ⟨0, c, by omega, rfl, rfl, HC⟩
      case round =>
        clear HC
        obtain ⟨j, c, hj, rfl, rfl, HC⟩ := hrel
        obtain ⟨i, hi⟩ : ∃ i, 2 * j = i := ⟨_, rfl⟩
        rw [hi]
        have HI := Lib.hid hi
        have hKK := HK.out
        have hcl := HLEN.out v j hv hj
        rw [← HC.out] at hcl
        by_cases hlj : j < k
        · have hiK : i < K := by omega
          obtain ⟨x, hx⟩ : ∃ x, r[i]? = some x := ⟨_, List.getElem?_eq_getElem (by rw [HL1.out]; exact hiK)⟩
          obtain ⟨b2, rfl, d2⟩ := HE1.out.at_ (Below.refl _ _) hx
          obtain ⟨hx1, hx2⟩ := HL2.out x (List.mem_of_getElem? hx)
          have hxo : x = optI (nxT g v i) := (nxT_opt (by unfold atG; rw [HR.out]; exact hx) hx1).symm
          have hst := edges_step k g v j
          rw [hi] at hst
          have i0 : (0 : Int) ≤ i := by omega
          have i1 : (i : Int) < K := by omega
          have hi2 : ((i : Int) + 2) = ((i + 2 : Nat) : Int) := by omega
          have hi3 : ((2 * (j + 1) : Nat) : Int) = ((i + 2 : Nat) : Int) := by omega
          by_cases hx0 : 0 ≤ x
          · have G1 : Hid (c + 1 = (edgesTo k g v (j + 1)).length) := Lib.hid (by
              rw [hst, List.length_append, ← HC.out]
              cases hq : nxT g v i with
              | none => rw [hq] at hxo; have : x = -1 := hxo; omega
              | some u => unfold edgeAt; rw [hq]; rfl)
            have HI3 := Lib.hid hi3
            clear hx hxo hst hi hKK hi2 hi3
            go_wp2_with fail
            go_round
            case rel => exact ⟨j + 1, c + 1, by omega, by rw [HI3.out]; go_num, by go_num, G1⟩
            case measure => simp [intOf]; omega
          · have G1 : Hid (c = (edgesTo k g v (j + 1)).length) := Lib.hid (by
              rw [hst, List.length_append, ← HC.out]
              cases hq : nxT g v i with
              | none => unfold edgeAt; rw [hq]; rfl
              | some u => rw [hq] at hxo; have : x = (u : Int) := hxo; omega)
            have HI3 := Lib.hid hi3
            clear hx hxo hst hi hKK hi2 hi3
            go_wp2_with fail
            go_round
            case rel => exact ⟨j + 1, c, by omega, by rw [HI3.out]; go_num, rfl, G1⟩
            case measure => simp [intOf]; omega
        · obtain rfl : j = k := by omega
          obtain rfl : i = K := by omega
          have hc := HC.out
          rw [edges_next] at hc
          have G1 := Lib.hid hc
          clear hc hi hKK
          go_wp2_with fail
          go_round
          case rel => exact ⟨v + 1, c, by omega, by go_num, rfl, G1⟩
          case measure => simp [intOf]; omega
    · obtain rfl : v = n := by omega
      have hc := HC.out
      rw [HF.out] at hc
      have HC2 := Lib.hid hc
      clear hc
      go_wp2_with fail
      go_ret
      exact ⟨by rw [← HC2.out]; rfl, HB.out⟩
end Go.Proofs.Ytlooclpfoeakgaa

/- The reference's Rank, Index, Has; Same of two words; the group of words: the walks. -/
namespace Go.Proofs.Ytlooclpfoeakgaa
open Go.RowKit

set_option maxRecDepth 100000 in
set_option maxHeartbeats 2000000 in
theorem rRank_any (w : World) (k : Nat) (rv : Value) (g : List (List Int)) (h : RowsR w rv g) (hg : GoodG k g) :
    Calls Try.prog 28 #[.agg #[.int .i64 k, rv]] w fun e w' => e = .returned (.int .i64 (1 - (g.length : Int) + (edgesTo k g g.length 0).length)) ∧ Below w.heap.size w w' := by
  obtain ⟨w1, hw1⟩ : ∃ w1, w1 = w.alloc (.cells #[.int .i64 k, rv] 32) := ⟨_, rfl⟩
  have hb1 : Below w.heap.size w w1 := by rw [hw1]; exact (Below.refl _ w).alloc (Nat.le_refl _) _
  have hx1 : Blk w1 w.heap.size 32 [.int .i64 k, rv] := by rw [hw1]; exact Blk.new w 32 [.int .i64 k, rv]
  have h1 := h.keep hb1
  obtain ⟨n, hn⟩ : ∃ n, g.length = n := ⟨_, rfl⟩
  obtain ⟨va, vc, rfl, hv1, hv2⟩ := h1.shape hn
  have hn5 := hg.n5
  rw [hn] at hn5
  have hk4 := hg.k4
  have c0 := hx1.cell (j := 0) rfl
  have c1 := hx1.cell (j := 1) rfl
  have hS : ∀ wx, Below w1.heap.size w1 wx → wx.cell? ⟨w.heap.size, 0, none⟩ = some (.int .i64 k) ∧ wx.cell? ⟨w.heap.size, 1, none⟩ = some (.slice va n vc) := fun wx hb => ⟨(hx1.keep hb).cell (j := 0) rfl, (hx1.keep hb).cell (j := 1) rfl⟩
  have HS := Lib.hid hS
  have HB := Lib.hid hb1
  have hed := fun wx (hb : Below w1.heap.size w1 wx) => rEdges_any wx k _ g (h1.keep hb) hg
  have hel : (edgesE k g).length ≤ 25000 := by
    have h1 := edges_len k g g.length 0
    rw [hn] at h1
    have h2 : n * k ≤ 5000 * 4 := Nat.mul_le_mul hn5 hk4
    unfold edgesE
    rw [hn]; omega
  rw [show (edgesTo k g g.length 0) = edgesE k g from rfl]
  obtain ⟨E, hE⟩ : ∃ E, (edgesE k g).length = E := ⟨_, rfl⟩
  rw [hE] at hed hel ⊢
  rw [hn]
  have HED := Lib.hid hed
  have hf : Ending.returned (.int .i64 ((E : Int) - n + 1)) = Ending.returned (.int .i64 (1 - (n : Int) + E)) := by congr 2; omega
  have hwa : IntKind.i64.wrap ((E : Int) - n) = (E : Int) - n := by rw [IntKind.wrap_i64]; omega
  have hwb : IntKind.i64.wrap ((E : Int) - n + 1) = (E : Int) - n + 1 := by rw [IntKind.wrap_i64]; omega
  have HF := Lib.hid hf
  clear h h1 hx1 hb1 hn hg hS hed hf hE
  go_enter Try.func28, Try.ntmps28
  go_upto_region 1 with fail
  rw [← hw1]
  clear hw1
  refine wp_region_held_drew (S := fun w' => w'.cell? ⟨w.heap.size, 0, none⟩ = some (.int .i64 k) ∧ w'.cell? ⟨w.heap.size, 1, none⟩ = some (.slice va n vc)) (by kernel_rfl) (HS.out _ ((Below.refl _ _).drewN' 1)) (fun hHeld => ?_)
  refine takeH 0 (v := ?_) rfl (by kernel_rfl) (by kernel_rfl) (by kernel_rfl) (fun _ _ _ h => h) (by rfl) ?_ hHeld ?_
  rotate_left
  · (intro w hSw; (try dsimp only at hSw); go_simp; try with_reducible rfl)
  try simp only [Act.put, List.setIfInBounds_toArray, List.set_cons_zero, List.set_cons_succ]
  refine takeH 2 (v := ?_) rfl (by kernel_rfl) (by kernel_rfl) (by kernel_rfl) (fun _ _ _ h => h) (by rfl) ?_ hHeld ?_
  rotate_left
  · (intro w hSw; (try dsimp only at hSw); go_simp; try with_reducible rfl)
  try simp only [Act.put, List.setIfInBounds_toArray, List.set_cons_zero, List.set_cons_succ]
  refine takeH 3 (v := ?_) rfl (by kernel_rfl) (by kernel_rfl) (by kernel_rfl) (fun _ _ _ h => h) (by rfl) ?_ hHeld ?_
  rotate_left
  · (intro w hSw; (try dsimp only at hSw); go_simp; try with_reducible rfl)
  try simp only [Act.put, List.setIfInBounds_toArray, List.set_cons_zero, List.set_cons_succ]
  refine takeH 4 (v := ?_) rfl (by kernel_rfl) (by kernel_rfl) (by kernel_rfl) (fun _ _ _ h => h) (by rfl) ?_ hHeld ?_
  rotate_left
  · (intro w hSw; (try dsimp only at hSw); go_simp; try with_reducible rfl)
  try simp only [Act.put, List.setIfInBounds_toArray, List.set_cons_zero, List.set_cons_succ]
  refine oneH 1 (by kernel_rfl) rfl (fun K hK => ?_)
  go_simp
  go_at_call 73
  refine (HED.out _ ((Below.refl _ _).drewN' 1)).mono ?_
  rintro e w3 ⟨rfl, hb3⟩
  have hb3' : Below w1.heap.size w1 w3 := ((Below.refl _ w1).drewN' 1).trans (by exact hb3)
  dsimp only
  refine hK.out _ _ (HS.out _ hb3') (fun hHeld => ?_)
  clear hK K
  try simp only [Act.put, List.setIfInBounds_toArray, List.set_cons_zero, List.set_cons_succ]
  refine takeH 5 (v := ?_) rfl (by kernel_rfl) (by kernel_rfl) (by kernel_rfl) (fun _ _ _ h => h) (by rfl) ?_ hHeld ?_
  rotate_left
  · (intro w hSw; (try dsimp only at hSw); go_simp; try with_reducible rfl)
  try simp only [Act.put, List.setIfInBounds_toArray, List.set_cons_zero, List.set_cons_succ]
  refine takeH 6 (v := ?_) rfl (by kernel_rfl) (by kernel_rfl) (by kernel_rfl) (fun _ _ _ h => h) (by rfl) ?_ hHeld ?_
  rotate_left
  · (intro w hSw; (try dsimp only at hSw); go_simp; try with_reducible rfl)
  try simp only [Act.put, List.setIfInBounds_toArray, List.set_cons_zero, List.set_cons_succ]
  refine takeH 7 (v := ?_) rfl (by kernel_rfl) (by kernel_rfl) (by kernel_rfl) (fun _ _ _ h => h) (by rfl) ?_ hHeld ?_
  rotate_left
  · (intro w hSw; (try dsimp only at hSw); go_simp; try with_reducible rfl)
  try simp only [Act.put, List.setIfInBounds_toArray, List.set_cons_zero, List.set_cons_succ]
  refine wpAnyH_done (by kernel_rfl) ?_ _
  go_wp2_with fail
  go_ret
  exact ⟨HF.out, HB.out.trans (hb3'.mono HB.out.size)⟩

set_option maxRecDepth 100000 in
set_option maxHeartbeats 2000000 in
theorem rIndex_any (w : World) (k : Nat) (rv : Value) (g : List (List Int)) (h : RowsR w rv g) (hg : GoodG k g) :
    Calls Try.prog 27 #[.agg #[.int .i64 k, rv]] w fun e w' => e = .returned (.tuple #[.int .i64 (if wholeG g = true then (g.length : Int) else 0), .bool (wholeG g)]) ∧ Below w.heap.size w w' := by
  obtain ⟨w1, hw1⟩ : ∃ w1, w1 = w.alloc (.cells #[.int .i64 k, rv] 32) := ⟨_, rfl⟩
  have hb1 : Below w.heap.size w w1 := by rw [hw1]; exact (Below.refl _ w).alloc (Nat.le_refl _) _
  have hx1 : Blk w1 w.heap.size 32 [.int .i64 k, rv] := by rw [hw1]; exact Blk.new w 32 [.int .i64 k, rv]
  have h1 := h.keep hb1
  obtain ⟨n, hn⟩ : ∃ n, g.length = n := ⟨_, rfl⟩
  obtain ⟨va, vc, rfl, hv1, hv2⟩ := h1.shape hn
  have hn5 := hg.n5
  rw [hn] at hn5
  have hk4 := hg.k4
  have c0 := hx1.cell (j := 0) rfl
  have c1 := hx1.cell (j := 1) rfl
  have hS : ∀ wx, Below w1.heap.size w1 wx → wx.cell? ⟨w.heap.size, 0, none⟩ = some (.int .i64 k) ∧ wx.cell? ⟨w.heap.size, 1, none⟩ = some (.slice va n vc) := fun wx hb => ⟨(hx1.keep hb).cell (j := 0) rfl, (hx1.keep hb).cell (j := 1) rfl⟩
  have HS := Lib.hid hS
  have HB := Lib.hid hb1
  have hed := fun wx (hb : Below w1.heap.size w1 wx) => rEdges_any wx k _ g (h1.keep hb) hg
  have hwc := whole_count hg
  obtain ⟨E, hE⟩ : ∃ E, (edgesE k g).length = E := ⟨_, rfl⟩
  rw [hE] at hed hwc
  rw [hn] at hwc ⊢
  have h25 : n * k ≤ 5000 * 4 := Nat.mul_le_mul hn5 hk4
  obtain ⟨M, hM⟩ : ∃ M, n * k = M := ⟨_, rfl⟩
  rw [hM] at hwc h25
  have hMI : (k : Int) * n = M := by rw [← hM]; push_cast; exact Int.mul_comm _ _
  have hMW : IntKind.i64.wrap (M : Int) = M := by rw [IntKind.wrap_i64]; omega
  have HED := Lib.hid hed
  clear h h1 hx1 hb1 hn hg hS hed hE hM
  obtain ⟨wh, hwh⟩ : ∃ b, wholeG g = b := ⟨_, rfl⟩
  rw [hwh] at hwc ⊢
  clear hwh
  have hEM : (!((E : Int) == (M : Int))) = !wh := by
    congr 1
    rw [Bool.eq_iff_iff, beq_iff_eq]
    rw [hwc]
    omega
  clear hwc
  cases wh
  all_goals
    go_enter Try.func27, Try.ntmps27
    go_upto_region 1 with fail
    rw [← hw1]
    clear hw1
    go_cut [12] (fun s wc => s = .bool (!((E : Int) == (M : Int))) ∧ Hid (Below w1.heap.size w1 wc))
    case first =>
      refine wp_region_held_drew (S := fun w' => w'.cell? ⟨w.heap.size, 0, none⟩ = some (.int .i64 k) ∧ w'.cell? ⟨w.heap.size, 1, none⟩ = some (.slice va n vc)) (by kernel_rfl) (HS.out _ ((Below.refl _ _).drewN' 1)) (fun hHeld => ?_)
      refine takeH 0 (v := ?_) rfl (by kernel_rfl) (by kernel_rfl) (by kernel_rfl) (fun _ _ _ h => h) (by rfl) ?_ hHeld ?_
      rotate_left
      · (intro w hSw; (try dsimp only at hSw); go_simp; try with_reducible rfl)
      try simp only [Act.put, List.setIfInBounds_toArray, List.set_cons_zero, List.set_cons_succ]
      refine takeH 2 (v := ?_) rfl (by kernel_rfl) (by kernel_rfl) (by kernel_rfl) (fun _ _ _ h => h) (by rfl) ?_ hHeld ?_
      rotate_left
      · (intro w hSw; (try dsimp only at hSw); go_simp; try with_reducible rfl)
      try simp only [Act.put, List.setIfInBounds_toArray, List.set_cons_zero, List.set_cons_succ]
      refine takeH 3 (v := ?_) rfl (by kernel_rfl) (by kernel_rfl) (by kernel_rfl) (fun _ _ _ h => h) (by rfl) ?_ hHeld ?_
      rotate_left
      · (intro w hSw; (try dsimp only at hSw); go_simp; try with_reducible rfl)
      try simp only [Act.put, List.setIfInBounds_toArray, List.set_cons_zero, List.set_cons_succ]
      refine takeH 4 (v := ?_) rfl (by kernel_rfl) (by kernel_rfl) (by kernel_rfl) (fun _ _ _ h => h) (by rfl) ?_ hHeld ?_
      rotate_left
      · (intro w hSw; (try dsimp only at hSw); go_simp; try with_reducible rfl)
      try simp only [Act.put, List.setIfInBounds_toArray, List.set_cons_zero, List.set_cons_succ]
      refine takeH 5 (v := ?_) rfl (by kernel_rfl) (by kernel_rfl) (by kernel_rfl) (fun _ _ _ h => h) (by rfl) ?_ hHeld ?_
      rotate_left
      · (intro w hSw; (try dsimp only at hSw); go_simp; try with_reducible rfl)
      try simp only [Act.put, List.setIfInBounds_toArray, List.set_cons_zero, List.set_cons_succ]
      refine takeH 6 (v := ?_) rfl (by kernel_rfl) (by kernel_rfl) (by kernel_rfl) (fun _ _ _ h => h) (by rfl) ?_ hHeld ?_
      rotate_left
      · (intro w hSw; (try dsimp only at hSw); go_simp; try with_reducible rfl)
      try simp only [Act.put, List.setIfInBounds_toArray, List.set_cons_zero, List.set_cons_succ]
      refine takeH 7 (v := ?_) rfl (by kernel_rfl) (by kernel_rfl) (by kernel_rfl) (fun _ _ _ h => h) (by rfl) ?_ hHeld ?_
      rotate_left
      · (intro w hSw; (try dsimp only at hSw); go_simp; try with_reducible rfl)
      try simp only [Act.put, List.setIfInBounds_toArray, List.set_cons_zero, List.set_cons_succ]
      refine oneH 1 (by kernel_rfl) rfl (fun K hK => ?_)
      go_simp
      go_at_call 73
      refine (HED.out _ ((Below.refl _ _).drewN' 1)).mono ?_
      rintro e w3 ⟨rfl, hb3⟩
      have hb3' : Below w1.heap.size w1 w3 := ((Below.refl _ w1).drewN' 1).trans (by exact hb3)
      dsimp only
      refine hK.out _ _ (HS.out _ hb3') (fun hHeld => ?_)
      clear hK K
      try simp only [Act.put, List.setIfInBounds_toArray, List.set_cons_zero, List.set_cons_succ]
      refine takeH 8 (v := ?_) rfl (by kernel_rfl) (by kernel_rfl) (by kernel_rfl) (fun _ _ _ h => h) (by rfl) ?_ hHeld ?_
      rotate_left
      · (intro w hSw; (try dsimp only at hSw); go_simp; try with_reducible rfl)
      try simp only [Act.put, List.setIfInBounds_toArray, List.set_cons_zero, List.set_cons_succ]
      refine wpAnyH_done (by kernel_rfl) ?_ _
      go_wp2_with fail
      go_meet
      exact ⟨by rfl, Lib.hid hb3'⟩
    case rest =>
      obtain ⟨hs, HBC⟩ := hcut
      rw [hEM] at hs
      subst hs
      have e1 := (HS.out _ HBC.out).2
      have HB3 := Lib.hid (HB.out.trans (HBC.out.mono HB.out.size))
      go_wp2_with fail
      go_ret2
      exact ⟨rfl, HB3.out⟩

set_option maxRecDepth 100000 in
set_option maxHeartbeats 2000000 in
theorem rHas_any (w : World) (k : Nat) (rv : Value) (g : List (List Int)) (h : RowsR w rv g) (hg : GoodG k g) (s : ByteArray) (hs : s.size < 100000000) (hw : isWord (bts s) = true) (hf : fitW k (bts s) = true) :
    Calls Try.prog 33 #[.agg #[.int .i64 k, rv], .string s] w fun e w' => e = .returned (.bool (inG k g (bts s))) ∧ Below w.heap.size w w' := by
  obtain ⟨w1, hw1⟩ : ∃ w1, w1 = w.alloc (.cells #[.int .i64 k, rv] 32) := ⟨_, rfl⟩
  have hb1 : Below w.heap.size w w1 := by rw [hw1]; exact (Below.refl _ w).alloc (Nat.le_refl _) _
  have hx1 : Blk w1 w.heap.size 32 [.int .i64 k, rv] := by rw [hw1]; exact Blk.new w 32 [.int .i64 k, rv]
  have h1 := h.keep hb1
  obtain ⟨n, hn⟩ : ∃ n, g.length = n := ⟨_, rfl⟩
  obtain ⟨va, vc, rfl, hv1, hv2⟩ := h1.shape hn
  have hn5 := hg.n5
  rw [hn] at hn5
  have hk4 := hg.k4
  have c0 := hx1.cell (j := 0) rfl
  have c1 := hx1.cell (j := 1) rfl
  have hS : ∀ wx, Below w1.heap.size w1 wx → wx.cell? ⟨w.heap.size, 0, none⟩ = some (.int .i64 k) ∧ wx.cell? ⟨w.heap.size, 1, none⟩ = some (.slice va n vc) := fun wx hb => ⟨(hx1.keep hb).cell (j := 0) rfl, (hx1.keep hb).cell (j := 1) rfl⟩
  have HS := Lib.hid hS
  have HB := Lib.hid hb1
  obtain ⟨R, hR⟩ : ∃ R, strB (redW (bts s)) = R := ⟨_, rfl⟩
  have hRb : bts R = redW (bts s) := by rw [← hR]
  have hRs : R.size ≤ s.size := by rw [← bts_len, hRb]; exact Nat.le_trans (redW_len _) (by rw [bts_len]; exact Nat.le_refl _)
  have hrd := fun wx => rReduce_any s wx hw (by omega)
  rw [hR] at hrd
  have hwy := fun wx (hb : Below w1.heap.size w1 wx) => rWay_any wx k _ g (h1.keep hb) hg 0 hg.n1 R (by omega) (by rw [hRb]; exact isWord_red hw) (by rw [hRb]; exact List.all_eq_true.2 fun c hc => List.all_eq_true.1 hf c (redW_sub hc))
  obtain ⟨z, hz⟩ : ∃ z, optI (runS (stepL k (nxT g)) 0 (bts R)) = z := ⟨_, rfl⟩
  rw [hz] at hwy
  have hin : inG k g (bts s) = decide (z = 0) := by
    unfold inG
    rw [← hRb, ← hz]
    exact Bool.eq_iff_iff.2 (by rw [decide_eq_true_iff, decide_eq_true_iff]; exact optI_zero.symm)
  have HRD := Lib.hid hrd
  have HWY := Lib.hid hwy
  have HIN := Lib.hid hin
  clear h h1 hx1 hb1 hn hg hS hrd hwy hin hz hRb hRs hw hf hR
  go_enter Try.func33, Try.ntmps33
  go_upto_region 1 with fail
  rw [← hw1]
  clear hw1
  refine wp_region_held_drew (S := fun w' => w'.cell? ⟨w.heap.size, 0, none⟩ = some (.int .i64 k) ∧ w'.cell? ⟨w.heap.size, 1, none⟩ = some (.slice va n vc)) (by kernel_rfl) (HS.out _ ((Below.refl _ _).drewN' 1)) (fun hHeld => ?_)
  refine takeH 0 (v := ?_) rfl (by kernel_rfl) (by kernel_rfl) (by kernel_rfl) (fun _ _ _ h => h) (by rfl) ?_ hHeld ?_
  rotate_left
  · (intro w hSw; (try dsimp only at hSw); go_simp; try with_reducible rfl)
  try simp only [Act.put, List.setIfInBounds_toArray, List.set_cons_zero, List.set_cons_succ]
  refine takeH 1 (v := ?_) rfl (by kernel_rfl) (by kernel_rfl) (by kernel_rfl) (fun _ _ _ h => h) (by rfl) ?_ hHeld ?_
  rotate_left
  · (intro w hSw; (try dsimp only at hSw); go_simp; try with_reducible rfl)
  try simp only [Act.put, List.setIfInBounds_toArray, List.set_cons_zero, List.set_cons_succ]
  refine oneH 2 (by kernel_rfl) rfl (fun K hK => ?_)
  go_simp
  go_at_call 66
  refine (HRD.out _).mono ?_
  rintro e w3 ⟨rfl, hb3⟩
  have hb3' : Below w1.heap.size w1 w3 := ((Below.refl _ w1).drewN' 1).trans (by exact hb3)
  dsimp only
  refine hK.out _ _ (HS.out _ hb3') (fun hHeld => ?_)
  clear hK K
  try simp only [Act.put, List.setIfInBounds_toArray, List.set_cons_zero, List.set_cons_succ]
  refine oneH 3 (by kernel_rfl) rfl (fun K hK => ?_)
  go_simp
  go_at_call 49
  refine (HWY.out _ hb3').mono ?_
  rintro e w4 ⟨rfl, hb4⟩
  have hb4' : Below w1.heap.size w1 w4 := hb3'.trans (hb4.mono hb3'.size)
  dsimp only
  refine hK.out _ _ (HS.out _ hb4') (fun hHeld => ?_)
  clear hK K
  try simp only [Act.put, List.setIfInBounds_toArray, List.set_cons_zero, List.set_cons_succ]
  refine takeH 4 (v := ?_) rfl (by kernel_rfl) (by kernel_rfl) (by kernel_rfl) (fun _ _ _ h => h) (by rfl) ?_ hHeld ?_
  rotate_left
  · (intro w hSw; (try dsimp only at hSw); go_simp; try with_reducible rfl)
  try simp only [Act.put, List.setIfInBounds_toArray, List.set_cons_zero, List.set_cons_succ]
  refine takeH 5 (v := ?_) rfl (by kernel_rfl) (by kernel_rfl) (by kernel_rfl) (fun _ _ _ h => h) (by rfl) ?_ hHeld ?_
  rotate_left
  · (intro w hSw; (try dsimp only at hSw); go_simp; try with_reducible rfl)
  try simp only [Act.put, List.setIfInBounds_toArray, List.set_cons_zero, List.set_cons_succ]
  refine wpAnyH_done (by kernel_rfl) ?_ _
  go_wp2_with fail
  go_ret
  exact ⟨by rw [HIN.out]; rfl, HB.out.trans (hb4'.mono HB.out.size)⟩

set_option maxHeartbeats 1000000 in
theorem rSameW_true (w : World) (s t : ByteArray) (h1 : isWord (bts s) = true) (h2 : isWord (bts t) = true) (hs : s.size < 100000000) (ht : t.size < 100000000) (h : redW (bts s) = redW (bts t)) :
    Calls Try.prog 36 #[.string s, .string t] w fun e w' => e = .returned (.bool true) ∧ Below w.heap.size w w' := by
  have ha := fun wx => rReduce_any s wx h1 hs
  have hb := fun wx => rReduce_any t wx h2 ht
  rw [h] at ha
  obtain ⟨R, hR⟩ : ∃ R, strB (redW (bts t)) = R := ⟨_, rfl⟩
  rw [hR] at ha hb
  have HA := Lib.hid ha
  have HBB := Lib.hid hb
  clear ha hb h h1 h2 hs ht hR
  go_enter Try.func36, Try.ntmps36
  go_wp2_with (first
    | ((with_reducible refine (HA.out _).mono ?_); rintro e w2 ⟨rfl, hb2⟩; have HB2 := Lib.hid hb2; clear hb2)
    | ((with_reducible refine (HBB.out _).mono ?_); rintro e w3 ⟨rfl, hb3⟩; have HB3 := Lib.hid (HB2.out.trans (hb3.mono HB2.out.size)); clear hb3))
  go_ret
  exact ⟨rfl, HB3.out⟩
end Go.Proofs.Ytlooclpfoeakgaa

/- The reference's Express; the program's at what is not in the group; the group of words: the walks. -/
namespace Go.Proofs.Ytlooclpfoeakgaa
open Go.RowKit

theorem IsGraph.of_red {k : Nat} {ss : List ByteArray} {g : List (List Int)} (h : IsGraph k (setR ss) g) : IsGraph k (setS ss) g := by
  obtain ⟨nx, o, hG, hb, e⟩ := h
  exact ⟨nx, o, ⟨hG.fold, hG.core, fun x hx => (hG.loops x hx).trans (gen_red (S := setS ss))⟩, hb, e⟩
theorem numR_at {k : Nat} {g : List (List Int)} {v : Nat} (hv : v < g.length) : (numR k g)[v]? = some ((List.range k).map fun i => numQ k g v (2 * i)) := by
  unfold numR
  rw [List.getElem?_map, List.getElem?_range hv]; rfl
theorem numR_row {k : Nat} {g : List (List Int)} {v i : Nat} (hi : i < k) : ((List.range k).map fun i => numQ k g v (2 * i))[i]? = some (numQ k g v (2 * i)) := by
  rw [List.getElem?_map, List.getElem?_range hi]; rfl
theorem bts_one {s : ByteArray} {i : Nat} (h : i < s.size) : bts (s.extract i (i + 1)) = [s[i]'h] := by
  have h1 : bts (s.extract i (i + 1)) = ((bts s).drop i).take 1 := by
    show (s.extract i (i + 1)).data.toList = _
    rw [ByteArray.data_extract, Array.toList_extract]
    simp [List.extract]
  rw [h1, List.drop_eq_getElem_cons (by rw [bts_len]; exact h)]
  simp
  rfl
/-- the number of an edge by its letter, out of those of the small letters -/
theorem num_small {k : Nat} {g : List (List Int)} (hg : GoodG k g) {v t : Nat} {c : UInt8} (h : stG k g v c = some t) :
    (97 ≤ c.toNat → c.toNat - 97 < k ∧ numQ k g v (placeB c) = numQ k g v (2 * (c.toNat - 97))) ∧ (¬ 97 ≤ c.toNat → c.toNat - 65 < k ∧ numQ k g v (placeB c) = - numQ k g t (2 * (c.toNat - 65))) := by
  obtain ⟨h1, h2, h3, -⟩ := stG_some h
  have hk4 := hg.k4
  refine ⟨fun hc => ?_, fun hc => ?_⟩
  · have : placeB c = 2 * (c.toNat - 97) := by unfold placeB; rw [if_pos hc]
    rw [this] at h2 ⊢
    exact ⟨by omega, rfl⟩
  · have hp : placeB c = 2 * (c.toNat - 65) + 1 := by unfold placeB; rw [if_neg hc]
    have h4 := (edge_num hg h3).1
    have hx := (xor_pair (c.toNat - 65) (by omega)).2
    rw [hp, hx] at h4
    rw [hp]
    refine ⟨by omega, by omega⟩

set_option maxRecDepth 100000 in
set_option maxHeartbeats 4000000 in
theorem rExpress_any (w : World) (k : Nat) (rv : Value) (g : List (List Int)) (h : RowsR w rv g) (hg : GoodG k g) (s : ByteArray) (hs : s.size < 1000000) (hw : isWord (bts s) = true) (hf : fitW k (bts s) = true) (hin : inG k g (bts s) = true) :
    Calls Try.prog 35 #[.agg #[.int .i64 k, rv], .string s] w fun e w' => ∃ v, e = .returned v ∧ IntsR w' v (exprQ k g 0 (redW (bts s))) ∧ Below w.heap.size w w' := by
  obtain ⟨w1, hw1⟩ : ∃ w1, w1 = w.alloc (.cells #[.int .i64 k, rv] 32) := ⟨_, rfl⟩
  have hb1 : Below w.heap.size w w1 := by rw [hw1]; exact (Below.refl _ w).alloc (Nat.le_refl _) _
  have hx1 : Blk w1 w.heap.size 32 [.int .i64 k, rv] := by rw [hw1]; exact Blk.new w 32 [.int .i64 k, rv]
  have h1 := h.keep hb1
  have hrd := fun wx => rReduce_any s wx hw (by omega)
  have hrun : runS (stG k g) 0 (redW (bts s)) = some 0 := of_decide_eq_true hin
  obtain ⟨W, hWW⟩ : ∃ W, strB (redW (bts s)) = W := ⟨_, rfl⟩
  have hWb : bts W = redW (bts s) := by rw [← hWW]
  have hWs : W.size ≤ s.size := by rw [← bts_len, hWb]; exact Nat.le_trans (redW_len _) (by rw [bts_len]; exact Nat.le_refl _)
  have hWw : isWord (bts W) = true := by rw [hWb]; exact isWord_red hw
  have hWf : fitW k (bts W) = true := by
    rw [hWb]
    exact List.all_eq_true.2 fun c hc => List.all_eq_true.1 hf c (redW_sub hc)
  rw [hWW] at hrd
  rw [← hWb] at hrun ⊢
  obtain ⟨n, hn⟩ : ∃ n, g.length = n := ⟨_, rfl⟩
  obtain ⟨va, vc, rfl, hv1, hv2⟩ := h1.shape hn
  have hba := rBasis_any w1 k _ g h1 hg
  have hn5 : n ≤ 5000 := by rw [← hn]; exact hg.n5
  have hn1 : 1 ≤ n := by rw [← hn]; exact hg.n1
  have hk4 := hg.k4
  have hlet : ∀ c ∈ bts W, letter c.toNat = true ∧ placeB c < 2 * k := fun c hc => ⟨List.all_eq_true.1 (show (bts W).all _ = true from hWw) c hc, of_decide_eq_true (List.all_eq_true.1 hWf c hc)⟩
  have c0 := hx1.cell (j := 0) rfl
  have c1 := hx1.cell (j := 1) rfl
  have HRUN := Lib.hid hrun
  have HLET := Lib.hid hlet
  have HRD := Lib.hid hrd
  have HBA := Lib.hid hba
  have HX := Lib.hid hx1
  have HB := Lib.hid hb1
  have H1 := Lib.hid h1
  have HN := Lib.hid hn
  have HG := Lib.hid hg
  clear h h1 hx1 hb1 hg hrd hba hWb hWw hWf hWW hw hf hrun hlet hn hin
  go_enter Try.func35, Try.ntmps35
  go_upto_region 1 with fail
  rw [← hw1]
  clear hw1
  go_upto_region 2 with (go_at_call 26; refine HBA.out.mono ?_; rintro e w2 ⟨bv, nv, rfl, -, hnv, hb2⟩)
  obtain ⟨na, nc, rfl, -, -⟩ := hnv.shape (n := n) (by unfold numR; rw [List.length_map, List.length_range, HN.out])
  have HNV := Lib.hid hnv
  have HB2 := Lib.hid hb2
  clear hb2 hnv HBA c0 c1
  go_upto_region 3 with (go_at_call 66; refine (HRD.out _).mono ?_; rintro e w4 ⟨rfl, hb4⟩)
  have HB24 := Lib.hid hb4
  have HB4 : Hid (Below w1.heap.size w1 w4) := Lib.hid (HB2.out.trans (hb4.mono HB2.out.size))
  have HV0 : Hid (Below w4.heap.size w4 w4) := Lib.hid (Below.refl _ _)
  have HO0 : Hid (Own w4 w4.heap.size 3 (.slice none 0 0) (exprQ k g 0 ((bts W).take 0))) := Lib.hid (Own.nil _ _ _)
  have HU0 : Hid (runS (stG k g) 0 ((bts W).take 0) = some 0 ∧ 0 < n) := Lib.hid ⟨rfl, by omega⟩
  clear hb4
  go_wp2_with fail
  go_loopw [9, 7, 8] (fun iv ov vv wr => ∃ (j u : Nat) (lw : Value), j ≤ W.size ∧ iv = .int .i64 j ∧ lw = ov ∧ vv = .int .i64 u ∧ Hid (runS (stG k g) 0 ((bts W).take j) = some u ∧ u < n) ∧ Hid (Own wr w4.heap.size 3 lw (exprQ k g 0 ((bts W).take j))) ∧ Hid (Below w4.heap.size w4 wr)) (fun iv _ _ _ => W.size - (intOf iv).toNat)
  case atStart => exact ⟨0, 0, _, by omega, rfl, rfl, rfl, HU0, HO0, HV0⟩
  case round =>
    clear HU0 HO0 HV0
    obtain ⟨j, u, lw, hj, rfl, rfl, rfl, HU, HO, HV⟩ := hrel
    by_cases hlt : j < W.size
    · have hu := HU.out.2
      have HBW : Hid (Below w1.heap.size w1 wr) := Lib.hid (HB4.out.trans (HV.out.mono HB4.out.size))
      have hcj := bts_get hlt
      obtain ⟨c, hcc⟩ : ∃ c, W[j]'hlt = c := ⟨_, rfl⟩
      rw [hcc] at hcj
      obtain ⟨hcl, hcp⟩ := HLET.out c (List.mem_of_getElem? hcj)
      have hwt : (bts W).take (j + 1) = (bts W).take j ++ [c] := by rw [List.take_add_one, hcj]; rfl
      obtain ⟨t, hst⟩ : ∃ t, stG k g u c = some t := by
        cases hq : stG k g u c with
        | some t => exact ⟨t, rfl⟩
        | none =>
          have h9 : runS (stG k g) 0 ((bts W).take (j + 1)) = none := by
            rw [hwt, leads_snoc, HU.out.1]; exact hq
          have := leads_stop h9
          rw [HRUN.out] at this
          cases this
      have hbt : t < n := by have := (nxT_bounds HG.out (stG_some hst).2.2.1).2.2; rw [HN.out] at this; exact this
      have hrunt : runS (stG k g) 0 ((bts W).take (j + 1)) = some t := by
        rw [hwt, leads_snoc, HU.out.1]; exact hst
      have hex : exprQ k g 0 ((bts W).take (j + 1)) = exprQ k g 0 ((bts W).take j) ++ nzL (numQ k g u (placeB c)) := by
        rw [hwt, expr_app _ HU.out.1, expr_one hst]
      have hnq := numQ_bound HG.out u (placeB c)
      have hbl := basis_len HG.out
      have hel := expr_len (k := k) (g := g) ((bts W).take j) 0
      rw [List.length_take, bts_len] at hel
      obtain ⟨Q, hQ⟩ : ∃ Q, W.extract j (j + 1) = Q := ⟨_, rfl⟩
      have hQb : bts Q = [c] := by rw [← hQ, bts_one hlt, hcc]
      have hQs : Q.size = 1 := by rw [← bts_len, hQb]; rfl
      have hwy := fun wx (hb : Below w1.heap.size w1 wx) => rWay_any wx k _ g (H1.out.keep hb) HG.out u (by rw [HN.out]; exact hu) Q (by omega) (by rw [hQb]; unfold isWord; simp [hcl]) (by rw [hQb]; unfold fitW; simp [hcp])
      rw [hQb, run_one] at hwy
      change ∀ wx, Below w1.heap.size w1 wx → Calls Try.prog 49 _ wx fun e w' => e = .returned (.int .i64 (optI (stG k g u c))) ∧ Below wx.heap.size wx w' at hwy
      rw [hst] at hwy
      change ∀ wx, Below w1.heap.size w1 wx → Calls Try.prog 49 _ wx fun e w' => e = .returned (.int .i64 (t : Int)) ∧ Below wx.heap.size wx w' at hwy
      have hns := num_small HG.out hst
      have hlu := letter_u8 hcl
      have hlo := letter_lo hcl
      have hu8 := c.toNat_lt
      have hS : ∀ wx, Below wr.heap.size wr wx → wx.cell? ⟨w.heap.size, 0, none⟩ = some (.int .i64 k) ∧ wx.cell? ⟨w.heap.size, 1, none⟩ = some (.slice va n vc) := fun wx hb => ⟨(HX.out.keep (HBW.out.trans (hb.mono HBW.out.size))).cell (j := 0) rfl, (HX.out.keep (HBW.out.trans (hb.mono HBW.out.size))).cell (j := 1) rfl⟩
      have G2 := Lib.hid (And.intro hrunt hbt)
      have HEX := Lib.hid hex
      have HSS := Lib.hid hS
      have HWY := Lib.hid hwy
      obtain ⟨E, hE⟩ : ∃ E, exprQ k g 0 ((bts W).take j) = E := ⟨_, rfl⟩
      rw [hE] at hel HEX HO
      obtain ⟨N, hN⟩ : ∃ N, numQ k g u (placeB c) = N := ⟨_, rfl⟩
      rw [hN] at HEX hnq hns
      have i0 : (0 : Int) ≤ u := by omega
      have i1 : (u : Int) < n := by omega
      have t0 : (0 : Int) ≤ t := by omega
      have t1 : (t : Int) < n := by omega
      have j0 : (0 : Int) ≤ j := by omega
      have hsz := HV.out.size
      have j2 : IntKind.i64.wrap ((j : Int) + 1) = (j : Int) + 1 := by rw [IntKind.wrap_i64]; omega
      have j3 : (0 : Int) ≤ (j : Int) + 1 := by omega
      have j4 : ((j : Int) + 1).toNat = j + 1 := by omega
      have j5 : (j : Int) + 1 ≤ W.size := by omega
      have j6 : (j : Int) < W.size := by omega
      have j7 : (j : Int) ≤ (j : Int) + 1 := by omega
      have HNS := Lib.hid hns
      have HLU := Lib.hid hlu
      have HHH := Lib.hid hcc
      clear hcl hcp hwt hst hrunt hex hE hN hQb hwy hns hlu hS hcj hQs hcc
      go_upto_region 8 with fail
      refine wp_region_noPanic ?_
      refine wp_region_held_drew (S := fun w' => w'.cell? ⟨w.heap.size, 0, none⟩ = some (.int .i64 k) ∧ w'.cell? ⟨w.heap.size, 1, none⟩ = some (.slice va n vc)) (by kernel_rfl) (HSS.out _ ((Below.refl _ _).drewN' 1)) (fun hHeld => ?_)
      refine takeH 0 (v := ?_) rfl (by kernel_rfl) (by kernel_rfl) (by kernel_rfl) (fun _ _ _ h => h) (by rfl) ?_ hHeld ?_
      rotate_left
      · (intro w hSw; (try dsimp only at hSw); go_simp; try with_reducible rfl)
      try simp only [Act.put, List.setIfInBounds_toArray, List.set_cons_zero, List.set_cons_succ]
      refine takeH 1 (v := ?_) rfl (by kernel_rfl) (by kernel_rfl) (by kernel_rfl) (fun _ _ _ h => h) (by rfl) ?_ hHeld ?_
      rotate_left
      · (intro w hSw; (try dsimp only at hSw); go_simp; try with_reducible rfl)
      try simp only [Act.put, List.setIfInBounds_toArray, List.set_cons_zero, List.set_cons_succ]
      refine takeH 2 (v := ?_) rfl (by kernel_rfl) (by kernel_rfl) (by kernel_rfl) (fun _ _ _ h => h) (by rfl) ?_ hHeld ?_
      rotate_left
      · (intro w hSw; (try dsimp only at hSw); go_simp; try with_reducible rfl)
      try simp only [Act.put, List.setIfInBounds_toArray, List.set_cons_zero, List.set_cons_succ]
      refine takeH 3 (v := ?_) rfl (by kernel_rfl) (by kernel_rfl) (by kernel_rfl) (fun _ _ _ h => h) (by rfl) ?_ hHeld ?_
      rotate_left
      · (intro w hSw; (try dsimp only at hSw); go_simp; try with_reducible rfl)
      try simp only [Act.put, List.setIfInBounds_toArray, List.set_cons_zero, List.set_cons_succ]
      refine takeH 4 (v := ?_) rfl (by kernel_rfl) (by kernel_rfl) (by kernel_rfl) (fun _ _ _ h => h) (by rfl) ?_ hHeld ?_
      rotate_left
      · (intro w hSw; (try dsimp only at hSw); go_simp; try with_reducible rfl)
      try simp only [Act.put, List.setIfInBounds_toArray, List.set_cons_zero, List.set_cons_succ]
      refine takeH 5 (v := ?_) rfl (by kernel_rfl) (by kernel_rfl) (by kernel_rfl) (fun _ _ _ h => h) (by rfl) ?_ hHeld ?_
      rotate_left
      · (intro w hSw; (try dsimp only at hSw); go_simp; try with_reducible rfl)
      try simp only [Act.put, List.setIfInBounds_toArray, List.set_cons_zero, List.set_cons_succ]
      refine takeH 6 (v := ?_) rfl (by kernel_rfl) (by kernel_rfl) (by kernel_rfl) (fun _ _ _ h => h) (by rfl) ?_ hHeld ?_
      rotate_left
      · (intro w hSw; (try dsimp only at hSw); go_simp; try with_reducible rfl)
      try simp only [Act.put, List.setIfInBounds_toArray, List.set_cons_zero, List.set_cons_succ]
      refine oneH 7 (by kernel_rfl) rfl (fun K hK => ?_)
      go_simp
      go_at_call 49
      refine (HWY.out _ ((HBW.out.trans (((Below.refl _ wr).drewN' 1).mono HBW.out.size)))).mono ?_
      rintro e w5 ⟨rfl, hb5⟩
      have HB15 : Hid (Below wr.heap.size wr w5) := Lib.hid (((Below.refl _ wr).drewN' 1).trans (by exact hb5))
      clear hb5
      dsimp only
      refine hK.out _ _ (HSS.out _ HB15.out) (fun hHeld => ?_)
      clear hK K
      try simp only [Act.put, List.setIfInBounds_toArray, List.set_cons_zero, List.set_cons_succ]
      refine takeH 8 (v := ?_) rfl (by kernel_rfl) (by kernel_rfl) (by kernel_rfl) (fun _ _ _ h => h) (by rfl) ?_ hHeld ?_
      rotate_left
      · (intro w hSw; (try dsimp only at hSw); go_simp; try with_reducible rfl)
      try simp only [Act.put, List.setIfInBounds_toArray, List.set_cons_zero, List.set_cons_succ]
      refine wpAnyH_done (by kernel_rfl) ?_ _
      refine NoPanic.normal ?_
      clear hHeld j2 j3 j4 j5 j7 hQ
      have HV5 : Hid (Below w4.heap.size w4 w5) := Lib.hid (HV.out.trans (HB15.out.mono HV.out.size))
      have hsz5 := HV5.out.size
      have HO5 := Lib.hid (World.ownsRow.keep HO.out HB15.out)
      have H25 : Hid (Below w2.heap.size w2 w5) := Lib.hid (HB24.out.trans (HV5.out.mono HB24.out.size))
      have hcv := HHH.out
      by_cases h97 : (97 : Int) ≤ (c.toNat : Int)
      · obtain ⟨hk1, hN1⟩ := HNS.out.1 (by omega)
        have hw9 := HLU.out.1 (by omega)
        obtain ⟨q, hq⟩ : ∃ q, c.toNat - 97 = q := ⟨_, rfl⟩
        rw [hq] at hk1 hN1 hw9
        obtain ⟨b1, v1, hva1, d1, e1⟩ := HNV.out.at_ H25.out (numR_at (k := k) (show u < g.length by rw [HN.out]; exact HU.out.2))
        subst hva1
        obtain ⟨a2, c2, rfl, q1, q2⟩ := e1.shape (n := k) (by simp)
        obtain ⟨b2, rfl, d2⟩ := e1.at_ (Below.refl _ _) (numR_row hk1)
        rw [← hN1] at d2
        have q0 : (0 : Int) ≤ q := by omega
        have q3 : (q : Int) < k := by omega
        clear e1 hq hN1
        go_upto_region 11 with fail
        go_quiet (fail)
        generalize nq = na
        clear d1 d2 hw9
        have HV6 : Hid (Below w4.heap.size w4 (w5.drewN na)) := Lib.hid (HV5.out.trans ((Below.refl _ _).drewN' _))
        have HO6 : Hid (Own (w5.drewN na) w4.heap.size 3 lw E) := Lib.hid (World.ownsRow.keep HO5.out ((Below.refl _ _).drewN' _))
        obtain ⟨w6, hw6⟩ : ∃ w6, w5.drewN na = w6 := ⟨_, rfl⟩
        rw [hw6] at HV6 HO6 ⊢
        clear hw6
        by_cases hN0 : N = 0
        · subst hN0
          have G3 : Hid (Own w6 w4.heap.size 3 lw (exprQ k g 0 ((bts W).take (j + 1)))) := Lib.hid (by rw [HEX.out]; show Own w6 w4.heap.size 3 lw (E ++ []); rw [List.append_nil]; exact HO6.out)
          go_wp2_with fail
          go_roundw
          case rel => exact ⟨j + 1, t, _, by omega, by go_num, rfl, rfl, G2, G3, HV6⟩
          case measure => simp [intOf]; omega
        · have HBS : Hid (w4.heap.size ≤ w6.heap.size) := Lib.hid HV6.out.size
          go_upto_region 15 with (at_builtin; refine wpList_app1 Try.info3 Try.underlying54 HO6.out HBS.out (by omega) rfl (.tmp 60) (.tmp 62) rfl (z := N) (by simp [Act.eval]) (by simp [Act.eval]) ?_; intro v7 w7 hown7 hgrow7 hbel7 hsh7)
          obtain ⟨g7, cc7, rfl⟩ := hsh7
          have G3 : Hid (Own w7 w4.heap.size 3 (.slice (some ⟨g7, 0, none⟩) (E.length + 1) cc7) (exprQ k g 0 ((bts W).take (j + 1)))) := Lib.hid (by
            rw [HEX.out]
            have : nzL N = [N] := if_neg hN0
            rw [this]; exact hown7)
          have HV7 : Hid (Below w4.heap.size w4 w7) := Lib.hid (HV6.out.trans hbel7)
          clear hown7 hgrow7 hbel7
          go_wp2_with fail
          go_roundw
          case rel => exact ⟨j + 1, t, _, by omega, by go_num, rfl, rfl, G2, G3, HV7⟩
          case measure => simp [intOf]; omega
      · obtain ⟨hk1, hN1⟩ := HNS.out.2 (by omega)
        have hw9 := HLU.out.2 (by omega)
        obtain ⟨q, hq⟩ : ∃ q, c.toNat - 65 = q := ⟨_, rfl⟩
        rw [hq] at hk1 hN1 hw9
        obtain ⟨b1, v1, hva1, d1, e1⟩ := HNV.out.at_ H25.out (numR_at (k := k) (show t < g.length by rw [HN.out]; exact G2.out.2))
        subst hva1
        obtain ⟨a2, c2, rfl, q1, q2⟩ := e1.shape (n := k) (by simp)
        obtain ⟨b2, rfl, d2⟩ := e1.at_ (Below.refl _ _) (numR_row hk1)
        obtain ⟨N2, hN2⟩ : ∃ N2, numQ k g t (2 * q) = N2 := ⟨_, rfl⟩
        rw [hN2] at d2 hN1
        have hneg : IntKind.i64.wrap (-N2) = N := by rw [IntKind.wrap_i64]; omega
        have q0 : (0 : Int) ≤ q := by omega
        have q3 : (q : Int) < k := by omega
        clear e1 hq hN1 hN2
        go_upto_region 12 with fail
        go_quiet (fail)
        generalize nq = na
        clear d1 d2 hw9 hneg
        have HV6 : Hid (Below w4.heap.size w4 (w5.drewN na)) := Lib.hid (HV5.out.trans ((Below.refl _ _).drewN' _))
        have HO6 : Hid (Own (w5.drewN na) w4.heap.size 3 lw E) := Lib.hid (World.ownsRow.keep HO5.out ((Below.refl _ _).drewN' _))
        obtain ⟨w6, hw6⟩ : ∃ w6, w5.drewN na = w6 := ⟨_, rfl⟩
        rw [hw6] at HV6 HO6 ⊢
        clear hw6
        by_cases hN0 : N = 0
        · subst hN0
          have G3 : Hid (Own w6 w4.heap.size 3 lw (exprQ k g 0 ((bts W).take (j + 1)))) := Lib.hid (by rw [HEX.out]; show Own w6 w4.heap.size 3 lw (E ++ []); rw [List.append_nil]; exact HO6.out)
          go_wp2_with fail
          go_roundw
          case rel => exact ⟨j + 1, t, _, by omega, by go_num, rfl, rfl, G2, G3, HV6⟩
          case measure => simp [intOf]; omega
        · have HBS : Hid (w4.heap.size ≤ w6.heap.size) := Lib.hid HV6.out.size
          go_upto_region 15 with (at_builtin; refine wpList_app1 Try.info3 Try.underlying54 HO6.out HBS.out (by omega) rfl (.tmp 60) (.tmp 62) rfl (z := N) (by simp [Act.eval]) (by simp [Act.eval]) ?_; intro v7 w7 hown7 hgrow7 hbel7 hsh7)
          obtain ⟨g7, cc7, rfl⟩ := hsh7
          have G3 : Hid (Own w7 w4.heap.size 3 (.slice (some ⟨g7, 0, none⟩) (E.length + 1) cc7) (exprQ k g 0 ((bts W).take (j + 1)))) := Lib.hid (by
            rw [HEX.out]
            have : nzL N = [N] := if_neg hN0
            rw [this]; exact hown7)
          have HV7 : Hid (Below w4.heap.size w4 w7) := Lib.hid (HV6.out.trans hbel7)
          clear hown7 hgrow7 hbel7
          go_wp2_with fail
          go_roundw
          case rel => exact ⟨j + 1, t, _, by omega, by go_num, rfl, rfl, G2, G3, HV7⟩
          case measure => simp [intOf]; omega
    · obtain rfl : j = W.size := by omega
      have hres := HO.out
      rw [List.take_of_length_le (by rw [bts_len]; exact Nat.le_refl _)] at hres
      have HRES := Lib.hid hres.toR
      have HBW : Hid (Below w1.heap.size w1 wr) := Lib.hid (HB4.out.trans (HV.out.mono HB4.out.size))
      clear hres
      go_wp2_with fail
      go_ret
      exact ⟨_, rfl, HRES.out, HB.out.trans (HBW.out.mono HB.out.size)⟩
end Go.Proofs.Ytlooclpfoeakgaa

/- Express at what is not in the group; the group of words: the walks. -/
namespace Go.Proofs.Ytlooclpfoeakgaa
open Go.RowKit

set_option maxRecDepth 100000 in
set_option maxHeartbeats 2000000 in
theorem Express_out (w : World) (k : Nat) (rv : Value) (g : List (List Int)) (h : RowsR w rv g) (hg : GoodG k g) (s : ByteArray) (hs : s.size < 1000000) (h0 : cwErr k s = 0) (hin : inG k g (bts s) = false) :
    Calls Try.prog 32 #[.agg #[.int .i64 k, rv], .string s] w fun e w' => e = .returned (.tuple #[.slice none 0 0, .int .i64 4]) ∧ Below w.heap.size w w' := by
  obtain ⟨w1, hw1⟩ : ∃ w1, w1 = w.alloc (.cells #[.int .i64 k, rv] 25) := ⟨_, rfl⟩
  have hb1 : Below w.heap.size w w1 := by rw [hw1]; exact (Below.refl _ w).alloc (Nat.le_refl _) _
  have hx1 : Blk w1 w.heap.size 25 [.int .i64 k, rv] := by rw [hw1]; exact Blk.new w 25 [.int .i64 k, rv]
  have h1 := h.keep hb1
  have hrd := read_good w1 k rv g h1 hg s (by omega)
  rw [h0, if_pos rfl] at hrd
  obtain ⟨hw, hf⟩ := cwErr_zero h0
  obtain ⟨W, hWW⟩ : ∃ W, strB (redW (bts s)) = W := ⟨_, rfl⟩
  have hWb : bts W = redW (bts s) := by rw [← hWW]
  have hWs : W.size ≤ s.size := by rw [← bts_len, hWb]; exact Nat.le_trans (redW_len _) (by rw [bts_len]; exact Nat.le_refl _)
  have hWw : isWord (bts W) = true := by rw [hWb]; exact isWord_red hw
  have hWf : fitW k (bts W) = true := by
    rw [hWb]
    exact List.all_eq_true.2 fun c hc => List.all_eq_true.1 hf c (redW_sub hc)
  rw [hWW] at hrd
  obtain ⟨n, hn⟩ : ∃ n, g.length = n := ⟨_, rfl⟩
  obtain ⟨va, vc, rfl, hv1, hv2⟩ := h1.shape hn
  have hld := fun wx (hb : Below w1.heap.size w1 wx) => leads_any wx k _ g (h1.keep hb) hg 0 hg.n1 W (by omega) hWw hWf
  obtain ⟨z, hz⟩ : ∃ z, optI (runS (stepL k (nxT g)) 0 (bts W)) = z := ⟨_, rfl⟩
  rw [hz] at hld
  have hz0 : ¬ z = 0 := by
    rw [← hz]
    intro e
    have := optI_zero.1 e
    unfold inG at hin
    rw [hWb] at this
    have h9 := of_decide_eq_false hin
    exact h9 this
  have c0 := hx1.cell (j := 0) rfl
  have c1 := hx1.cell (j := 1) rfl
  have HRD := Lib.hid hrd
  have HLD := Lib.hid hld
  have HX := Lib.hid hx1
  have HB := Lib.hid hb1
  clear h h1 hx1 hb1 hg hrd hld hWb hWw hWf hWW hw hf h0 hn hin hz
  go_enter Try.func32, Try.ntmps32
  go_upto_region 1 with fail
  rw [← hw1]
  clear hw1
  go_upto_region 4 with (go_at_call 74; refine HRD.out.mono ?_; rintro e w2 ⟨rfl, hb2⟩)
  have d0 := (HX.out.keep hb2).cell (j := 0) rfl
  have d1 := (HX.out.keep hb2).cell (j := 1) rfl
  have HL := Lib.hid (HLD.out w2 hb2)
  have HB2 := Lib.hid (HB.out.trans (hb2.mono HB.out.size))
  clear hb2 HLD HRD c0 c1
  go_wp2_with (go_at_call 75; refine HL.out.mono ?_; rintro e w3 ⟨rfl, hb3⟩; have HB3 := Lib.hid (HB2.out.trans (hb3.mono HB2.out.size)); clear hb3)
  go_ret2
  exact ⟨rfl, HB3.out⟩

theorem ret21 {w : World} {tmps : Array Value} {g : Nat} {M : List Value} (hM : M.length = 2) (hp : tmps.getD 4 undef = .pointer (some ⟨g, 0, none⟩)) (hb : Blk w g 32 M) : (results Try.f21 tmps).run Try.prog w = .ok (.agg M.toArray) w :=
  results_cell_row rfl tmps w g 32 _ (0, 0) _ hp hb Try.underlying32 rfl (by rw [Try.size32]; simp [hM])
theorem RowsR.other {w : World} {rv : Value} {g : List (List Int)} (h : RowsR w rv g) {B : Nat} (hB : w.heap.size ≤ B) (j : Nat) (u : Value) : RowsR (w.setCell ⟨B, j, none⟩ u) rv g :=
  h.keep ((Below.refl _ w).setCell (p := ⟨B, j, none⟩) hB u)

set_option maxRecDepth 100000 in
set_option maxHeartbeats 2000000 in
theorem group_any (v : Value) (ss : List ByteArray) (k : Nat) (w : World) (hv : Strs w v ss) (hz : ∀ s ∈ ss, s.size ≤ 9223372036854775807) (hk1 : 1 ≤ k) (hk4 : k ≤ 4) :
    Calls Try.prog 21 #[.int .i64 k, v] w fun e w' => ∃ (rva : Option Addr) (rvc : Nat) (g : List (List Int)), e = .returned (.agg #[.int .i64 k, .slice rva g.length rvc]) ∧ IsGraph k (setS (wordsL k 4 7 ss)) g ∧ RowsR w' (.slice rva g.length rvc) g ∧ Below w.heap.size w w' := by
  obtain ⟨w1, hw1⟩ : ∃ w1, w1 = w.alloc (.cells #[.int .i64 0, .slice none 0 0] 32) := ⟨_, rfl⟩
  have hb1 : Below w.heap.size w w1 := by rw [hw1]; exact (Below.refl _ w).alloc (Nat.le_refl _) _
  have hx1 : Blk w1 w.heap.size 32 [.int .i64 0, .slice none 0 0] := by rw [hw1]; exact Blk.new w 32 [.int .i64 0, .slice none 0 0]
  have hs1 : w1.heap.size = w.heap.size + 1 := by rw [hw1]; simp
  have hwo := words_any v ss k 4 7 w1 (hv.keep hb1) hz hk1 (by omega) (by omega) (by omega)
  have how := words_ok (k := k) (many := 4) (most := 7) hk1 (by omega) (ss := ss)
  obtain ⟨O4, hO4⟩ : ∃ l, wordsL k 4 7 ss = l := ⟨_, rfl⟩
  rw [hO4] at hwo how ⊢
  have hrf := fun wx v2 (hs : Strs wx v2 O4) => rFold_any k v2 O4 wx hs hk1 hk4 (by omega) (fun s hs => by obtain ⟨a, b, c⟩ := how.2 s hs; exact ⟨a, by omega, c⟩)
  have HWO := Lib.hid hwo
  have HRF := Lib.hid hrf
  have HX := Lib.hid hx1
  have HB := Lib.hid hb1
  have HS1 := Lib.hid hs1
  clear hwo hrf hx1 hb1 hs1 hv hz hO4 how
  go_enter Try.func21, Try.ntmps21
  go_upto_region 1 with fail
  rw [← hw1]
  clear hw1
  go_wp2_with (first
    | (go_at_call 19; refine HWO.out.mono ?_; rintro e w2 ⟨rv, rfl, hs2, hb2⟩; have HS2 := Lib.hid hs2; have HB2 := Lib.hid hb2; clear hs2 hb2)
    | (go_at_call 17; refine (HRF.out _ _ HS2.out).mono ?_; rintro e w3 ⟨rv3, g, rfl, hg, hr3, hb3⟩; have HX3 := Lib.hid (HX.out.keep (HB2.out.trans (hb3.mono HB2.out.size))); have HR3 := Lib.hid hr3; have HRV := Lib.hid (rows_one hr3 k); have HG3 := Lib.hid hg; have HB3 := Lib.hid (HB2.out.trans (hb3.mono HB2.out.size)); clear hr3 hg hb3)
    | (with_reducible show wpList _ _ _ (Oper.mk _ (Op.store 32 _ _) _ _ _ _ :: _) _ _; (refine wpList_storeB (vs := [.int .i64 k, rv3]) HX3.out Try.size32 rfl rfl HRV.out rfl _ _ rfl rfl rfl ?_)))
  have hr1 := HX3.out.set 0 (.int .i64 k)
  obtain ⟨rva, rvc, rfl, -, -⟩ := row_shapeV HR3.out.choose_spec.1
  have hrow := ((HR3.out).other HX3.out (by decide) (by decide) 0 (.int .i64 k)).other hr1 (by decide) (by decide) 1 (.slice rva g.length rvc)
  exact bodyPost_ret (ret21 (M := [.int .i64 k, .slice rva g.length rvc]) rfl rfl (hr1.set 1 _)) rfl ⟨rva, rvc, g, rfl, HG3.out.of_red, hrow.toR, below_setCells (Nat.le_refl _) [.int .i64 k, .slice rva g.length rvc] 0 (HB.out.trans (HB3.out.mono HB.out.size))⟩
end Go.Proofs.Ytlooclpfoeakgaa
