/- Appending a slice to a list of the call's own; slices.Delete on such a list; raw. -/
import Derived.Test.YtgajaccnjjiiaaaW21
import Derived.Test.YtgajaccnjjiiaaaW15
import Derived.Lib.OwnBridge
import Derived.Sort.OwnSortedInts
import Derived.Laws.AppendOwnNone
namespace Go.Proofs.Ytgajaccnjjiiaaa
open Go.RowKit

theorem Own.ob {w : World} {base : Nat} {e : TypeId} {v : Value} {zs : List Int} (h : Own w base e v zs) : ∀ g, v.ownBlock = some g → base ≤ g ∧ g < w.heap.size := World.ownsRow.lt h
theorem Own.kept {w w' : World} {base : Nat} {e : TypeId} {v : Value} {zs : List Int} (h : Own w base e v zs) {row : Option Nat} (hg : w.grownBy w' row) (hne : ∀ g, v.ownBlock = some g → row ≠ some g) : Own w' base e v zs := by
  refine World.ownsRow.kept h hg ?_
  cases hv : v.ownBlock with
  | none => exact .inl rfl
  | some g => exact .inr (fun e => hne g hv e.symm)

/-- append of the elements of a slice. -/
theorem wpList_appS {P : Program} {w : World} {ops : Array Oper} {rest : List Oper} {o : Oper} {a : Act} {Q : Exit → Act → World → Prop}
    {e t : TypeId} (hinfo : (P.info? e).map (fun i => (i.zero, i.size, i.bytes)) = some (some (.int .i64 0), 1, 8)) (ht : P.underlying t = some (.slice e))
    {base : Nat} {v : Value} {zs : List Int} (hown : Own w base e v zs) (hb : base ≤ w.heap.size) (hl : zs.length < 100000000000)
    (hgd : o.guard = none) (s x : Operand) (ho : o.op = .call { callee := .builtin .append, args := #[s, x], argTypes := #[t, t] })
    {sv : Value} {ys : List Int} (hs : a.eval s = v) (hx : a.eval x = sv) (hsv : Ints w sv ys) (hnil : ∀ n c, sv = .slice none n c → c = 0) (hys : ys.length < 100000000000)
    (hK : ∀ v' w', Own w' base e v' (zs ++ ys) → w.grownBy w' v.ownBlock → Below base w w' → wpList P ops Q rest (a.put o.dst v') w') :
    wpList P ops Q (o :: rest) a w := by
  obtain ⟨i, h2, h3, h4, h5⟩ := info_parts hinfo
  obtain ⟨ad, cap, rfl, hcap, hcs⟩ := hsv
  have hlt := World.ownsRow.lt hown
  cases ad with
  | none =>
    obtain rfl := hnil _ _ rfl
    have h0 : ys = [] := List.eq_nil_of_length_eq_zero (by omega)
    subst h0
    refine wpList_append_own_none hgd s x t ho base e i 1 ht h2 v zs.length (I64s zs) hs hown hx ?_
    exact hK v w (by simpa [Own] using hown) ⟨rfl, rfl, rfl, Nat.le_refl _, fun _ _ _ => rfl⟩ (Below.refl _ _)
  | some ad =>
    refine wpList_append_own _ hgd s x t ho base e i (.int .i64 0) 1 8 ht h2 h3 h4 h5 rfl (by decide) v zs.length _ hs hown ad ys.length cap (I64s ys) hx (by simp) ?_ ?_ ?_ ?_ hb ?_
    · intro j u hu
      simp only [I64s, List.getElem?_map, Option.map_eq_some_iff] at hu
      obtain ⟨z, hz, rfl⟩ := hu
      have hj : j < ys.length := (List.getElem?_eq_some_iff.1 hz).1
      obtain ⟨b, o', h, _, hc⟩ := hcs (by omega)
      cases h
      have e : (⟨b, o', none⟩ : Addr).add j = ⟨b, o' + j, none⟩ := by
        unfold Addr.add
        split
        · rename_i h; subst h; rfl
        · rfl
      rw [e]
      exact hc j z hz
    · intro u hu; simp at hu; obtain ⟨z, _, rfl⟩ := hu; rfl
    · unfold maxLen; omega
    · omega
    · intro v' w1 hown1 hg1 _
      refine hK v' w1 (by simpa [Own, I64s] using hown1) hg1 ?_
      exact (Below.refl base w).grown hg1 hb fun k hk => (hlt k hk).1

theorem delete_own (w : World) (base g n cap : Nat) (zs : List Int) (h : Own w base 3 (.slice (some ⟨g, 0, none⟩) n cap) zs) (hn : zs.length = n) (i : Nat) (hi : i < n) :
    Calls Try.prog 75 #[.slice (some ⟨g, 0, none⟩) n cap, .int .i64 i, .int .i64 ((i : Int) + 1)] w fun e w' => e = .returned (.slice (some ⟨g, 0, none⟩) (n - 1) cap) ∧
      Own w' base 3 (.slice (some ⟨g, 0, none⟩) (n - 1) cap) (zs.eraseIdx i) ∧ w.grownBy w' (some g) ∧ Below base w w' := by
  subst hn
  obtain ⟨g', cap', hv, h1, h2, h3, h4, h5, h6⟩ := Lib.holds_of_ownsRow (enc := Value.int .i64) h (by simp)
  obtain ⟨rfl, rfl⟩ : g = g' ∧ cap = cap' := by simpa using hv
  have hcap : zs.length ≤ cap ∧ cap ≤ 9223372036854775807 := by
    obtain ⟨hc1, hc2⟩ := (Own.ints h).cap_
    exact ⟨hc1, hc2⟩
  have hgb : base ≤ g := (World.ownsRow.lt h g rfl).1
  have hc := Try.slices_Delete_int g 0 cap i (i + 1) zs w h6 hcap.1 hcap.2 (by omega) hi
  rw [show ((i + 1 : Nat) : Int) = (i : Int) + 1 by omega] at hc
  refine hc.mono ?_
  rintro e w' ⟨rfl, q, rfl⟩
  have e1 : i + 1 - i = 1 := by omega
  have hlen : (zs.take i ++ zs.drop (i + 1) ++ List.replicate (i + 1 - i) (0 : Int)).length = zs.length := by simp; omega
  have hlen2 : (zs.take i ++ zs.drop (i + 1)).length = zs.length - 1 := by simp; omega
  refine ⟨by rw [e1], ?_, ?_, ?_⟩
  · have := Lib.ownsRow_putRow (q := q) (k := zs.length - 1) h hlen (by omega)
    rw [List.take_append_of_le_length (l₁ := zs.take i ++ zs.drop (i + 1)) (by rw [hlen2]; omega), List.take_of_length_le (l := zs.take i ++ zs.drop (i + 1)) (by rw [hlen2]; omega)] at this
    have hel : (zs.eraseIdx i).length = zs.length - 1 := by rw [List.length_eraseIdx, if_pos hi]
    unfold Own
    rw [hel, List.eraseIdx_eq_take_drop_succ]
    exact this
  · have := grownBy_sortedI (w := w) (g := g) (n := q) (os := #[]) (zs.take i ++ zs.drop (i + 1) ++ List.replicate (i + 1 - i) (0 : Int)).toArray
    rw [Sort.grow_empty] at this
    exact this
  · exact Lib.below_putRow (Below.refl _ _) hgb

/-- the first elements, copied -/
def rawM (l : List Int) (most : Nat) : List Int := l.take (min l.length most)
set_option maxHeartbeats 1000000 in
theorem raw_any (v : Value) (l : List Int) (most : Nat) (w : World) (hv : Ints w v l) (hnil : ∀ n c, v = .slice none n c → c = 0) (hm : most ≤ 1000) :
    Calls Try.prog 38 #[v, .int .i64 most] w fun e w' => ∃ u, e = .returned u ∧ Own w' w.heap.size 3 u (rawM l most) ∧ Below w.heap.size w w' := by
  obtain ⟨a, n, cap, rfl, HN, hn'⟩ := hv.open
  obtain ⟨hcap, hcap2⟩ := hv.cap_
  have hr : rawM l most = l.take (min n most) := by rw [rawM, HN.out]
  have HR := Lib.hid hr
  clear hr
  have hmin : min (n : Int) (most : Int) = ((min n most : Nat) : Int) := by omega
  have hmn : min n most ≤ n := by omega
  have hmm : min n most ≤ 1000 := by omega
  have hsub : Ints w (.slice a (min n most) cap) (l.take (min n most)) := by
    by_cases h0 : 0 < min n most
    · obtain ⟨b, o, x, rfl, _, _⟩ := hv.at_ (k := 0) (by omega)
      have := hv.sub (i := 0) (j := min n most) h0 hmn
      simpa using this
    · refine ⟨a, cap, by simp; omega, by simp; omega, fun h => ?_⟩
      simp at h
      omega
  generalize min n most = m at *
  have HS := Lib.hid hsub
  clear hsub
  have hlt : m < 100000000000 ∨ True := .inr trivial
  cases a with
  | none =>
    obtain rfl := hnil _ _ rfl
    obtain rfl : n = 0 := by omega
    obtain rfl : m = 0 := by omega
    have hmin0 : min (0 : Int) (most : Int) = 0 := by omega
    go_enter Try.func38, Try.ntmps38
    go_wp2_with fail
    go_ret
    exact ⟨_, rfl, by rw [HR.out]; exact Own.nil _ _ _, Below.refl _ _⟩
  | some ad => 
    go_enter Try.func38, Try.ntmps38
    go_wp2_with (at_builtin; refine wpList_appS (sv := .slice (some ad) m cap) (ys := l.take m) Try.info3 Try.underlying22 (Own.nil _ w.heap.size 3) (Nat.le_refl _) (by simp) rfl _ _ rfl rfl rfl HS.out (by simp) (by simp; omega) ?_; intro v3 w3 hown3 hgrow3 hb3)
    go_ret
    exact ⟨_, rfl, by rw [HR.out]; simpa using hown3, hb3⟩
end Go.Proofs.Ytgajaccnjjiiaaa
