/- Intervals, cuts and blocks. -/
import Derived.Test.YtgajaccnjjiiaaaW12
namespace Go.Proofs.Ytgajaccnjjiiaaa
open Go.RowKit

theorem Try.size131 : (Try.prog.info? 131).map (·.size) = some 2 := by kernel_rfl

set_option maxHeartbeats 1000000 in
theorem with_any (lo hi v : Int) (w : World) :
    Calls Try.prog 112 #[.agg #[.int .i64 lo, .int .i64 hi], .int .i64 v] w fun e w' => e = .returned (.agg #[.int .i64 (min lo v), .int .i64 (max hi v)]) ∧ Below w.heap.size w w' := by
  go_enter Try.func112, Try.ntmps112
  go_wp2_with fail
  exact bodyPost_ret (v := .agg #[.int .i64 (min lo v), .int .i64 (max hi v)]) (by simp [results, Try.results112, go_sem]) rfl ⟨rfl, ((Below.refl _ _).alloc (Nat.le_refl _) _).alloc (by simp) _⟩

/-- wpList_app1, the heap's size spelt as it may be -/
theorem wpList_app2 {P : Program} {w : World} {ops : Array Oper} {rest : List Oper} {o : Oper} {a : Act} {Q : Exit → Act → World → Prop}
    {e t : TypeId} (hinfo : (P.info? e).map (fun i => (i.zero, i.size, i.bytes)) = some (some (.int .i64 0), 1, 8)) (ht : P.underlying t = some (.slice e))
    {base : Nat} {v : Value} {zs : List Int} (hown : Own w base e v zs) (hl : zs.length < 1000000000000)
    (hgd : o.guard = none) (s x : Operand) (ho : o.op = .call { callee := .builtin .append, args := #[s, x], argTypes := #[t, t] })
    {z : Int} {H : Nat} (hs : a.eval s = v) (hx : a.eval x = .slice (some ⟨H, 0, none⟩) 1 1) (hH : w.heap.size = H) (hb : base ≤ H)
    (hK : ∀ v' w', Own w' base e v' (zs ++ [z]) → w.grownBy w' v.ownBlock → Below base w w' → (∃ g c, v' = .slice (some ⟨g, 0, none⟩) (zs.length + 1) c) → wpList P ops Q rest (a.put o.dst v') w') :
    wpList P ops Q (o :: rest) a (w.alloc (.cells #[.int .i64 z] e)) :=
  wpList_app1 hinfo ht hown (by omega) hl hgd s x ho hs (by rw [hH]; exact hx) hK
theorem Own.apartB {w : World} {base : Nat} {u : Value} {zs : List Int} (h : Own w base 3 u zs) {g : Nat} {e : TypeId} {vs : List Value} (k : Blk w g e vs) (he : e ≠ 3) : some g ≠ u.ownBlock := by
  rcases h.2 with ⟨rfl, _⟩ | ⟨g', cap, cur, rfl, _, hg, _⟩
  · rw [ob_nil]; simp
  · rw [ob_some]
    intro e'
    cases e'
    have := k.symm.trans hg
    simp at this
    exact he this.2
theorem Own.other {w : World} {base : Nat} {u : Value} {zs : List Int} (h : Own w base 3 u zs) {a : Addr} (ha : some a.block ≠ u.ownBlock) (x : Value) : Own (w.setCell a x) base 3 u zs := ownsRow_setCell_other h (Ne.symm ha) x

theorem cut_state {w0 w2 : World} {B base g : Nat} {u : Value} {zs : List Int} {e : TypeId} {x y : Value} (hown : Own w2 base 3 u zs) (hblk : Blk w2 g e [x, y]) (hB : Below B w0 w2) (hbase : B ≤ g) (hz : B ≤ w2.heap.size)
    (hap : some g ≠ u.ownBlock) (a b : Value) (o : Obj) :
    Own (((w2.setCell ⟨g, 0, none⟩ a).setCell ⟨g, 1, none⟩ b).alloc o) base 3 u zs ∧ Blk (((w2.setCell ⟨g, 0, none⟩ a).setCell ⟨g, 1, none⟩ b).alloc o) g e [a, b] ∧ Below B w0 (((w2.setCell ⟨g, 0, none⟩ a).setCell ⟨g, 1, none⟩ b).alloc o) := by
  refine ⟨World.ownsRow.alloc (Own.other (Own.other hown hap _) hap _) _, ?_, ?_⟩
  · have h1 := (hblk.set 0 a).set 1 b
    exact Blk.alloc (by simpa using h1) o
  · exact (((hB.setCell (p := ⟨g, 0, none⟩) hbase a).setCell (p := ⟨g, 1, none⟩) hbase b).alloc (by simpa using hz) _)

def seenTo (p : List Int) : Nat → Int × Int
  | 0 => (p.length, -1)
  | k + 1 => (min (seenTo p k).1 (p[k]?.getD 0), max (seenTo p k).2 (p[k]?.getD 0))
def wholeM (n : Nat) (r : Bool) (k : Nat) : Int × Int := if r then (0, (k : Int)) else ((n : Int) - 1 - k, (n : Int) - 1)
def cutsTo (p : List Int) (r : Bool) : Nat → List Int
  | 0 => [0]
  | k + 1 => cutsTo p r k ++ (if seenTo p (k + 1) = wholeM p.length r k then [((k : Int) + 1)] else [])
def cutsM (p : List Int) (r : Bool) : List Int := cutsTo p r (p.length - 1)
theorem cutsTo_length (p : List Int) (r : Bool) (k : Nat) : 0 < (cutsTo p r k).length ∧ (cutsTo p r k).length ≤ k + 1 := by
  induction k with
  | zero => simp [cutsTo]
  | succ k ih => rw [cutsTo, List.length_append]; split <;> simp <;> omega

set_option maxRecDepth 100000 in
set_option maxHeartbeats 4000000 in
theorem cuts_any (v : Value) (p : List Int) (r : Bool) (w : World) (hv : Ints w v p) (h0 : 0 < p.length) (hl : p.length ≤ 1000) :
    Calls Try.prog 100 #[v, .bool r] w fun e w' => ∃ u, e = .returned u ∧ Own w' w.heap.size 3 u (cutsM p r) ∧ Below w.heap.size w w' := by
  obtain ⟨ad, n, cap, rfl, HN, hn'⟩ := hv.open
  have hl' : n ≤ 1000 := by have := HN.out; omega
  have h0' : 0 < n := by have := HN.out; omega
  obtain ⟨hcap, hcap2⟩ := hv.cap_
  clear h0 hl
  go_enter Try.func100, Try.ntmps100
  go_wp2_with fail
  go_loopw [5, 20] (fun u i wr => ∃ k : Nat, k ≤ n - 1 ∧ i = .int .i64 k ∧ Own wr w.heap.size 3 u (cutsTo p r k) ∧ Blk wr (w.heap.size + 1) 131 [.int .i64 (seenTo p k).1, .int .i64 (seenTo p k).2] ∧ Below w.heap.size w wr) (fun _ i _ => n - (intOf i).toNat)
  case atStart =>
    refine ⟨0, by omega, rfl, (Own.lit w w.heap.size 3 [0] (Nat.le_refl _) (by simp)).alloc _, ?_, ((Below.refl _ _).alloc (Nat.le_refl _) _).alloc (by simp) _⟩
    have := Blk.new (w.alloc (.cells #[.int .i64 0] 3)) 131 [.int .i64 (seenTo p 0).1, .int .i64 (seenTo p 0).2]
    simpa [seenTo, HN.out] using this
  case round =>
    obtain ⟨k, hk, rfl, hown, hblk, hB⟩ := hrel
    have hsz := hB.size
    by_cases hlt : k < n - 1
    · obtain ⟨b, o, x, rfl, hx, c1⟩ := (hv.below hB (Nat.le_refl _)).at_ (k := k) (by omega)
      have hs : seenTo p (k + 1) = (min (seenTo p k).1 x, max (seenTo p k).2 x) := by rw [seenTo, hx.out]; rfl
      have hct : cutsTo p r (k + 1) = cutsTo p r k ++ (if seenTo p (k + 1) = wholeM n r k then [((k : Int) + 1)] else []) := by rw [cutsTo, HN.out]
      have hlen : (cutsTo p r k).length < 1000000000000 := by have := (cutsTo_length p r k).2; omega
      have HLEN := Lib.hid hlen
      generalize (seenTo p k).1 = lo at *
      generalize (seenTo p k).2 = hi at *
      have HS := Lib.hid hs
      have HCT := Lib.hid hct
      clear hs hct hlen
      have c2 := hblk.cell (j := 0) rfl
      have c3 := hblk.cell (j := 1) rfl
      have f2 := hblk.free 0
      have f3 := hblk.free 1
      have hn1 : (n : Int) - 1 - k ≤ 1000 := by omega
      have hap := Own.apartB hown hblk (by decide)
      have HAP := Lib.hid hap
      clear hap
      cases r
      all_goals
       go_wp2_with (first | (go_at_call 112; refine (with_any _ _ _ _).mono ?_; rintro e w2 ⟨rfl, hb2⟩; have c4 := (hblk.keep hb2).cell (j := 0) rfl; have c5 := (hblk.keep hb2).cell (j := 1) rfl; have f4 := (hblk.keep hb2).free 0; have f5 := (hblk.keep hb2).free 1; have hlk2 := (hblk.keep hb2).lt; have hz2 := hb2.size) | (at_builtin; refine wpList_app2 Try.info3 Try.underlying22 (World.ownsRow.alloc (Own.other (Own.other (World.ownsRow.keep hown hb2) HAP.out _) HAP.out _) _) HLEN.out rfl _ _ rfl rfl rfl (by simp) (by omega) ?_; intro v3 w3 hown3 hgrow3 hb3 hsh3))
       all_goals first
        | (refine ⟨⟨k + 1, by omega, by go_num, ?_, ?_, ?_⟩, by simp [intOf]; omega⟩
           · have e1 := ‹min lo x = _›
             have e2 := ‹max hi x = _›
             rw [HCT.out, HS.out, e1, e2, if_pos (by simp [wholeM])]
             exact hown3
           · rw [HS.out, ‹min lo x = _›, ‹max hi x = _›]
             exact (cut_state (World.ownsRow.keep hown hb2) (hblk.keep hb2) (hB.trans (hb2.mono hsz)) (by omega) (by omega) HAP.out _ _ _).2.1.grown hgrow3 HAP.out
           · exact (cut_state (World.ownsRow.keep hown hb2) (hblk.keep hb2) (hB.trans (hb2.mono hsz)) (by omega) (by omega) HAP.out _ _ _).2.2.trans hb3)
        | (refine ⟨⟨k + 1, by omega, by go_num, ?_, ?_, ?_⟩, by simp [intOf]; omega⟩
           · have e1 := ‹min lo x = _›
             have e2 := ‹¬ max hi x = _›
             rw [HCT.out, HS.out, e1, if_neg (by simpa [wholeM] using e2), List.append_nil]
             exact (cut_state (World.ownsRow.keep hown hb2) (hblk.keep hb2) (hB.trans (hb2.mono hsz)) (by omega) (by omega) HAP.out _ _ _).1
           · rw [HS.out, ‹min lo x = _›]
             exact (cut_state (World.ownsRow.keep hown hb2) (hblk.keep hb2) (hB.trans (hb2.mono hsz)) (by omega) (by omega) HAP.out _ _ _).2.1
           · exact (cut_state (World.ownsRow.keep hown hb2) (hblk.keep hb2) (hB.trans (hb2.mono hsz)) (by omega) (by omega) HAP.out _ _ _).2.2)
        | (refine ⟨⟨k + 1, by omega, by go_num, ?_, ?_, ?_⟩, by simp [intOf]; omega⟩
           · have e1 := ‹¬ min lo x = _›
             rw [HCT.out, HS.out, if_neg (by simpa [wholeM] using fun h => absurd h e1), List.append_nil]
             exact (cut_state (World.ownsRow.keep hown hb2) (hblk.keep hb2) (hB.trans (hb2.mono hsz)) (by omega) (by omega) HAP.out _ _ _).1
           · rw [HS.out]
             exact (cut_state (World.ownsRow.keep hown hb2) (hblk.keep hb2) (hB.trans (hb2.mono hsz)) (by omega) (by omega) HAP.out _ _ _).2.1
           · exact (cut_state (World.ownsRow.keep hown hb2) (hblk.keep hb2) (hB.trans (hb2.mono hsz)) (by omega) (by omega) HAP.out _ _ _).2.2)
    · have hkn : k = n - 1 := by omega
      have hc : cutsTo p r k = cutsM p r := by unfold cutsM; rw [hkn, HN.out]
      have hown' : Own wr w.heap.size 3 u5 (cutsM p r) := hc ▸ hown
      go_wp2_with fail
      go_ret
      exact ⟨_, rfl, hown', hB⟩
end Go.Proofs.Ytgajaccnjjiiaaa
