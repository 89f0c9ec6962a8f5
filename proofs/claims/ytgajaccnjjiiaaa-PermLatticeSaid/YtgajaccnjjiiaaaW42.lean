/- The reference's table of inversions: slices of slices: the walk. -/
import Derived.Test.YtgajaccnjjiiaaaW35
import Derived.Test.YtgajaccnjjiiaaaBs
namespace Go.Proofs.Ytgajaccnjjiiaaa
open Go.RowKit Go.BigFrame

theorem Try.info114 : (Try.prog.info? 114).map (fun i => (i.zero, i.size, i.bytes)) = some (some (.slice none 0 0), 1, 24) := by kernel_rfl
def rowPs (g n : Nat) : List Value := (List.range n).map fun i => .slice (some ⟨g + 1 + i, 0, none⟩) n n
theorem rowPs_get {g n i : Nat} (h : i < n) : (rowPs g n)[i]? = some (.slice (some ⟨g + 1 + i, 0, none⟩) n n) := by simp [rowPs, h]
/-- the block g, and the n blocks behind it, hold a table -/
def Tab (w : World) (g n : Nat) (T : Nat → Nat → Bool) : Prop := Blk w g 114 (rowPs g n) ∧ ∀ i, i < n → Blk w (g + 1 + i) 4 (rowBs n (T i))
theorem Tab.row {w : World} {g n : Nat} {T : Nat → Nat → Bool} (h : Tab w g n T) {i : Nat} (hi : i < n) : w.cell? ⟨g, i, none⟩ = some (.slice (some ⟨g + 1 + i, 0, none⟩) n n) := h.1.cell (rowPs_get hi)
theorem Tab.cell {w : World} {g n : Nat} {T : Nat → Nat → Bool} (h : Tab w g n T) {i j : Nat} (hi : i < n) (hj : j < n) : w.cell? ⟨g + 1 + i, j, none⟩ = some (.bool (T i j)) := (h.2 i hi).cell (rowBs_get _ hj)
theorem Tab.free {w : World} {g n : Nat} {T : Nat → Nat → Bool} (h : Tab w g n T) {i : Nat} (hi : i < n) (j : Nat) : w.frozen? ⟨g + 1 + i, j, none⟩ = false := (h.2 i hi).free j
theorem Tab.set {w : World} {g n : Nat} {T : Nat → Nat → Bool} (h : Tab w g n T) {i : Nat} (hi : i < n) (j : Nat) (x : Bool) : Tab (w.setCell ⟨g + 1 + i, j, none⟩ (.bool x)) g n (upd T i j x) := by
  refine ⟨h.1.other (by simp; omega) _, fun k hk => ?_⟩
  by_cases e : k = i
  · subst e
    have := (h.2 k hk).set j (.bool x)
    rw [rowBs_set] at this
    have e2 : (fun i => if i = j then x else T k i) = upd T k j x k := by
      funext i; unfold upd; simp
    rw [← e2]; exact this
  · have e2 : upd T i j x k = T k := by funext m; unfold upd; rw [if_neg (by omega)]
    rw [e2]
    exact (h.2 k hk).other (by simp; omega) _
theorem Tab.below {B : Nat} {w w' : World} {g n : Nat} {T : Nat → Nat → Bool} (h : Tab w g n T) (hb : Below B w w') (hg : g + n < B) : Tab w' g n T :=
  ⟨h.1.below hb (by omega), fun i hi => (h.2 i hi).below hb (by omega)⟩
theorem Tab.keep {w w' : World} {g n : Nat} {T : Nat → Nat → Bool} (h : Tab w g n T) (hb : Below w.heap.size w w') : Tab w' g n T :=
  ⟨h.1.keep hb, fun i hi => (h.2 i hi).keep hb⟩
theorem Tab.drewN {w : World} {g n : Nat} {T : Nat → Nat → Bool} (h : Tab w g n T) (q : Nat) : Tab (w.drewN q) g n T := h
theorem Tab.other {w : World} {g n : Nat} {T : Nat → Nat → Bool} (h : Tab w g n T) {a : Addr} (ha : a.block < g ∨ g + n < a.block) (x : Value) : Tab (w.setCell a x) g n T :=
  ⟨h.1.other (by omega) x, fun i hi => (h.2 i hi).other (by omega) x⟩

/-- the rows as they are laid -/
def rowTo' (g n k : Nat) : List Value := (List.range n).map fun i => if i < k then .slice (some ⟨g + 1 + i, 0, none⟩) n n else .slice none 0 0
theorem rowTo'_zero (g n : Nat) : rowTo' g n 0 = List.replicate n (.slice none 0 0) := by
  apply List.ext_getElem?
  intro i
  by_cases hi : i < n
  · simp [rowTo', hi]
  · rw [List.getElem?_eq_none (by simp [rowTo']; omega), List.getElem?_eq_none (by simp; omega)]
theorem rowTo'_get {g n k i : Nat} (h : i < n) : (rowTo' g n k)[i]? = some (if i < k then .slice (some ⟨g + 1 + i, 0, none⟩) n n else .slice none 0 0) := by simp [rowTo', h]
theorem rowTo'_set {g n k : Nat} (_h : k < n) : (rowTo' g n k).set k (.slice (some ⟨g + 1 + k, 0, none⟩) n n) = rowTo' g n (k + 1) := by
  apply List.ext_getElem?
  intro i
  by_cases hi : i < n
  · rw [rowTo'_get hi]
    by_cases e : k = i
    · subst e
      rw [List.getElem?_set_self (by simp [rowTo']; exact hi), if_pos (by omega)]
    · rw [List.getElem?_set_ne e, rowTo'_get hi]
      by_cases h1 : i < k
      · rw [if_pos h1, if_pos (by omega)]
      · rw [if_neg h1, if_neg (by omega)]
  · rw [List.getElem?_eq_none (by simp [rowTo']; omega), List.getElem?_eq_none (by simp [rowTo']; omega)]
theorem rowTo'_all (g n : Nat) : rowTo' g n n = rowPs g n := by
  unfold rowTo' rowPs
  apply List.map_congr_left
  intro i hi
  rw [if_pos (List.mem_range.1 hi)]
set_option maxRecDepth 100000 in
set_option maxHeartbeats 4000000 in
theorem table_any (v : Value) (p : List Int) (w : World) (hv : Ints w v p) (hp : ∀ x ∈ p, 0 ≤ x ∧ x < p.length) (hl : p.length ≤ 60) :
    Calls Try.prog 94 #[v] w fun e w' => e = .returned (.slice (some ⟨w.heap.size, 0, none⟩) p.length p.length) ∧ Tab w' w.heap.size p.length (invT p) ∧ w'.heap.size = w.heap.size + 1 + p.length ∧ Below w.heap.size w w' := by
  obtain ⟨ao, n, cap, rfl, HN, hn'⟩ := hv.open
  have hn2 : n ≤ 60 := by have := HN.out; omega
  have HP := Lib.hid hp
  clear hp hl
  rw [HN.out]
  have tok1 : True := trivial
  go_enter Try.func94, Try.ntmps94
  go_wp2_with (at_make; refine wpList_makeV Try.info114 Try.underlying112 rfl rfl _ _ rfl n rfl rfl (by omega) (by omega) (by omega) (by omega) ?_; intro w1 hb1 hB1 hs1)
  obtain ⟨g, HG⟩ : ∃ g, Hid (w.heap.size = g) := ⟨_, rfl⟩
  rw [HG.out] at hb1 hB1 hs1 ⊢
  rw [← rowTo'_zero g n] at hb1
  go_loopw [4] (fun i wr => ∃ k : Nat, k ≤ n ∧ i = .int .i64 k ∧ Hid (Blk wr g 114 (rowTo' g n k)) ∧ Hid (∀ i, i < k → Blk wr (g + 1 + i) 4 (rowBs n (fun _ => false))) ∧ Hid (wr.heap.size = g + 1 + k) ∧ Below g w wr) (fun i _ => n - (intOf i).toNat)
  case atStart => exact ⟨0, by omega, rfl, hb1, (show Hid (∀ i, i < 0 → Blk w1 (g + 1 + i) 4 (rowBs n (fun _ => false))) from fun i h => by omega), hs1, hB1⟩
  case round =>
    clear hb1 hs1 hB1
    obtain ⟨k, hk, rfl, HB, HR, HS, hB⟩ := hrel
    by_cases hlt : k < n
    · have hcell := HB.out.cell (rowTo'_get hlt)
      rw [if_neg (by omega)] at hcell
      have hfr := HB.out.free k
      go_wp2_with (at_make; refine wpList_makeV Try.infoB Try.underlying114 rfl rfl _ _ rfl n rfl rfl (by omega) (by omega) (by omega) (by omega) ?_; intro w2 hb2 hB2 hs2; have hc2 := (hB2.cell (p := ⟨g, k, none⟩) (by have := HS.out; simp; omega)).trans hcell; have hf2 := (World.frozen?_of_block (a := ⟨g, k, none⟩) (hB2.block g (by have := HS.out; omega))).trans hfr)
      have hsw := HS.out
      have HB2 := Lib.hid hb2
      have HBB2 := Lib.hid hB2
      have HS2 := Lib.hid hs2
      clear hb2 hB2 hs2
      refine ⟨⟨k + 1, by omega, by go_num, ?_, ?_, ?_, ?_⟩, by simp [intOf]; omega⟩
      · show Hid _
        have h := (HB.out.keep HBB2.out).set k (.slice (some ⟨wr.heap.size, 0, none⟩) n n)
        rw [HS.out] at h ⊢
        rw [rowTo'_set hlt] at h
        exact h
      · show Hid _
        intro i hi
        by_cases e : i = k
        · subst e
          have h := HB2.out.other (a := ⟨g, i, none⟩) (by simp; omega) (.slice (some ⟨wr.heap.size, 0, none⟩) n n)
          rw [rowBs_false, HS.out] at h
          rw [HS.out]
          exact h
        · exact ((HR.out i (by omega)).keep HBB2.out).other (a := ⟨g, k, none⟩) (by simp; omega) _
      · show (w2.setCell ⟨g, k, none⟩ (.slice (some ⟨wr.heap.size, 0, none⟩) n n)).heap.size = g + 1 + (k + 1)
        have h : w2.heap.size = wr.heap.size + 1 := HS2.out
        have h' : wr.heap.size = g + 1 + k := HS.out
        have h'' : (w2.setCell ⟨g, k, none⟩ (.slice (some ⟨wr.heap.size, 0, none⟩) n n)).heap.size = w2.heap.size := by simp [World.setCell]
        rw [h'', h, h']; omega
      · exact (hB.trans (HBB2.out.mono (by omega))).setCell (p := ⟨g, k, none⟩) (Nat.le_refl _) _
    · obtain rfl : k = n := by omega
      have htab : Tab wr g k (invOf p (invTo p 0)) := by
        rw [show invTo p 0 = [] from rfl, invOf_nil]
        exact ⟨by rw [← rowTo'_all]; exact HB.out, HR.out⟩
      have HT := Lib.hid htab
      clear htab HB HR
      go_wp2_with fail
      go_loopw [5] (fun i wx => ∃ m : Nat, m ≤ k ∧ i = .int .i64 m ∧ Hid (Tab wx g k (invOf p (invTo p m))) ∧ Hid (wx.heap.size = g + 1 + k) ∧ Below g w wx) (fun i _ => k - (intOf i).toNat)
      case atStart => exact ⟨0, by omega, rfl, HT, HS, hB⟩
      case round =>
        clear HT HS hB
        obtain ⟨m, hm, rfl, HT, HS, hB⟩ := hrel
        by_cases hlm : m < k
        · obtain ⟨b, o, x, rfl, hx, hcx0⟩ := hv.at_ hlm
          have hbl : b < w.heap.size := World.block_lt_of_cell? w _ hcx0
          rw [HG.out] at hbl
          obtain ⟨x0, x1⟩ := HP.out x (List.mem_of_getElem? hx.out)
          rw [HN.out] at x1
          obtain ⟨a1, rfl⟩ := Int.eq_ofNat_of_zero_le x0
          have ha1 : a1 < k := by omega
          go_wp2_with fail
          go_loopw [6] (fun j wz => ∃ d : Nat, d ≤ k - (m + 1) ∧ j = .int .i64 ((m : Int) + 1 + d) ∧ Hid (Tab wz g k (invOf p (invTo p m ++ rowTo p m d))) ∧ Hid (wz.heap.size = g + 1 + k) ∧ Below g w wz) (fun j _ => k - (intOf j).toNat)
          case atStart => exact ⟨0, by omega, by go_num, (show Hid (Tab wr g k (invOf p (invTo p m ++ rowTo p m 0))) by show Tab wr g k _; rw [rowTo, List.append_nil]; exact HT.out), HS, hB⟩
          case round =>
            clear HT HS hB
            obtain ⟨d, hd, rfl, HT, HS, hB⟩ := hrel
            by_cases hld : m + 1 + d < k
            · obtain ⟨y, hy, hcy0⟩ := hv.cell_ (k := m + 1 + d) hld
              obtain ⟨y0, y1⟩ := HP.out y (List.mem_of_getElem? hy.out)
              rw [HN.out] at y1
              obtain ⟨a2, rfl⟩ := Int.eq_ofNat_of_zero_le y0
              have ha2 : a2 < k := by omega
              have hcx := (hB.cell (p := ⟨b, o + m, none⟩) hbl).trans hcx0
              have hcy := (hB.cell (p := ⟨b, o + (m + 1 + d), none⟩) hbl).trans hcy0
              have e1 : (m : Int) + 1 + d < k := by omega
              have e2 : (0 : Int) ≤ (m : Int) + 1 + d := by omega
              have hrow : rowTo p m (d + 1) = rowTo p m d ++ (if (a2 : Int) < (a1 : Int) then [(m, m + 1 + d)] else []) := by rw [rowTo, hy.out, hx.out]; rfl
              have HROW := Lib.hid hrow
              clear hrow
              by_cases hyx : (a2 : Int) < (a1 : Int)
              · have hd1 : decide ((a2 : Int) < (a1 : Int)) = true := by simpa using hyx
                have hnew : invOf p (invTo p m ++ rowTo p m (d + 1)) = upd (invOf p (invTo p m ++ rowTo p m d)) a1 a2 true := by
                  rw [HROW.out, if_pos hyx, ← List.append_assoc]
                  exact invOf_snoc p _ (m, m + 1 + d) hx.out hy.out
                have HNEW := Lib.hid hnew
                clear hnew
                have hrw := HT.out.row ha1
                have hcl := HT.out.cell ha1 ha2
                have hfr := HT.out.free ha1 a2
                have i1 : (a1 : Int) < k := by omega
                have i2 : (a2 : Int) < k := by omega
                go_wp2_with fail
                go_quiet (fail)
                go_wp2_with fail
                have hTq : Tab (wr.drewN nq).drew g k (invOf p (invTo p m ++ rowTo p m d)) := HT.out
                have hBq : Below g w (wr.drewN nq).drew := (hB.drewN' nq).drewN' 1
                have hSq : (wr.drewN nq).drew.heap.size = g + 1 + k := HS.out
                have hxq : (wr.drewN nq).cell? ⟨b, o + m, none⟩ = some (.int .i64 (a1 : Int)) := hcx
                have hyq : (wr.drewN nq).cell? ⟨b, o + (m + 1 + d), none⟩ = some (.int .i64 (a2 : Int)) := hcy
                have hrq : (wr.drewN nq).cell? ⟨g, a1, none⟩ = some (.slice (some ⟨g + 1 + a1, 0, none⟩) k k) := hrw
                have hcq : (wr.drewN nq).drew.cell? ⟨g + 1 + a1, a2, none⟩ = some (.bool (invOf p (invTo p m ++ rowTo p m d) a1 a2)) := hcl
                have hfq : (wr.drewN nq).drew.frozen? ⟨g + 1 + a1, a2, none⟩ = false := hfr
                have HTQ := Lib.hid hTq
                have HBQ := Lib.hid hBq
                have HSQ := Lib.hid hSq
                clear hTq hBq hSq hcx hcy hrw hcl hfr HT HS hB
                generalize wr.drewN nq = wq at *
                refine wp_tailQ 12 (by kernel_rfl) (by kernel_rfl) (by rfl) ?_
                simp only [List.take_succ_cons, List.take_zero, List.drop_succ_cons, List.drop_zero]
                repeat (go_big_quiet_step (fail))
                refine wpQuiet_nil ?_
                clear hxq hyq hrq
                generalize wq.drew = w5 at *
                go_wp2_with fail
                go_roundw
                case rel =>
                  refine ⟨d + 1, by omega, by go_num, ?_, ?_, HBQ.out.setCell (p := ⟨g + 1 + a1, a2, none⟩) (by simp; omega) _⟩
                  · show Hid _
                    rw [HNEW.out]
                    exact HTQ.out.set ha1 a2 true
                  · show Hid _
                    have h'' : (w5.setCell ⟨g + 1 + a1, a2, none⟩ (.bool true)).heap.size = w5.heap.size := by simp [World.setCell]
                    rw [h'']; exact HSQ.out
                case measure => simp [intOf]; omega
              · have hd1 : decide ((a2 : Int) < (a1 : Int)) = false := by simpa using hyx
                go_wp2_with fail
                go_quiet (fail)
                go_wp2_with fail
                go_roundw
                case rel => exact ⟨d + 1, by omega, by go_num, (show Hid (Tab (_ : World) g k (invOf p (invTo p m ++ rowTo p m (d + 1)))) by show Tab _ g k _; rw [HROW.out, if_neg (by omega), List.append_nil]; exact HT.out), HS, hB.drewN' _⟩
                case measure => simp [intOf]; omega
            · have hdm : d = k - (m + 1) := by omega
              have hnx : invTo p (m + 1) = invTo p m ++ rowTo p m d := by rw [invTo, HN.out, hdm]
              have HNX := Lib.hid hnx
              clear hnx hdm
              go_wp2_with fail
              go_roundw
              case rel => exact ⟨m + 1, by omega, by go_num, (show Hid (Tab (_ : World) g k (invOf p (invTo p (m + 1)))) by show Tab _ g k _; rw [HNX.out]; exact HT.out), HS, hB⟩
              case measure => simp [intOf]; omega
        · obtain rfl : m = k := by omega
          have hall : invOf p (invTo p m) = invT p := by unfold invT invs; rw [HN.out]
          have HALL := Lib.hid hall
          clear hall
          go_wp2_with fail
          go_ret
          refine ⟨by rw [HG.out]; rfl, by rw [HG.out, ← HALL.out]; exact HT.out, by rw [HG.out]; exact HS.out, by rw [HG.out]; exact hB⟩
end Go.Proofs.Ytgajaccnjjiiaaa
