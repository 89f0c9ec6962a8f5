/- The reference's Size and Canonical: the walks. -/
import Derived.Test.YtgajaccnjjiiaaaW73
import Derived.Test.YtgajaccnjjiiaaaW65
import Derived.Test.YtgajaccnjjiiaaaW47
namespace Go.Proofs.Ytgajaccnjjiiaaa
open Go.RowKit

abbrev N3 := Nat × Nat × Nat
def foldR (f : TM → N3) : List TM → N3 → N3
  | [], r => r
  | t :: ts, r => if r.2.1 ≤ 1000 then foldR f ts (r.1 + (f t).1, r.2.1 + (f t).2.1, max r.2.2 (f t).2.2) else r
def szR : Nat → TM → N3
  | 0, _ => (0, 0, 1)
  | l + 1, .mk _ _ ps => ((foldR (szR l) ps (if ps.length = 0 then 1 else 0, 1, 0)).1, (foldR (szR l) ps (if ps.length = 0 then 1 else 0, 1, 0)).2.1, (foldR (szR l) ps (if ps.length = 0 then 1 else 0, 1, 0)).2.2 + 1)
theorem foldR_box {f : TM → N3} {B C : Nat} (hf : ∀ t, (f t).1 ≤ (f t).2.1 ∧ (f t).2.1 ≤ B ∧ (f t).2.2 ≤ C) : ∀ (ts : List TM) (r : N3), r.1 ≤ r.2.1 → r.2.1 ≤ 1000 + B → r.2.2 ≤ C →
    (foldR f ts r).1 ≤ (foldR f ts r).2.1 ∧ (foldR f ts r).2.1 ≤ 1000 + B ∧ (foldR f ts r).2.2 ≤ C
  | [], r, h1, h2, h3 => by rw [foldR]; exact ⟨h1, h2, h3⟩
  | t :: ts, r, h1, h2, h3 => by
    rw [foldR]
    have := hf t
    split
    · exact foldR_box hf ts _ (by simp only []; omega) (by simp only []; omega) (by simp only []; omega)
    · exact ⟨h1, h2, h3⟩
theorem szR_box : ∀ (l : Nat) (t : TM), (szR l t).1 ≤ (szR l t).2.1 ∧ (szR l t).2.1 ≤ 1000 * (l + 1) ∧ (szR l t).2.2 ≤ l + 1
  | 0, t => by rw [szR]; simp
  | l + 1, .mk k perm ps => by
    rw [szR]
    obtain ⟨lv, hlv, hlv1⟩ : ∃ lv, (if ps.length = 0 then 1 else 0) = lv ∧ lv ≤ 1 := by
      by_cases h : ps.length = 0
      · exact ⟨1, if_pos h, by omega⟩
      · exact ⟨0, if_neg h, by omega⟩
    rw [hlv]
    obtain ⟨B, hB⟩ : ∃ B, B = 1000 * (l + 1) := ⟨_, rfl⟩
    have hf := fun t => szR_box l t
    rw [← hB] at hf
    obtain ⟨h1, h2, h3⟩ := foldR_box (f := szR l) (B := B) (C := l + 1) hf ps (lv, 1, 0) hlv1 (by show 1 ≤ 1000 + B; omega) (Nat.zero_le _)
    generalize foldR (szR l) ps (lv, 1, 0) = r at *
    refine ⟨h1, ?_, ?_⟩
    · show r.2.1 ≤ _
      rw [Nat.mul_add, ← hB]; omega
    · show r.2.2 + 1 ≤ _
      omega
theorem foldR_at {f : TM → N3} {ts : List TM} {j : Nat} {t : TM} {r : N3} (h : ts[j]? = some t) : foldR f (ts.drop j) r = if r.2.1 ≤ 1000 then foldR f (ts.drop (j + 1)) (r.1 + (f t).1, r.2.1 + (f t).2.1, max r.2.2 (f t).2.2) else r := by
  obtain ⟨hj, rfl⟩ := List.getElem?_eq_some_iff.1 h
  rw [List.drop_eq_getElem_cons hj, foldR]

set_option maxRecDepth 100000 in
set_option maxHeartbeats 4000000 in
theorem rSize_any : ∀ (l : Nat) (v : Value) (t : TM) (w : World) (ok : Nat → Prop) (dp : Int), l ≤ 101 → dp = 102 - l → TreeAt w ok v t →
    Calls Try.prog 85 #[v, .int .i64 dp] w fun e w' => e = .returned (.tuple #[.int .i64 (szR l t).1, .int .i64 (szR l t).2.1, .int .i64 (szR l t).2.2]) ∧ Below w.heap.size w w' := by
  intro l
  induction l with
  | zero =>
    intro v t w ok dp _ hdp ht
    obtain rfl : dp = 102 := by omega
    obtain ⟨k, a, n, c, a', n', c', rfl⟩ := ht.slices
    clear ht hdp
    go_enter Try.func85, Try.ntmps85
    go_wp2_with fail
    go_ret3
    exact ⟨rfl, (Below.refl _ _).alloc (Nat.le_refl _) _⟩
  | succ l ih =>
    intro v t w ok dp hl hdp ht
    obtain ⟨k, perm, ts⟩ := t
    obtain ⟨pv, tv, rfl, hp, hts⟩ := ht.parts
    obtain ⟨a1, n1, c1, rfl, _, _⟩ := hp.open
    obtain ⟨a, n, cap, rfl, HN, hn⟩ := hts.open
    have hd1 : ¬ (101 : Int) < dp := by omega
    have hd2 : 1 ≤ dp ∧ dp ≤ 101 := by omega
    have HDP := Lib.hid hdp
    have IH := Lib.hid ih
    have HTS := Lib.hid hts
    have hbx := szR_box l
    have HBX := Lib.hid hbx
    obtain ⟨lv0, hlv0⟩ : ∃ lv0 : Nat, lv0 = if n = 0 then 1 else 0 := ⟨_, rfl⟩
    have hsz : szR (l + 1) (.mk k perm ts) = ((foldR (szR l) ts (lv0, 1, 0)).1, (foldR (szR l) ts (lv0, 1, 0)).2.1, (foldR (szR l) ts (lv0, 1, 0)).2.2 + 1) := by rw [szR, HN.out, ← hlv0]
    have HSZ := Lib.hid hsz
    have hl01 : lv0 ≤ 1 := by rw [hlv0]; split <;> omega
    clear ih hp hts ht hsz hdp hbx
    rcases Nat.eq_zero_or_pos n with h0 | h0
    case' inl =>
      rw [if_pos h0] at hlv0
      have tn : ((n : Int) == 0) = true := by simp [h0]
    case' inr =>
      rw [if_neg (by omega)] at hlv0
      have tn : ((n : Int) == 0) = false := by simp; omega
    all_goals
      subst hlv0
      clear h0
      go_enter Try.func85, Try.ntmps85
      go_wp2_with fail
      go_loopw [7, 8, 9, 10] (fun av bv cv iv wr => ∃ (j x y z : Nat), j ≤ n ∧ iv = .int .i64 j ∧ av = .int .i64 x ∧ bv = .int .i64 y ∧ cv = .int .i64 z ∧ x ≤ y ∧ y ≤ 1000 + 1000 * (l + 1) ∧ z ≤ l + 1 ∧ Blk wr w.heap.size 65 [.int .i64 k, .slice a1 n1 c1, .slice a n cap] ∧ Below w.heap.size w wr ∧ Hid (szR (l + 1) (.mk k perm ts) = ((foldR (szR l) (ts.drop j) (x, y, z)).1, (foldR (szR l) (ts.drop j) (x, y, z)).2.1, (foldR (szR l) (ts.drop j) (x, y, z)).2.2 + 1))) (fun _ _ _ iv _ => n - (intOf iv).toNat)
      case atStart => exact ⟨0, _, 1, 0, by omega, rfl, rfl, rfl, rfl, by omega, by omega, by omega, Blk.new w 65 _, (Below.refl _ _).alloc (Nat.le_refl _) _, HSZ⟩
      case round =>
        obtain ⟨j, x, y, z, hj, rfl, rfl, rfl, rfl, hxy, hy, hz, hblk, hB, HA⟩ := hrel
        have hsz := hB.size
        have c2 := hblk.cell (j := 2) rfl
        by_cases hlt : j < n
        · by_cases hy1 : y ≤ 1000
          · have hyi : (y : Int) ≤ 1000 := by omega
            obtain ⟨b, o, t, rfl, hbl, hgt, xk, ya, yn, yc, za, zn, zc, d0, d1, d2, htr⟩ := HTS.out.at_ hlt
            have e0 := (hB.cell (p := ⟨b, o + j * 3, none⟩) hbl).trans d0
            have e1 := (hB.cell (p := ⟨b, o + j * 3 + 1, none⟩) hbl).trans d1
            have e2 := (hB.cell (p := ⟨b, o + j * 3 + 2, none⟩) hbl).trans d2
            have hst := foldR_at (f := szR l) (r := (x, y, z)) hgt.out
            rw [if_pos hy1] at hst
            have htr1 : TreeAt wr ok (.agg #[.int .i64 xk, .slice ya yn yc, .slice za zn zc]) t := htr.kept hB.size (fun b hk hlt => ⟨hk, hB.block b hlt⟩)
            have hbd := HBX.out t
            have hca := IH.out _ t _ ok (dp + 1) (by omega) (by have := HDP.out; omega) htr1
            generalize szR l t = r at *
            obtain ⟨r1, r2, r3⟩ := r
            simp only [] at hst hbd hca
            have HST := Lib.hid hst
            have HCA := Lib.hid hca
            clear d0 d1 d2 htr htr1 hst hca
            go_wp2_with (go_at_call 85; refine HCA.out.mono ?_; rintro e w3 ⟨rfl, hb3⟩)
            go_roundw
            case rel => exact ⟨j + 1, x + r1, y + r2, max z r3, by omega, by go_num, by go_num, by go_num, by go_num, by omega, by omega, by omega, hblk.keep hb3, hB.trans (hb3.mono hsz), by show _ = _; rw [HA.out, HST.out]⟩
            case measure => simp [intOf]; omega
          · have hyi : ¬ (y : Int) ≤ 1000 := by omega
            have hfin : szR (l + 1) (.mk k perm ts) = (x, y, z + 1) := by
              obtain ⟨t, ht⟩ : ∃ t, ts[j]? = some t := ⟨_, List.getElem?_eq_getElem (by rw [HN.out]; exact hlt)⟩
              rw [HA.out, foldR_at ht, if_neg hy1]
            have HF := Lib.hid hfin
            clear hfin hy1
            go_wp2_with fail
            go_ret3
            exact ⟨by rw [HF.out]; rfl, hB⟩
        · obtain rfl : j = n := by omega
          have hfin : szR (l + 1) (.mk k perm ts) = (x, y, z + 1) := by rw [HA.out, List.drop_of_length_le (by rw [HN.out]; exact Nat.le_refl _)]; rfl
          have HF := Lib.hid hfin
          clear hfin
          go_wp2_with fail
          go_ret3
          exact ⟨by rw [HF.out]; rfl, hB⟩
end Go.Proofs.Ytgajaccnjjiiaaa
