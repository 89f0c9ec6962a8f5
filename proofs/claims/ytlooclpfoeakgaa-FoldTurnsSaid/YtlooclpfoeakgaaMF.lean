/- Edges are numbered, in the reference: the walk. -/
import Derived.Test.YtlooclpfoeakgaaME
import Derived.Test.YtlooclpfoeakgaaMD
import Derived.BigQuiet
import Derived.Laws.AppendOwn
import Derived.Laws.AppendOwnNone
namespace Go.Proofs.Ytlooclpfoeakgaa
open Go.RowKit

/-! ### plain laws -/
/-- one place of a row -/
def numOne (l : List Nat) : Option Nat → List Nat × Int
  | none => (l, -1)
  | some t => match posOf t l with
    | some m => (l, (m : Int))
    | none => (l ++ [t], (l.length : Int))
theorem rowN_one (nx : Nat → Nat → Option Nat) (v p : Nat) (ps : List Nat) (l : List Nat) (r : List Int) : rowN nx v (p :: ps) l r = rowN nx v ps (numOne l (nx v p)).1 (r ++ [(numOne l (nx v p)).2]) := by
  rw [rowN]
  cases nx v p with
  | none => rfl
  | some t =>
    show (match posOf t l with | some n => _ | none => _) = rowN nx v ps (match posOf t l with | some m => (l, (m : Int)) | none => (l ++ [t], (l.length : Int))).1 (r ++ [(match posOf t l with | some m => (l, (m : Int)) | none => (l ++ [t], (l.length : Int))).2])
    cases posOf t l <;> rfl
theorem nxE_snoc (l : List Ed) (e : Ed) (v p : Nat) : nxE (l ++ [e]) v p = (nxE l v p).or (if hitE v p e = true then some (endE p e) else none) := by
  unfold nxE
  rw [List.find?_append]
  cases l.find? (hitE v p) with
  | some x => rfl
  | none =>
    show Option.map _ ((none : Option Ed).or _) = _
    rw [Option.none_or]
    by_cases h : hitE v p e = true
    · rw [if_pos h]; simp [h]
    · rw [if_neg h]; simp [h]
theorem Det.first {l : List Ed} (hd : Det l) {j : Nat} {e : Ed} (he : l[j]? = some e) {v p : Nat} (h : hitE v p e = true) : nxE (l.take j) v p = none := by
  cases hn : nxE (l.take j) v p with
  | none => rfl
  | some u =>
    obtain ⟨x, hx, h1, _⟩ := nxE_at hn
    obtain ⟨i, hi, rfl⟩ := List.mem_iff_getElem.1 hx
    rw [List.length_take] at hi
    obtain ⟨hj, rfl⟩ := List.getElem?_eq_some_iff.1 he
    rw [List.getElem_take] at h1
    have hp := List.pairwise_iff_getElem.1 hd i j (by omega) hj (by omega)
    rw [hit_iff] at h h1
    have := hp (h1.1.trans h.1.symm)
    by_cases q : p % 2 = 0
    · exact absurd ((h1.2.1 q).trans (h.2.1 q).symm) this.1
    · exact absurd ((h1.2.2 q).trans (h.2.2 q).symm) this.2
theorem row_put2 {K p : Nat} {r : List Int} {y : Int} (hr : r.length = p) (x : Int) : (I64s ((r ++ [y]) ++ List.replicate (K - (p + 1)) 0)).set p (.int .i64 x) = I64s ((r ++ [x]) ++ List.replicate (K - (p + 1)) 0) := by
  rw [i64s_set, List.append_assoc, List.set_append_right _ _ (by omega), hr, Nat.sub_self, List.append_assoc]; rfl
theorem row_at2 {K p : Nat} {r : List Int} {y : Int} (hr : r.length = p) : (I64s ((r ++ [y]) ++ List.replicate (K - (p + 1)) 0))[p]? = some (.int .i64 y) := by
  refine i64s_get ?_
  rw [List.append_assoc, List.getElem?_append_right (by omega), hr, Nat.sub_self]; rfl
theorem Try.size32 : (Try.prog.info? 32).map (·.size) = some 2 := by kernel_rfl
theorem ret112 {w : World} {tmps : Array Value} {g : Nat} {M : List Value} (hM : M.length = 2) (hp : tmps.getD 4 undef = .pointer (some ⟨g, 0, none⟩)) (hb : Blk w g 32 M) : (results Try.f112 tmps).run Try.prog w = .ok (.agg M.toArray) w :=
  results_cell_row rfl tmps w g 32 _ (0, 0) _ hp hb Try.underlying32 rfl (by rw [Try.size32]; simp [hM])

set_option maxRecDepth 100000 in
set_option maxHeartbeats 4000000 in
theorem rNumbered_any (w : World) (k base N : Nat) (v : Value) (l : List Ed) (h : OwnE w base v l) (hd : Det l) (hlow : ∀ e ∈ l, e.1 < N ∧ e.2.2 < N) (h0 : 0 < N) (hN : N < 1000000) (hk1 : 1 ≤ k) (hk4 : k ≤ 4) (hll : l.length < 1000000) :
    Calls Try.prog 112 #[.int .i64 k, v] w fun e w' => ∃ rv, e = .returned (.agg #[.int .i64 k, rv]) ∧ RowsAt w' w.heap.size rv (numN (nxE l) (List.range (2 * k)) N 0 [0] []) (fun _ => True) ∧ Below w.heap.size w w' := by
  obtain ⟨K, hK⟩ : ∃ K, K = 2 * k := ⟨_, rfl⟩
  have hK8 : K ≤ 8 := by omega
  have hwK : IntKind.i64.wrap (2 * (k : Int)) = K := by rw [IntKind.wrap_i64]; omega
  have hmm := @run_makeMap Try.prog
  obtain ⟨L, hL⟩ : ∃ L, l.length = L := ⟨_, rfl⟩
  have h9 : OwnK w base 102 3 v L (edL l) := by rw [← hL]; exact h
  obtain ⟨va, vc, rfl, hv1, hv2, -⟩ := row_shape h9
  have hnxN : ∀ u p t, nxE l u p = some t → t < N := fun u p t ht => by
    obtain ⟨e, he, _, h2⟩ := nxE_at ht
    rw [← h2]
    unfold endE
    split
    · exact (hlow e he).2
    · exact (hlow e he).1
  have HH := Lib.hid h
  have HL := Lib.hid hL
  have HDET := Lib.hid hd
  have HLOW := Lib.hid hlow
  have HNX := Lib.hid hnxN
  have HK := Lib.hid hK
  rw [hL] at hll
  rw [← hK]
  clear h h9 hL hd hlow hnxN hK
  obtain ⟨w0, hw0⟩ : ∃ w0, w0 = (((w.alloc (.cells #[.int .i64 0, .slice none 0 0] 32)).alloc (.cells #[.int .i64 k, .slice none 0 0] 32)).alloc (.cells (I64s [(0 : Int)]).toArray 3)) := ⟨_, rfl⟩
  have hw0s : w0.heap.size = w.heap.size + 1 + 1 + 1 := by rw [hw0]; simp
  obtain ⟨w1, hupd, hm1, hg1⟩ := (MapI.new w0).update (n := 0) (by omega) (k := 0) (by omega) (v := 0) (by decide)
  rw [hw0s, hw0] at hupd
  replace hupd : (Instr.mapUpdate 157 (.map (some (w.heap.size + 1 + 1 + 1))) (.int .i64 0) (.int .i64 0)).run Try.prog ((((w.alloc (.cells #[.int .i64 0, .slice none 0 0] 32)).alloc (.cells #[.int .i64 k, .slice none 0 0] 32)).alloc (.cells #[.int .i64 0] 3)).alloc (.map #[] 0)) = .ok () w1 := hupd
  rw [hw0s] at hm1 hg1
  have hb0 : Below w.heap.size w w0 := by rw [hw0]; exact (((Below.refl _ w).alloc (Nat.le_refl _) _).alloc (by simp) _).alloc (by simp; omega) _
  have hb1 : Below w.heap.size w w1 := (hb0.alloc (by omega) (.map #[] 0)).grown hg1 (by simp; omega) (fun k e => by cases e; omega)
  have hz0 : Blk w0 w.heap.size 32 [.int .i64 0, .slice none 0 0] := by rw [hw0]; exact ((Blk.new w 32 [.int .i64 0, .slice none 0 0]).alloc _).alloc _
  have hx0 : Blk w0 (w.heap.size + 1) 32 [.int .i64 k, .slice none 0 0] := by
    rw [hw0]
    have := (Blk.new (w.alloc (.cells #[.int .i64 0, .slice none 0 0] 32)) 32 [.int .i64 k, .slice none 0 0]).alloc (.cells (I64s [(0 : Int)]).toArray 3)
    simpa using this
  have ho0 : Blk w0 (w.heap.size + 1 + 1) 3 (I64s [(0 : Int)]) := by
    rw [hw0]
    have := Blk.new ((w.alloc (.cells #[.int .i64 0, .slice none 0 0] 32)).alloc (.cells #[.int .i64 k, .slice none 0 0] 32)) 3 (I64s [(0 : Int)])
    simpa using this
  have hz1 := (hz0.alloc (.map #[] 0)).grown hg1 (fun e => by have := Option.some.inj e; omega)
  have hx1 := (hx0.alloc (.map #[] 0)).grown hg1 (fun e => by have := Option.some.inj e; omega)
  have ho1 := (ho0.alloc (.map #[] 0)).grown hg1 (fun e => by have := Option.some.inj e; omega)
  have hfm : (fun j => if j = 0 then some (0 : Int) else (fun _ => none) j) = fun u => (posOf u [0]).map fun (m : Nat) => (m : Int) := by
    funext u
    show _ = Option.map _ (if 0 = u then some 0 else Option.map _ none)
    by_cases e : u = 0
    · subst e; simp
    · rw [if_neg e, if_neg (fun h => e h.symm)]; rfl
  have hm1' : MapI w1 (w.heap.size + 1 + 1 + 1) 1 (fun u => (posOf u [0]).map fun (m : Nat) => (m : Int)) := by rw [← hfm]; exact hm1
  have hn1 : NumR w1 w.heap.size (w.heap.size + 1) (w.heap.size + 1 + 1 + 1) (w.heap.size + 1 + 1) 1 1 k [0] [] (.slice none 0 0) (fun _ => True) :=
    ⟨by omega, by omega, hx1, ho1.own (by omega) (by simp), hm1', RowsAt.nil _ _ _⟩
  have HN := Lib.hid hn1
  have HZ := Lib.hid hz1
  have HR := Lib.hid hb1
  have HD : Hid ([0].Nodup ∧ ∀ x ∈ [0], x < N) := Lib.hid ⟨by simp, fun x hx => by rw [List.mem_singleton.1 hx]; exact h0⟩
  clear hfm hm1' hm1 hg1 hz0 hx0 ho0 hz1 hx1 ho1 hb0 hb1 hn1 hw0s
  go_enter Try.func112, Try.ntmps112
  go_wp2_with fail
  clear hupd hmm hw0 w0
  go_loopw [8, 6] (fun iv ov wr => ∃ (i : Nat) (l1 : List Nat) (g : List (List Int)) (ob oc n : Nat) (rv : Value), i ≤ l1.length ∧ iv = .int .i64 i ∧ ov = .slice (some ⟨ob, 0, none⟩) l1.length oc ∧ Hid (l1.Nodup ∧ ∀ x ∈ l1, x < N) ∧ Hid (g.length = i) ∧ Hid (n ≤ l1.length) ∧
    Hid (numN (nxE l) (List.range K) N 0 [0] [] = numN (nxE l) (List.range K) (N - i) i l1 g) ∧ Hid (NumR wr w.heap.size (w.heap.size + 1) (w.heap.size + 1 + 1 + 1) ob oc n k l1 g rv (fun _ => True)) ∧ Hid (Blk wr w.heap.size 32 [.int .i64 0, .slice none 0 0]) ∧ Hid (Below w.heap.size w wr)) (fun iv _ _ => N - (intOf iv).toNat)
  case atStart => exact ⟨0, [0], [], w.heap.size + 1 + 1, 1, 1, .slice none 0 0, by simp, rfl, rfl, HD, Lib.hid rfl, Lib.hid (by simp), Lib.hid rfl, HN, HZ, HR⟩
  case round =>
    clear HN HZ HR HD
    obtain ⟨i, l1, g, ob, oc, n, rv, hi, rfl, rfl, HD, HG, HNN, HNU, HN, HZ, HR⟩ := hrel
    have hll1 : l1.length ≤ N := nodup_len HD.out.1 (fun x hx => HD.out.2 x hx)
    by_cases hlt : i < l1.length
    · obtain ⟨v, hv⟩ : ∃ v, l1[i]? = some v := ⟨_, List.getElem?_eq_getElem hlt⟩
      have hvV := HD.out.2 v (List.mem_of_getElem? hv)
      have HV := Lib.hid hv
      clear hv
      go_upto_region 8 with (at_make; refine wpList_makeV Try.info3 Try.underlying54 rfl rfl _ _ rfl K rfl rfl (by omega) (by omega) (by omega) (by omega) ?_; intro wm hbm hBm hsm)
      have hnm : NumR wm w.heap.size (w.heap.size + 1) (w.heap.size + 1 + 1 + 1) ob oc n k l1 g rv (fun b => b ≠ wr.heap.size) := HN.out.kept (fun b hb _ => by omega) (fun i _ h2 => hBm.block i h2)
      have hzm := HZ.out.keep hBm
      have hRm := HR.out.trans (hBm.mono HR.out.size)
      have hobl := HN.out.oB.2
      have hrs := HR.out.size
      obtain ⟨rb, hrb⟩ : ∃ rb, wr.heap.size = rb := ⟨_, rfl⟩
      rw [hrb] at hnm hbm hobl hrs ⊢
      have hbm' : Blk wm rb 3 (I64s ([] ++ List.replicate (K - 0) 0)) := by
        have e : I64s ([] ++ List.replicate (K - 0) 0) = List.replicate K (.int .i64 0) := by simp [I64s]
        rw [e]; exact hbm
      have hrow : rowN (nxE l) v (List.range K) l1 [] = rowN (nxE l) v (List.range' 0 (K - 0)) l1 [] := by rw [List.range_eq_range', Nat.sub_zero]
      have HNM := Lib.hid hnm
      have HZM := Lib.hid hzm
      have HRM := Lib.hid hRm
      have HBM := Lib.hid hbm'
      have HRW := Lib.hid hrow
      have HRO : Hid (rb ≠ ob) := Lib.hid (by omega)
      have HRS := Lib.hid hrs
      clear hnm hzm hRm hbm hbm' hrow hobl hBm hsm hrb HZ HR hrs
      go_wp2_with fail
      go_loopw [10, 6] (fun pv ov wr => ∃ (p : Nat) (l2 : List Nat) (r : List Int) (ob oc n : Nat), p ≤ K ∧ pv = .int .i64 p ∧ ov = .slice (some ⟨ob, 0, none⟩) l2.length oc ∧ Hid (l2.Nodup ∧ ∀ x ∈ l2, x < N) ∧ Hid (n ≤ l2.length) ∧ Hid (rowN (nxE l) v (List.range K) l1 [] = rowN (nxE l) v (List.range' p (K - p)) l2 r) ∧ Hid (r.length = p) ∧
        Hid (NumR wr w.heap.size (w.heap.size + 1) (w.heap.size + 1 + 1 + 1) ob oc n k l2 g rv (fun b => b ≠ rb)) ∧ Hid (Blk wr rb 3 (I64s (r ++ List.replicate (K - p) 0))) ∧ Hid (rb ≠ ob) ∧ Hid (l2[i]? = some v) ∧ Hid (Blk wr w.heap.size 32 [.int .i64 0, .slice none 0 0]) ∧ Hid (Below w.heap.size w wr)) (fun pv _ _ => K - (intOf pv).toNat)
      case atStart => exact ⟨0, l1, [], ob, oc, n, by omega, rfl, rfl, HD, HNN, HRW, Lib.hid rfl, HNM, HBM, HRO, HV, HZM, HRM⟩
      case round =>
        clear HNM HBM HRO HZM HRM HRW
        obtain ⟨p, l2, r, ob2, oc2, n2, hp, rfl, rfl, HD2, HN2, HROW, HRL, HNS, HRB, HRO, HVI, HZ, HR⟩ := hrel
        by_cases hlp : p < K
        · have cR := HRB.out.cell (row_at HRL.out hlp)
          have fR := HRB.out.free p
          have p0 : (0 : Int) ≤ p := by omega
          have p1 : (p : Int) < K := by omega
          have hns := HNS.out.setR HRB.out HRO.out p (.int .i64 (-1))
          have hrb : Blk (wr.setCell ⟨rb, p, none⟩ (.int .i64 (-1))) rb 3 (I64s ((r ++ [-1]) ++ List.replicate (K - (p + 1)) 0)) := by rw [← row_put HRL.out hlp]; exact HRB.out.set p _
          have hzz : Blk (wr.setCell ⟨rb, p, none⟩ (.int .i64 (-1))) w.heap.size 32 [.int .i64 0, .slice none 0 0] := row_blk_other HZ.out HRB.out (by decide) p _
          have hRR := HR.out.setCell (p := ⟨rb, p, none⟩) HRS.out (.int .i64 (-1))
          have HNS9 := Lib.hid hns
          have HRB9 := Lib.hid hrb
          have HZ9 := Lib.hid hzz
          have HR9 := Lib.hid hRR
          have hrc := rest_cons hlp
          have hrow2 := HROW.out
          rw [hrc, rowN_one] at hrow2
          have HROW2 := Lib.hid hrow2
          clear hns hrb hzz hRR hrc hrow2 HNS HRB HZ HR HROW
          go_wp2_with fail
          go_loopw [11, 6] (fun jv ov wr => ∃ (j : Nat) (x : Int) (l3 : List Nat) (ob oc n : Nat), j ≤ L ∧ jv = .int .i64 j ∧ ov = .slice (some ⟨ob, 0, none⟩) l3.length oc ∧ Hid (numOne l2 (nxE (l.take j) v p) = (l3, x)) ∧ Hid (l3.Nodup ∧ ∀ x ∈ l3, x < N) ∧ Hid (n ≤ l3.length) ∧
            Hid (NumR wr w.heap.size (w.heap.size + 1) (w.heap.size + 1 + 1 + 1) ob oc n k l3 g rv (fun b => b ≠ rb)) ∧ Hid (Blk wr rb 3 (I64s ((r ++ [x]) ++ List.replicate (K - (p + 1)) 0))) ∧ Hid (rb ≠ ob) ∧ Hid (l3[i]? = some v) ∧ Hid (Blk wr w.heap.size 32 [.int .i64 0, .slice none 0 0]) ∧ Hid (Below w.heap.size w wr)) (fun jv _ _ => L - (intOf jv).toNat)
          case atStart => exact ⟨0, -1, l2, ob2, oc2, n2, by omega, rfl, rfl, Lib.hid rfl, HD2, HN2, HNS9, HRB9, HRO, HVI, HZ9, HR9⟩
          case round =>
            clear HNS9 HRB9 HRO HVI HZ9 HR9 HD2 HN2 cR fR
            obtain ⟨j, x, l3, ob3, oc3, n3, hj, rfl, rfl, HONE, HD3, HN3, HNS, HRB, HRO, HVI, HZ, HR⟩ := hrel
            by_cases hlj : j < L
            · obtain ⟨e, he⟩ : ∃ e, l[j]? = some e := ⟨_, List.getElem?_eq_getElem (by rw [HL.out]; exact hlj)⟩
              obtain ⟨g2, c2, e2, -, -, -, -, -, -⟩ := OwnK.open HH.out (by rw [HL.out]; omega)
              obtain ⟨rfl, -, rfl⟩ : va = some ⟨g2, 0, none⟩ ∧ L = l.length ∧ vc = c2 := by simpa using e2
              obtain ⟨c0, c1, c2⟩ := HH.out.cells HL.out HR.out he
              obtain ⟨hb0, hc0, e', hhb, hhl, hh1, hh2, hfr, hcs⟩ := HNS.out.ord.open (by have := (List.getElem?_eq_some_iff.1 HVI.out).1; omega)
              obtain ⟨rfl, rfl⟩ : ob3 = hb0 ∧ oc3 = hc0 := by simpa using e'
              have cI := hcs i (v : Int) (by rw [List.getElem?_map, HVI.out]; rfl)
              have hil := (List.getElem?_eq_some_iff.1 HVI.out).1
              have i0 : (0 : Int) ≤ i := by omega
              have i1 : (i : Int) < l3.length := by omega
              have j0 : (0 : Int) ≤ j := by omega
              have j1 : (j : Int) < L := by omega
              have hsn := nxE_snoc (l.take j) e v p
              rw [show l.take j ++ [e] = l.take (j + 1) by rw [List.take_add_one, he]; rfl] at hsn
              obtain ⟨hel1, hel2⟩ := HLOW.out e (List.mem_of_getElem? he)
              have HSN := Lib.hid hsn
              have HE := Lib.hid he
              obtain ⟨e1, m, e3⟩ := e
              simp only at c0 c1 c2 hel1 hel2
              clear e2 e' hcs hfr hsn he
              obtain ⟨q, hq⟩ : ∃ q, p / 2 = q := ⟨_, rfl⟩
              have hdiv1 : Int.tdiv (p : Int) 2 = q := by rw [← hq]; exact (Int.ofNat_tdiv p 2).symm
              have hwq : IntKind.i64.wrap (q : Int) = q := by rw [IntKind.wrap_i64]; omega
              by_cases hpar : p % 2 = 0
              · have hrem1 : Int.tmod (p : Int) 2 = 0 := by rw [show Int.tmod (p : Int) 2 = ((p % 2 : Nat) : Int) from (Int.ofNat_tmod p 2).symm, hpar]; rfl
                by_cases hmq : m = q
                · subst hmq
                  by_cases hev : e1 = v
                  · have hev2 := hev.symm
                    subst hev2
                    have hht : hitE v p (v, m, e3) = true := by
                      rw [hit_iff]
                      exact ⟨hq.symm, fun _ => rfl, fun h => absurd hpar h⟩
                    have hfi := HDET.out.first HE.out hht
                    have hon := HONE.out
                    rw [hfi] at hon
                    obtain ⟨rfl, rfl⟩ : l2 = l3 ∧ (-1 : Int) = x := by
                      simpa [numOne] using hon
                    have hone : nxE (l.take (j + 1)) v p = some e3 := by
                      rw [HSN.out, hfi, if_pos hht, Option.none_or]
                      unfold endE
                      rw [if_pos hpar]
                    have huN : e3 < N := by assumption
                    have ht0 : ¬ ((e3 : Int) < 0) := by omega
                    have HHH := Lib.hid hone
                    clear hht hfi hon hone HSN HE hpar hq
                    go_upto_region 16 with fail
                    go_quiet (fail)
                    generalize nq = na
                    go_upto_region 18 with fail
                    go_quiet (fail)
                    generalize nq = nb
                    have hns := HNS.out.congr (w2 := (wr.drewN (na + nb))) (fun _ _ _ => rfl)
                    have hrbk : Blk (wr.drewN (na + nb)) rb 3 (I64s ((r ++ [-1]) ++ List.replicate (K - (p + 1)) 0)) := HRB.out
                    have hzz : Blk (wr.drewN (na + nb)) w.heap.size 32 [.int .i64 0, .slice none 0 0] := HZ.out
                    have hRR : Below w.heap.size w (wr.drewN (na + nb)) := HR.out.trans ((Below.refl _ _).drewN' _)
                    have hsz := hRR.size
                    cases hpo : posOf e3 l2 with
                    | some y =>
                      have hlk := hns.map.look2 (k := e3) (by omega)
                      simp only [hpo, Option.map_some, Option.getD_some, Option.isSome_some] at hlk
                      have hone : numOne l2 (nxE (l.take (j + 1)) v p) = (l2, (y : Int)) := by
                        rw [HHH.out]; unfold numOne; simp only [hpo]
                      have cR := hrbk.cell (row_at2 HRL.out)
                      have fR := hrbk.free p
                      have G1 := Lib.hid (hns.setR hrbk HRO.out p (.int .i64 y))
                      have G2 : Hid (Blk ((wr.drewN (na + nb)).setCell ⟨rb, p, none⟩ (.int .i64 y)) rb 3 (I64s ((r ++ [(y : Int)]) ++ List.replicate (K - (p + 1)) 0))) := Lib.hid (by rw [← row_put2 HRL.out]; exact hrbk.set p _)
                      have GZ : Hid (Blk ((wr.drewN (na + nb)).setCell ⟨rb, p, none⟩ (.int .i64 y)) w.heap.size 32 [.int .i64 0, .slice none 0 0]) := Lib.hid (row_blk_other hzz hrbk (by decide) p _)
                      have GR := Lib.hid (hRR.setCell (p := ⟨rb, p, none⟩) HRS.out (.int .i64 y))
                      have HONE2 := Lib.hid hone
                      clear hns hrbk hzz hRR hone hpo
                      go_wp2_with fail
                      go_roundw
                      case rel => exact ⟨j + 1, (y : Int), l2, ob3, oc3, n3, by omega, by go_num, rfl, HONE2, HD3, HN3, G1, G2, HRO, HVI, GZ, GR⟩
                      case measure => simp [intOf]; omega
                    | none =>
                      have hnotin := posOf_none.1 hpo
                      have hlk := hns.map.look2 (k := e3) (by omega)
                      simp only [hpo, Option.map_none, Option.getD_none, Option.isSome_none] at hlk
                      have hone : numOne l2 (nxE (l.take (j + 1)) v p) = (l2 ++ [e3], (l2.length : Int)) := by
                        rw [HHH.out]; unfold numOne; simp only [hpo]
                      have hl2N : l2.length ≤ N := nodup_len HD3.out.1 (fun x hx => HD3.out.2 x hx)
                      obtain ⟨w3, hupd, hm3, hg3⟩ := hns.map.update (n := n3) (by have := HN3.out; omega) (k := e3) (by omega) (v := (l2.length : Int)) (WalkArith.wf_i64 (by omega))
                      have hb3 : Below w.heap.size w w3 := hRR.grown hg3 hsz (fun k e => by cases e; omega)
                      have hb4 : Below w.heap.size w (w3.alloc (.cells (I64s [(e3 : Int)]).toArray 3)) := hb3.alloc hb3.size _
                      have hord := World.ownsRow.keep (hns.mapped hg3).2.1 ((Below.refl w3.heap.size w3).alloc (Nat.le_refl _) (.cells (I64s [(e3 : Int)]).toArray 3))
                      have hmm3 := hm3.congr (Below.heap_alloc w3 (.cells (I64s [(e3 : Int)]).toArray 3) _ hm3.lt)
                      have hf : ∀ x, (fun j => if j = e3 then some (l2.length : Int) else (fun u => (posOf u l2).map fun (m : Nat) => (m : Int)) j) x = (posOf x (l2 ++ [e3])).map fun (m : Nat) => (m : Int) := by
                        intro x
                        rw [posOf_snoc x hnotin]
                        by_cases e : x = e3
                        · simp [e]
                        · simp [e]
                      have hrb4 := (hrbk.grown hg3 (fun e => map_nb hns.map hrbk (Option.some.inj e))).alloc (.cells (I64s [(e3 : Int)]).toArray 3)
                      have hz4 := (hzz.grown hg3 (fun e => map_nb hns.map hzz (Option.some.inj e))).alloc (.cells (I64s [(e3 : Int)]).toArray 3)
                      have HB4 := Lib.hid hb4
                      have HORD := Lib.hid hord
                      have HBS : Hid (w.heap.size ≤ (w3.alloc (.cells (I64s [(e3 : Int)]).toArray 3)).heap.size) := Lib.hid hb4.size
                      have HNS2 := Lib.hid hns
                      have HMM := Lib.hid hmm3
                      have HF := Lib.hid hf
                      have HG3 := Lib.hid (grown_alloc hg3 (.cells (I64s [(e3 : Int)]).toArray 3))
                      have HRB4 := Lib.hid hrb4
                      have HZ4 := Lib.hid hz4
                      have HNI := Lib.hid hnotin
                      have HONE2 := Lib.hid hone
                      clear hb3 hb4 hord hmm3 hf hrb4 hz4 hns hrbk hzz hg3 hm3 hRR hpo hnotin hone
                      go_upto_region 26 with (at_builtin; refine wpList_appK Try.info3 rfl (by decide) (by decide) Try.underlying54 HORD.out (by omega) rfl (.tmp 120) (.tmp 122) rfl (by simp [Act.eval]) (by simp [Act.eval]) (Blk.new w3 3 (I64s [(e3 : Int)])) rfl HBS.out _ rfl ?_; intro g6 cap6 w6 hown6 hgrow6 hat6 hlt6)
                      have hns6 := HNS2.out.more HMM.out HF.out HG3.out hown6 hgrow6 (hat6.imp (fun e => Option.some.inj e) (fun e => Nat.le_of_eq e.symm))
                      have hrb6 := HRB4.out.grown hgrow6 (fun e => HRO.out (Option.some.inj e))
                      have hz6 := HZ4.out.grown hgrow6 (row_blk HORD.out HZ4.out (by decide))
                      have hobB := HNS2.out.oB.1
                      have hb6 : Below w.heap.size w w6 := HB4.out.grown hgrow6 HBS.out (fun k e => by cases e; exact hobB)
                      have hro6 : rb ≠ g6 := by
                        rcases hat6 with e | e
                        · intro e2; exact HRO.out (by rw [e2]; exact (Option.some.inj e).symm)
                        · exact fun e2 => absurd HRB4.out.lt (by rw [e2, e]; exact Nat.lt_irrefl _)
                      have cR := hrb6.cell (row_at2 HRL.out)
                      have fR := hrb6.free p
                      have hd6 : (l2 ++ [e3]).Nodup ∧ ∀ x ∈ l2 ++ [e3], x < N := by
                        refine ⟨List.nodup_append.2 ⟨HD3.out.1, by simp, fun a ha b hb => ?_⟩, fun x hx => ?_⟩
                        · rintro rfl
                          rw [List.mem_singleton] at hb
                          exact HNI.out (by rw [← hb]; exact ha)
                        · rcases List.mem_append.1 hx with h | h
                          · exact HD3.out.2 x h
                          · rw [List.mem_singleton.1 h]; exact huN
                      have hvi6 : (l2 ++ [e3])[i]? = some v := by rw [List.getElem?_append_left hil]; exact HVI.out
                      have G1 := Lib.hid (hns6.setR hrb6 hro6 p (.int .i64 (l2.length : Int)))
                      have G2 : Hid (Blk (w6.setCell ⟨rb, p, none⟩ (.int .i64 (l2.length : Int))) rb 3 (I64s ((r ++ [(l2.length : Int)]) ++ List.replicate (K - (p + 1)) 0))) := Lib.hid (by rw [← row_put2 HRL.out]; exact hrb6.set p _)
                      have GZ : Hid (Blk (w6.setCell ⟨rb, p, none⟩ (.int .i64 (l2.length : Int))) w.heap.size 32 [.int .i64 0, .slice none 0 0]) := Lib.hid (row_blk_other hz6 hrb6 (by decide) p _)
                      have GR := Lib.hid (hb6.setCell (p := ⟨rb, p, none⟩) HRS.out (.int .i64 (l2.length : Int)))
                      have GD := Lib.hid hd6
                      have GVI := Lib.hid hvi6
                      have GRO := Lib.hid hro6
                      have GN : Hid (n3 + 1 ≤ (l2 ++ [e3]).length) := Lib.hid (by rw [List.length_append, List.length_singleton]; have := HN3.out; omega)
                      clear hns6 hrb6 hz6 hb6 hd6 hvi6 hro6 hown6 hgrow6 hat6 hlt6 HNS2 HMM HF HG3 HRB4 HZ4 HB4 HORD HBS hobB
                      go_wp2_with fail
                      go_roundw
                      case rel => exact ⟨j + 1, (l2.length : Int), l2 ++ [e3], g6, cap6, n3 + 1, by omega, by go_num, by rw [List.length_append, List.length_singleton], HONE2, GD, GN, G1, G2, GRO, GVI, GZ, GR⟩
                      case measure => simp [intOf]; omega
                  · have hevI : ¬ ((e1 : Int) = v) := by omega
                    have hnh : ¬ hitE v p (e1, m, e3) = true := by
                      rw [hit_iff]
                      intro h
                      exact hev (h.2.1 hpar)
                    have hone : numOne l2 (nxE (l.take (j + 1)) v p) = (l3, x) := by
                      rw [HSN.out, if_neg hnh, Option.or_none]; exact HONE.out
                    have HONE2 := Lib.hid hone
                    clear hnh hone HSN HE hpar hq hev
                    go_upto_region 16 with fail
                    go_quiet (fail)
                    generalize nq = na
                    go_upto_region 18 with fail
                    go_quiet (fail)
                    generalize nq = nb
                    have G1 : Hid (NumR (wr.drewN (na + nb)) w.heap.size (w.heap.size + 1) (w.heap.size + 1 + 1 + 1) ob3 oc3 n3 k l3 g rv (fun b => b ≠ rb)) := Lib.hid (HNS.out.congr (fun _ _ _ => rfl))
                    have G2 : Hid (Blk (wr.drewN (na + nb)) rb 3 (I64s ((r ++ [x]) ++ List.replicate (K - (p + 1)) 0))) := Lib.hid HRB.out
                    have G3 : Hid (Blk (wr.drewN (na + nb)) w.heap.size 32 [.int .i64 0, .slice none 0 0]) := Lib.hid HZ.out
                    have G4 : Hid (Below w.heap.size w (wr.drewN (na + nb))) := Lib.hid (HR.out.trans ((Below.refl _ _).drewN' _))
                    go_wp2_with fail
                    go_roundw
                    case rel => exact ⟨j + 1, x, l3, ob3, oc3, n3, by omega, by go_num, rfl, HONE2, HD3, HN3, G1, G2, HRO, HVI, G3, G4⟩
                    case measure => simp [intOf]; omega
                · have hmI : ¬ ((m : Int) = q) := by omega
                  have hnh : ¬ hitE v p (e1, m, e3) = true := by
                    rw [hit_iff]
                    intro h
                    exact hmq (h.1.trans hq)
                  have hone : numOne l2 (nxE (l.take (j + 1)) v p) = (l3, x) := by
                    rw [HSN.out, if_neg hnh, Option.or_none]; exact HONE.out
                  have HONE2 := Lib.hid hone
                  clear hnh hone HSN HE hpar hq hmq
                  go_upto_region 16 with fail
                  go_quiet (fail)
                  generalize nq = na
                  go_upto_region 18 with fail
                  go_quiet (fail)
                  generalize nq = nb
                  have G1 : Hid (NumR (wr.drewN (na + nb)) w.heap.size (w.heap.size + 1) (w.heap.size + 1 + 1 + 1) ob3 oc3 n3 k l3 g rv (fun b => b ≠ rb)) := Lib.hid (HNS.out.congr (fun _ _ _ => rfl))
                  have G2 : Hid (Blk (wr.drewN (na + nb)) rb 3 (I64s ((r ++ [x]) ++ List.replicate (K - (p + 1)) 0))) := Lib.hid HRB.out
                  have G3 : Hid (Blk (wr.drewN (na + nb)) w.heap.size 32 [.int .i64 0, .slice none 0 0]) := Lib.hid HZ.out
                  have G4 : Hid (Below w.heap.size w (wr.drewN (na + nb))) := Lib.hid (HR.out.trans ((Below.refl _ _).drewN' _))
                  go_wp2_with fail
                  go_roundw
                  case rel => exact ⟨j + 1, x, l3, ob3, oc3, n3, by omega, by go_num, rfl, HONE2, HD3, HN3, G1, G2, HRO, HVI, G3, G4⟩
                  case measure => simp [intOf]; omega
              · have hrem1 : Int.tmod (p : Int) 2 = 1 := by rw [show Int.tmod (p : Int) 2 = ((p % 2 : Nat) : Int) from (Int.ofNat_tmod p 2).symm, show p % 2 = 1 by omega]; rfl
                by_cases hmq : m = q
                · subst hmq
                  by_cases hev : e3 = v
                  · have hev2 := hev.symm
                    subst hev2
                    have hht : hitE v p (e1, m, v) = true := by
                      rw [hit_iff]
                      exact ⟨hq.symm, fun h => absurd h hpar, fun _ => rfl⟩
                    have hfi := HDET.out.first HE.out hht
                    have hon := HONE.out
                    rw [hfi] at hon
                    obtain ⟨rfl, rfl⟩ : l2 = l3 ∧ (-1 : Int) = x := by
                      simpa [numOne] using hon
                    have hone : nxE (l.take (j + 1)) v p = some e1 := by
                      rw [HSN.out, hfi, if_pos hht, Option.none_or]
                      unfold endE
                      rw [if_neg hpar]
                    have huN : e1 < N := by assumption
                    have ht0 : ¬ ((e1 : Int) < 0) := by omega
                    have HHH := Lib.hid hone
                    clear hht hfi hon hone HSN HE hpar hq
                    go_upto_region 16 with fail
                    go_quiet (fail)
                    generalize nq = na
                    go_upto_region 18 with fail
                    go_quiet (fail)
                    generalize nq = nb
                    have hns := HNS.out.congr (w2 := (wr.drewN (na + nb))) (fun _ _ _ => rfl)
                    have hrbk : Blk (wr.drewN (na + nb)) rb 3 (I64s ((r ++ [-1]) ++ List.replicate (K - (p + 1)) 0)) := HRB.out
                    have hzz : Blk (wr.drewN (na + nb)) w.heap.size 32 [.int .i64 0, .slice none 0 0] := HZ.out
                    have hRR : Below w.heap.size w (wr.drewN (na + nb)) := HR.out.trans ((Below.refl _ _).drewN' _)
                    have hsz := hRR.size
                    cases hpo : posOf e1 l2 with
                    | some y =>
                      have hlk := hns.map.look2 (k := e1) (by omega)
                      simp only [hpo, Option.map_some, Option.getD_some, Option.isSome_some] at hlk
                      have hone : numOne l2 (nxE (l.take (j + 1)) v p) = (l2, (y : Int)) := by
                        rw [HHH.out]; unfold numOne; simp only [hpo]
                      have cR := hrbk.cell (row_at2 HRL.out)
                      have fR := hrbk.free p
                      have G1 := Lib.hid (hns.setR hrbk HRO.out p (.int .i64 y))
                      have G2 : Hid (Blk ((wr.drewN (na + nb)).setCell ⟨rb, p, none⟩ (.int .i64 y)) rb 3 (I64s ((r ++ [(y : Int)]) ++ List.replicate (K - (p + 1)) 0))) := Lib.hid (by rw [← row_put2 HRL.out]; exact hrbk.set p _)
                      have GZ : Hid (Blk ((wr.drewN (na + nb)).setCell ⟨rb, p, none⟩ (.int .i64 y)) w.heap.size 32 [.int .i64 0, .slice none 0 0]) := Lib.hid (row_blk_other hzz hrbk (by decide) p _)
                      have GR := Lib.hid (hRR.setCell (p := ⟨rb, p, none⟩) HRS.out (.int .i64 y))
                      have HONE2 := Lib.hid hone
                      clear hns hrbk hzz hRR hone hpo
                      go_wp2_with fail
                      go_roundw
                      case rel => exact ⟨j + 1, (y : Int), l2, ob3, oc3, n3, by omega, by go_num, rfl, HONE2, HD3, HN3, G1, G2, HRO, HVI, GZ, GR⟩
                      case measure => simp [intOf]; omega
                    | none =>
                      have hnotin := posOf_none.1 hpo
                      have hlk := hns.map.look2 (k := e1) (by omega)
                      simp only [hpo, Option.map_none, Option.getD_none, Option.isSome_none] at hlk
                      have hone : numOne l2 (nxE (l.take (j + 1)) v p) = (l2 ++ [e1], (l2.length : Int)) := by
                        rw [HHH.out]; unfold numOne; simp only [hpo]
                      have hl2N : l2.length ≤ N := nodup_len HD3.out.1 (fun x hx => HD3.out.2 x hx)
                      obtain ⟨w3, hupd, hm3, hg3⟩ := hns.map.update (n := n3) (by have := HN3.out; omega) (k := e1) (by omega) (v := (l2.length : Int)) (WalkArith.wf_i64 (by omega))
                      have hb3 : Below w.heap.size w w3 := hRR.grown hg3 hsz (fun k e => by cases e; omega)
                      have hb4 : Below w.heap.size w (w3.alloc (.cells (I64s [(e1 : Int)]).toArray 3)) := hb3.alloc hb3.size _
                      have hord := World.ownsRow.keep (hns.mapped hg3).2.1 ((Below.refl w3.heap.size w3).alloc (Nat.le_refl _) (.cells (I64s [(e1 : Int)]).toArray 3))
                      have hmm3 := hm3.congr (Below.heap_alloc w3 (.cells (I64s [(e1 : Int)]).toArray 3) _ hm3.lt)
                      have hf : ∀ x, (fun j => if j = e1 then some (l2.length : Int) else (fun u => (posOf u l2).map fun (m : Nat) => (m : Int)) j) x = (posOf x (l2 ++ [e1])).map fun (m : Nat) => (m : Int) := by
                        intro x
                        rw [posOf_snoc x hnotin]
                        by_cases e : x = e1
                        · simp [e]
                        · simp [e]
                      have hrb4 := (hrbk.grown hg3 (fun e => map_nb hns.map hrbk (Option.some.inj e))).alloc (.cells (I64s [(e1 : Int)]).toArray 3)
                      have hz4 := (hzz.grown hg3 (fun e => map_nb hns.map hzz (Option.some.inj e))).alloc (.cells (I64s [(e1 : Int)]).toArray 3)
                      have HB4 := Lib.hid hb4
                      have HORD := Lib.hid hord
                      have HBS : Hid (w.heap.size ≤ (w3.alloc (.cells (I64s [(e1 : Int)]).toArray 3)).heap.size) := Lib.hid hb4.size
                      have HNS2 := Lib.hid hns
                      have HMM := Lib.hid hmm3
                      have HF := Lib.hid hf
                      have HG3 := Lib.hid (grown_alloc hg3 (.cells (I64s [(e1 : Int)]).toArray 3))
                      have HRB4 := Lib.hid hrb4
                      have HZ4 := Lib.hid hz4
                      have HNI := Lib.hid hnotin
                      have HONE2 := Lib.hid hone
                      clear hb3 hb4 hord hmm3 hf hrb4 hz4 hns hrbk hzz hg3 hm3 hRR hpo hnotin hone
                      go_upto_region 26 with (at_builtin; refine wpList_appK Try.info3 rfl (by decide) (by decide) Try.underlying54 HORD.out (by omega) rfl (.tmp 120) (.tmp 122) rfl (by simp [Act.eval]) (by simp [Act.eval]) (Blk.new w3 3 (I64s [(e1 : Int)])) rfl HBS.out _ rfl ?_; intro g6 cap6 w6 hown6 hgrow6 hat6 hlt6)
                      have hns6 := HNS2.out.more HMM.out HF.out HG3.out hown6 hgrow6 (hat6.imp (fun e => Option.some.inj e) (fun e => Nat.le_of_eq e.symm))
                      have hrb6 := HRB4.out.grown hgrow6 (fun e => HRO.out (Option.some.inj e))
                      have hz6 := HZ4.out.grown hgrow6 (row_blk HORD.out HZ4.out (by decide))
                      have hobB := HNS2.out.oB.1
                      have hb6 : Below w.heap.size w w6 := HB4.out.grown hgrow6 HBS.out (fun k e => by cases e; exact hobB)
                      have hro6 : rb ≠ g6 := by
                        rcases hat6 with e | e
                        · intro e2; exact HRO.out (by rw [e2]; exact (Option.some.inj e).symm)
                        · exact fun e2 => absurd HRB4.out.lt (by rw [e2, e]; exact Nat.lt_irrefl _)
                      have cR := hrb6.cell (row_at2 HRL.out)
                      have fR := hrb6.free p
                      have hd6 : (l2 ++ [e1]).Nodup ∧ ∀ x ∈ l2 ++ [e1], x < N := by
                        refine ⟨List.nodup_append.2 ⟨HD3.out.1, by simp, fun a ha b hb => ?_⟩, fun x hx => ?_⟩
                        · rintro rfl
                          rw [List.mem_singleton] at hb
                          exact HNI.out (by rw [← hb]; exact ha)
                        · rcases List.mem_append.1 hx with h | h
                          · exact HD3.out.2 x h
                          · rw [List.mem_singleton.1 h]; exact huN
                      have hvi6 : (l2 ++ [e1])[i]? = some v := by rw [List.getElem?_append_left hil]; exact HVI.out
                      have G1 := Lib.hid (hns6.setR hrb6 hro6 p (.int .i64 (l2.length : Int)))
                      have G2 : Hid (Blk (w6.setCell ⟨rb, p, none⟩ (.int .i64 (l2.length : Int))) rb 3 (I64s ((r ++ [(l2.length : Int)]) ++ List.replicate (K - (p + 1)) 0))) := Lib.hid (by rw [← row_put2 HRL.out]; exact hrb6.set p _)
                      have GZ : Hid (Blk (w6.setCell ⟨rb, p, none⟩ (.int .i64 (l2.length : Int))) w.heap.size 32 [.int .i64 0, .slice none 0 0]) := Lib.hid (row_blk_other hz6 hrb6 (by decide) p _)
                      have GR := Lib.hid (hb6.setCell (p := ⟨rb, p, none⟩) HRS.out (.int .i64 (l2.length : Int)))
                      have GD := Lib.hid hd6
                      have GVI := Lib.hid hvi6
                      have GRO := Lib.hid hro6
                      have GN : Hid (n3 + 1 ≤ (l2 ++ [e1]).length) := Lib.hid (by rw [List.length_append, List.length_singleton]; have := HN3.out; omega)
                      clear hns6 hrb6 hz6 hb6 hd6 hvi6 hro6 hown6 hgrow6 hat6 hlt6 HNS2 HMM HF HG3 HRB4 HZ4 HB4 HORD HBS hobB
                      go_wp2_with fail
                      go_roundw
                      case rel => exact ⟨j + 1, (l2.length : Int), l2 ++ [e1], g6, cap6, n3 + 1, by omega, by go_num, by rw [List.length_append, List.length_singleton], HONE2, GD, GN, G1, G2, GRO, GVI, GZ, GR⟩
                      case measure => simp [intOf]; omega
                  · have hevI : ¬ ((e3 : Int) = v) := by omega
                    have hnh : ¬ hitE v p (e1, m, e3) = true := by
                      rw [hit_iff]
                      intro h
                      exact hev (h.2.2 hpar)
                    have hone : numOne l2 (nxE (l.take (j + 1)) v p) = (l3, x) := by
                      rw [HSN.out, if_neg hnh, Option.or_none]; exact HONE.out
                    have HONE2 := Lib.hid hone
                    clear hnh hone HSN HE hpar hq hev
                    go_upto_region 16 with fail
                    go_quiet (fail)
                    generalize nq = na
                    go_upto_region 18 with fail
                    go_quiet (fail)
                    generalize nq = nb
                    have G1 : Hid (NumR (wr.drewN (na + nb)) w.heap.size (w.heap.size + 1) (w.heap.size + 1 + 1 + 1) ob3 oc3 n3 k l3 g rv (fun b => b ≠ rb)) := Lib.hid (HNS.out.congr (fun _ _ _ => rfl))
                    have G2 : Hid (Blk (wr.drewN (na + nb)) rb 3 (I64s ((r ++ [x]) ++ List.replicate (K - (p + 1)) 0))) := Lib.hid HRB.out
                    have G3 : Hid (Blk (wr.drewN (na + nb)) w.heap.size 32 [.int .i64 0, .slice none 0 0]) := Lib.hid HZ.out
                    have G4 : Hid (Below w.heap.size w (wr.drewN (na + nb))) := Lib.hid (HR.out.trans ((Below.refl _ _).drewN' _))
                    go_wp2_with fail
                    go_roundw
                    case rel => exact ⟨j + 1, x, l3, ob3, oc3, n3, by omega, by go_num, rfl, HONE2, HD3, HN3, G1, G2, HRO, HVI, G3, G4⟩
                    case measure => simp [intOf]; omega
                · have hmI : ¬ ((m : Int) = q) := by omega
                  have hnh : ¬ hitE v p (e1, m, e3) = true := by
                    rw [hit_iff]
                    intro h
                    exact hmq (h.1.trans hq)
                  have hone : numOne l2 (nxE (l.take (j + 1)) v p) = (l3, x) := by
                    rw [HSN.out, if_neg hnh, Option.or_none]; exact HONE.out
                  have HONE2 := Lib.hid hone
                  clear hnh hone HSN HE hpar hq hmq
                  go_upto_region 16 with fail
                  go_quiet (fail)
                  generalize nq = na
                  go_upto_region 18 with fail
                  go_quiet (fail)
                  generalize nq = nb
                  have G1 : Hid (NumR (wr.drewN (na + nb)) w.heap.size (w.heap.size + 1) (w.heap.size + 1 + 1 + 1) ob3 oc3 n3 k l3 g rv (fun b => b ≠ rb)) := Lib.hid (HNS.out.congr (fun _ _ _ => rfl))
                  have G2 : Hid (Blk (wr.drewN (na + nb)) rb 3 (I64s ((r ++ [x]) ++ List.replicate (K - (p + 1)) 0))) := Lib.hid HRB.out
                  have G3 : Hid (Blk (wr.drewN (na + nb)) w.heap.size 32 [.int .i64 0, .slice none 0 0]) := Lib.hid HZ.out
                  have G4 : Hid (Below w.heap.size w (wr.drewN (na + nb))) := Lib.hid (HR.out.trans ((Below.refl _ _).drewN' _))
                  go_wp2_with fail
                  go_roundw
                  case rel => exact ⟨j + 1, x, l3, ob3, oc3, n3, by omega, by go_num, rfl, HONE2, HD3, HN3, G1, G2, HRO, HVI, G3, G4⟩
                  case measure => simp [intOf]; omega
            · obtain rfl : j = L := by omega
              have hone := HONE.out
              rw [List.take_of_length_le (by rw [HL.out]; exact Nat.le_refl _)] at hone
              have hrow3 := HROW2.out
              rw [hone] at hrow3
              have HROW3 := Lib.hid hrow3
              clear hone hrow3 HONE HROW2
              go_wp2_with fail
              go_roundw
              case rel => exact ⟨p + 1, l3, r ++ [x], ob3, oc3, n3, by omega, by go_num, rfl, HD3, HN3, HROW3, Lib.hid (by simp [HRL.out]), HNS, HRB, HRO, HVI, HZ, HR⟩
              case measure => simp [intOf]; omega
        · have hpK : p = K := by omega
          subst hpK
          have hrowE := HROW.out
          rw [Nat.sub_self] at hrowE
          have hrbk := HRB.out
          rw [Nat.sub_self, List.replicate_zero, List.append_nil] at hrbk
          have hnum := HNU.out
          rw [show N - i = (N - (i + 1)) + 1 by omega, numN, HV.out] at hnum
          simp only at hnum
          rw [hrowE] at hnum
          have hnumE : numN (nxE l) (List.range p) N 0 [0] [] = numN (nxE l) (List.range p) (N - (i + 1)) (i + 1) l2 (g ++ [r]) := hnum
          have hil := (List.getElem?_eq_some_iff.1 HVI.out).1
          obtain ⟨wx, hwx⟩ : ∃ wx, wx = wr.alloc (.cells #[.slice (some ⟨rb, 0, none⟩) p p] 54) := ⟨_, rfl⟩
          have hbx : Below w.heap.size wr wx := by rw [hwx]; exact (Below.refl _ _).alloc HR.out.size _
          have hnx := HNS.out.congr (w2 := wx) (fun i _ h2 => by rw [hwx]; exact Below.heap_alloc _ _ _ h2)
          have hrx : Blk wx rb 3 (I64s r) := by rw [hwx]; exact hrbk.alloc _
          have hzx : Blk wx w.heap.size 32 [.int .i64 0, .slice none 0 0] := by rw [hwx]; exact HZ.out.alloc _
          have hlx : Blk wx wr.heap.size 54 [.slice (some ⟨rb, 0, none⟩) p p] := by rw [hwx]; exact Blk.new _ _ _
          obtain ⟨vs, hvo, hvv⟩ := id hnx.rows
          have cb := HNS.out.box.cell (j := 1) rfl
          have hgl : g.length = i := HG.out
          have hbxs := hbx.size
          have hrs := HR.out.size
          have HNX2 := Lib.hid hnx
          have HRX := Lib.hid hrx
          have HZX := Lib.hid hzx
          have HLX := Lib.hid hlx
          have HVO := Lib.hid hvo
          have HVX := Lib.hid hvv
          have HBX := Lib.hid hbx
          have HNE := Lib.hid hnumE
          clear hnx hrx hzx hlx hvo hvv hbx hnum hnumE hrowE hrbk HROW HRB HNS HZ
          go_wp2_with (at_builtin; rw [← hwx]; refine wpList_appV Try.info54 rfl (by decide) Try.underlying23 HVO.out (by omega) rfl (.tmp 130) (.tmp 132) rfl (by simp [Act.eval]) (by simp [Act.eval]) HLX.out rfl (by omega) _ rfl ?_; intro g6 cap6 w6 hown6 hgrow6 hat6 hlt6; have hb6 := HNX2.out.box.grown hgrow6 (row_blk HVO.out HNX2.out.box (by decide)); have c6 := hb6.cell (j := 1) rfl; have f6 := hb6.free 1)
          have hrl : r.length = p := HRL.out
          have hvx : ∀ (j : Nat) (s : List Int), g[j]? = some s → ∃ u, vs[j]? = some u ∧ OwnK wx w.heap.size 3 1 u s.length s ∧ ∀ b, u.ownBlock = some b → b ≠ ob2 ∧ b ≠ rb := HVX.out
          rw [← hrl] at hown6
          have hn6 := HNX2.out.rowed HRX.out HRS.out (by omega) HRO.out hvx HVO.out hown6 hgrow6
          have hz6 := (HZX.out.grown hgrow6 (row_blk HVO.out HZX.out (by decide))).other (a := ⟨w.heap.size + 1, 1, none⟩) (by show w.heap.size ≠ w.heap.size + 1; omega) (.slice (some ⟨g6, 0, none⟩) (g.length + 1) cap6)
          have hvB := World.ownsRow.lt HVO.out
          have hs6 : Below w.heap.size wr w6 := HBX.out.grown hgrow6 (by omega) (fun k e => (hvB k e).1)
          have hbl := hs6.setCell (p := ⟨w.heap.size + 1, 1, none⟩) (by show w.heap.size ≤ w.heap.size + 1; omega) (.slice (some ⟨g6, 0, none⟩) (g.length + 1) cap6)
          rw [hgl] at hn6 hz6 hbl
          have G1 := Lib.hid hn6
          have GZ := Lib.hid hz6
          have GR := Lib.hid (HR.out.trans hbl)
          clear hn6 hz6 hs6 hbl hvB hown6 hgrow6 hat6 hlt6 hb6
          go_roundw
          case rel => exact ⟨i + 1, l2, g ++ [r], ob2, oc2, n2, _, by omega, by go_num, rfl, HD2, Lib.hid (by simp [hgl]), HN2, HNE, G1, GZ, GR⟩
          case measure => simp [intOf]; omega
    · have hiE : i = l1.length := by omega
      have hnone : l1[i]? = none := List.getElem?_eq_none (by omega)
      have hnum := HNU.out
      rw [numN_end hnone] at hnum
      have c0 := HN.out.box.cell (j := 0) rfl
      have c1 := HN.out.box.cell (j := 1) rfl
      have hz1 := HZ.out.set 0 (.int .i64 k)
      have hz2 := hz1.set 1 rv
      have hrow := (HN.out.rows.other HZ.out (by decide) (by decide) 0 (.int .i64 k)).other hz1 (by decide) (by decide) 1 rv
      have hbl : Below w.heap.size wr ((wr.setCell ⟨w.heap.size, 0, none⟩ (.int .i64 k)).setCell ⟨w.heap.size, 1, none⟩ rv) := ((Below.refl w.heap.size wr).setCell (p := ⟨w.heap.size, 0, none⟩) (Nat.le_refl w.heap.size) _).setCell (p := ⟨w.heap.size, 1, none⟩) (Nat.le_refl w.heap.size) _
      have G1 := Lib.hid hrow
      have G2 := Lib.hid hz2
      have GR := Lib.hid (HR.out.trans hbl)
      have HNUM := Lib.hid hnum
      have HRV := Lib.hid (rows_one HN.out.rows k)
      clear hrow hz2 hbl hnum hnone HNU hz1
      go_wp2_with (with_reducible show wpList _ _ _ (Oper.mk _ (Op.store 32 _ _) _ _ _ _ :: _) _ _; (refine wpList_storeB (vs := [.int .i64 k, rv]) HZ.out Try.size32 rfl rfl HRV.out rfl _ _ rfl rfl rfl ?_))
      exact bodyPost_ret (ret112 (M := [.int .i64 k, rv]) rfl rfl G2.out) rfl ⟨rv, rfl, by rw [HNUM.out]; exact G1.out.congr (fun _ _ _ _ => rfl) (fun _ _ _ => trivial), GR.out⟩
end Go.Proofs.Ytlooclpfoeakgaa

/- Two graphs that are the same, in the reference: the walk. -/
namespace Go.Proofs.Ytlooclpfoeakgaa
open Go.RowKit

theorem row_open {w : World} {base : Nat} {e : TypeId} {size : Nat} {v : Value} {n : Nat} {xs : List Value} (h : w.ownsRow base e size v n xs) (h0 : 0 < n) :
    ∃ g cap, v = .slice (some ⟨g, 0, none⟩) n cap ∧ g < w.heap.size ∧ n ≤ cap ∧ cap ≤ 9223372036854775807 ∧ ∀ j x, xs[j]? = some x → w.cell? ⟨g, j, none⟩ = some x := by
  rcases h.2 with ⟨rfl, hz⟩ | ⟨g, cap, cur, rfl, hb, hgg, hn, hm, hc, htake⟩
  · omega
  · refine ⟨g, cap, rfl, (Array.getElem?_eq_some_iff.1 hgg).1, hn, by unfold maxLen at hm; omega, fun j x hj => ?_⟩
    rw [cell_of_row w g j cur e (0, 0) hgg]
    rw [← htake, List.getElem?_take] at hj
    split at hj
    · simpa using hj
    · cases hj
theorem row_shapeV {w : World} {base : Nat} {e : TypeId} {size : Nat} {v : Value} {n : Nat} {xs : List Value} (h : w.ownsRow base e size v n xs) : ∃ a c, v = .slice a n c ∧ n ≤ c ∧ c ≤ 9223372036854775807 := by
  rcases h.2 with ⟨rfl, hz⟩ | ⟨g, cap, cur, rfl, hb, hgg, hn, hm, hc, htake⟩
  · exact ⟨none, 0, by rw [hz], by omega, by omega⟩
  · exact ⟨_, cap, rfl, hn, by unfold maxLen at hm; omega⟩
/-- the i-th row in a later world: where it lies, and its numbers -/
theorem RowsAt.at_ {w wr : World} {B a n c : Nat} {g : List (List Int)} {q : Nat → Prop} (h : RowsAt w B (.slice (some ⟨a, 0, none⟩) n c) g q) (hn : g.length = n) (hb : Below w.heap.size w wr) {i : Nat} {r : List Int} (hr : g[i]? = some r) :
    ∃ ra rc, wr.cell? ⟨a, i, none⟩ = some (.slice ra r.length rc) ∧ r.length ≤ rc ∧ rc ≤ 9223372036854775807 ∧ (0 < r.length → ∃ b, ra = some ⟨b, 0, none⟩ ∧ ∀ j x, r[j]? = some x → wr.cell? ⟨b, j, none⟩ = some (.int .i64 x)) := by
  obtain ⟨vs, h1, h2⟩ := h
  have hi := (List.getElem?_eq_some_iff.1 hr).1
  obtain ⟨a2, c2, e2, hlt, -, -, hcs⟩ := row_open h1 (by omega)
  obtain ⟨rfl, -, rfl⟩ : a = a2 ∧ n = g.length ∧ c = c2 := by simpa using e2
  obtain ⟨u, h3, h4, -⟩ := h2 i r hr
  obtain ⟨ra, rc, rfl, h5, h6⟩ := row_shapeV h4
  refine ⟨ra, rc, (hb.cell (p := ⟨a, i, none⟩) hlt).trans (hcs i _ h3), h5, h6, fun h0 => ?_⟩
  obtain ⟨b, cap, e7, _, hbl, _, _, _, hrs⟩ := OwnK.open h4 h0
  obtain ⟨rfl, -⟩ : ra = some ⟨b, 0, none⟩ ∧ rc = cap := by simpa using e7
  exact ⟨b, rfl, fun j x hj => (hb.cell (p := ⟨b, j, none⟩) hbl).trans (hrs j x hj)⟩

set_option maxRecDepth 100000 in
set_option maxHeartbeats 4000000 in
theorem rSame_true (w : World) (k B1 B2 : Nat) (u v : Value) (g : List (List Int)) (q1 q2 : Nat → Prop) (hu : RowsAt w B1 u g q1) (hv : RowsAt w B2 v g q2) :
    Calls Try.prog 65 #[.agg #[.int .i64 k, u], .agg #[.int .i64 k, v]] w fun e w' => e = .returned (.bool true) ∧ Below w.heap.size w w' := by
  obtain ⟨n, hn⟩ : ∃ n, g.length = n := ⟨_, rfl⟩
  obtain ⟨ua, uc, rfl, hu1, hu2⟩ := row_shapeV hu.choose_spec.1
  obtain ⟨va, vc, rfl, hv1, hv2⟩ := row_shapeV hv.choose_spec.1
  rw [hn] at hu1 hv1 hu hv ⊢
  obtain ⟨w1, hw1⟩ : ∃ w1, w1 = ((w.alloc (.cells #[.int .i64 k, .slice ua n uc] 32)).alloc (.cells #[.int .i64 k, .slice va n vc] 32)) := ⟨_, rfl⟩
  have hb1 : Below w.heap.size w w1 := by rw [hw1]; exact ((Below.refl _ w).alloc (Nat.le_refl _) _).alloc (by simp) _
  have hx1 : Blk w1 w.heap.size 32 [.int .i64 k, .slice ua n uc] := by rw [hw1]; exact (Blk.new w 32 [.int .i64 k, .slice ua n uc]).alloc _
  have hy1 : Blk w1 (w.heap.size + 1) 32 [.int .i64 k, .slice va n vc] := by
    rw [hw1]
    have := Blk.new (w.alloc (.cells #[.int .i64 k, .slice ua n uc] 32)) 32 [.int .i64 k, .slice va n vc]
    simpa using this
  have HU := Lib.hid hu
  have HV := Lib.hid hv
  have HN := Lib.hid hn
  have HB1 := Lib.hid hb1
  have HX := Lib.hid hx1
  have HY := Lib.hid hy1
  have hs1 : w1.heap.size = w.heap.size + 1 + 1 := by rw [hw1]; simp
  clear hu hv hn hb1 hx1 hy1
  go_enter Try.func65, Try.ntmps65
  go_wp2_with fail
  change Code.wp _ _ _ _ ((w.alloc (.cells #[.int .i64 k, .slice ua n uc] 32)).alloc (.cells #[.int .i64 k, .slice va n vc] 32))
  rw [← hw1]
  clear hw1
  go_loopw [5] (fun iv wr => ∃ i : Nat, i ≤ n ∧ iv = .int .i64 i ∧ Hid (Below w1.heap.size w1 wr)) (fun iv _ => n - (intOf iv).toNat)
  case atStart => exact ⟨0, by omega, rfl, Lib.hid (Below.refl _ _)⟩
  case round =>
    obtain ⟨i, hi, rfl, HB⟩ := hrel
    have cx := (HX.out.keep HB.out).cell (j := 1) rfl
    have cy := (HY.out.keep HB.out).cell (j := 1) rfl
    have hbw : Below w.heap.size w wr := HB1.out.trans (HB.out.mono (by omega))
    have HBW := Lib.hid hbw
    clear hbw
    by_cases hlt : i < n
    · obtain ⟨r, hr⟩ : ∃ r, g[i]? = some r := ⟨_, List.getElem?_eq_getElem (by rw [HN.out]; exact hlt)⟩
      obtain ⟨ga, c1, e1, -, -, -, -⟩ := row_open HU.out.choose_spec.1 (by rw [HN.out]; omega)
      obtain ⟨gb, c2, e2, -, -, -, -⟩ := row_open HV.out.choose_spec.1 (by rw [HN.out]; omega)
      obtain ⟨rfl, -, rfl⟩ : ua = some ⟨ga, 0, none⟩ ∧ n = g.length ∧ uc = c1 := by simpa using e1
      obtain ⟨rfl, -, rfl⟩ : va = some ⟨gb, 0, none⟩ ∧ n = g.length ∧ vc = c2 := by simpa using e2
      obtain ⟨ra, rc, a1, a2, a3, a4⟩ := HU.out.at_ HN.out HBW.out hr
      obtain ⟨sa, sc, b1, b2, b3, b4⟩ := HV.out.at_ HN.out HBW.out hr
      have i0 : (0 : Int) ≤ i := by omega
      have i1 : (i : Int) < n := by omega
      have HA4 := Lib.hid a4
      have HB4 := Lib.hid b4
      have HRR := Lib.hid hr
      obtain ⟨m, hm⟩ : ∃ m, r.length = m := ⟨_, rfl⟩
      rw [hm] at a1 a2 b1 b2
      have HM := Lib.hid hm
      clear e1 e2 a4 b4 hr hm
      go_upto_region 6 with fail
      go_quiet (fail)
      generalize nq = na
      have HB2 : Hid (Below w1.heap.size w1 (wr.drewN na)) := Lib.hid (HB.out.trans ((Below.refl _ _).drewN' _))
      clear cx cy a1 b1 HB HBW HA4 HB4
      go_wp2_with fail
      go_loopw [6] (fun jv wr => ∃ j : Nat, j ≤ m ∧ jv = .int .i64 j ∧ Hid (Below w1.heap.size w1 wr)) (fun jv _ => m - (intOf jv).toNat)
      case atStart => exact ⟨0, by omega, rfl, HB2⟩
      case round =>
        clear HB2
        obtain ⟨j, hj, rfl, HB⟩ := hrel
        have cx := (HX.out.keep HB.out).cell (j := 1) rfl
        have cy := (HY.out.keep HB.out).cell (j := 1) rfl
        have hbw : Below w.heap.size w wr := HB1.out.trans (HB.out.mono (by omega))
        obtain ⟨ra, rc, a1, a2, a3, a4⟩ := HU.out.at_ HN.out hbw HRR.out
        obtain ⟨sa, sc, b1, b2, b3, b4⟩ := HV.out.at_ HN.out hbw HRR.out
        rw [HM.out] at a1 a2 b1 b2
        by_cases hlj : j < m
        · obtain ⟨x, hx⟩ : ∃ x, r[j]? = some x := ⟨_, List.getElem?_eq_getElem (by rw [HM.out]; exact hlj)⟩
          obtain ⟨b, rfl, h7⟩ := a4 (by rw [HM.out]; omega)
          obtain ⟨c, rfl, h8⟩ := b4 (by rw [HM.out]; omega)
          have x1 := h7 j x hx
          have x2 := h8 j x hx
          have j0 : (0 : Int) ≤ j := by omega
          have j1 : (j : Int) < m := by omega
          clear a4 b4 h7 h8 hx hbw
          go_upto_region 11 with fail
          go_quiet (fail)
          generalize nq = nb
          have G1 : Hid (Below w1.heap.size w1 (wr.drewN nb)) := Lib.hid (HB.out.trans ((Below.refl _ _).drewN' _))
          clear cx cy a1 b1 x1 x2 HB
          go_wp2_with fail
          go_roundw
          case rel => exact ⟨j + 1, by omega, by go_num, G1⟩
          case measure => simp [intOf]; omega
        · obtain rfl : j = m := by omega
          clear a4 b4 hbw
          go_wp2_with fail
          go_roundw
          case rel => exact ⟨i + 1, by omega, by go_num, HB⟩
          case measure => simp [intOf]; omega
    · obtain rfl : i = n := by omega
      go_wp2_with fail
      go_ret
      exact ⟨rfl, HBW.out⟩
end Go.Proofs.Ytlooclpfoeakgaa

/- The law's small functions: same, none, give, nails: the walks. -/
namespace Go.Proofs.Ytlooclpfoeakgaa
open Go.RowKit

theorem RowsAt.keep {w w2 : World} {B : Nat} {rv : Value} {g : List (List Int)} {q : Nat → Prop} (h : RowsAt w B rv g q) (hb : Below w.heap.size w w2) : RowsAt w2 B rv g q := h.congr (fun i _ h2 _ => hb.block i h2) (fun _ _ h => h)
theorem none_zero (w : World) : Calls Try.prog 15 #[.agg #[.int .i64 0, .slice none 0 0]] w fun e w' => e = .returned (.bool true) ∧ Below w.heap.size w w' := by
  have hb : Below w.heap.size w (w.alloc (.cells #[.int .i64 0, .slice none 0 0] 25)) := (Below.refl _ _).alloc (Nat.le_refl _) _
  have HB := Lib.hid hb
  clear hb
  go_enter Try.func15, Try.ntmps15
  go_wp2_with fail
  go_ret
  exact ⟨rfl, HB.out⟩
theorem same_true (w : World) (k B1 B2 : Nat) (u v : Value) (g : List (List Int)) (q1 q2 : Nat → Prop) (hu : RowsAt w B1 u g q1) (hv : RowsAt w B2 v g q2) :
    Calls Try.prog 16 #[.agg #[.int .i64 k, u], .agg #[.int .i64 k, v]] w fun e w' => e = .returned (.bool true) ∧ Below w.heap.size w w' := by
  obtain ⟨ua, uc, rfl, -, -⟩ := row_shapeV hu.choose_spec.1
  obtain ⟨va, vc, rfl, -, -⟩ := row_shapeV hv.choose_spec.1
  obtain ⟨n, hn⟩ : ∃ n, g.length = n := ⟨_, rfl⟩
  rw [hn] at hu hv ⊢
  obtain ⟨w1, hw1⟩ : ∃ w1, w1 = ((w.alloc (.cells #[.int .i64 k, .slice ua n uc] 25)).alloc (.cells #[.int .i64 k, .slice va n vc] 32)) := ⟨_, rfl⟩
  have hb1 : Below w.heap.size w w1 := by rw [hw1]; exact ((Below.refl _ w).alloc (Nat.le_refl _) _).alloc (by simp) _
  have hsa := rSame_true w1 k B1 B2 _ _ g q1 q2 (hu.keep hb1) (hv.keep hb1)
  have HSA := Lib.hid hsa
  have HB1 := Lib.hid hb1
  clear hu hv hn hb1 hsa
  go_enter Try.func16, Try.ntmps16
  go_wp2_with (go_at_call 65; rw [← hw1]; refine HSA.out.mono ?_; rintro e w2 ⟨rfl, hb2⟩)
  go_ret
  exact ⟨rfl, HB1.out.trans (hb2.mono HB1.out.size)⟩
theorem Try.size25' : (Try.prog.info? 25).map (·.size) = some 2 := Try.size25
theorem ret22 {w : World} {tmps : Array Value} {g : Nat} {M : List Value} (hM : M.length = 2) (hp : tmps.getD 2 undef = .pointer (some ⟨g, 0, none⟩)) (hb : Blk w g 25 M) : (results Try.f22 tmps).run Try.prog w = .ok (.agg M.toArray) w :=
  results_cell_row rfl tmps w g 25 _ (0, 0) _ hp hb Try.underlying25 rfl (by rw [Try.size25]; simp [hM])
theorem give_any (w : World) (k : Int) (a : Option Addr) (n c : Nat) :
    Calls Try.prog 22 #[.agg #[.int .i64 k, .slice a n c]] w fun e w' => e = .returned (.agg #[.int .i64 k, .slice a n c]) ∧ Below w.heap.size w w' := by
  have hb : Below w.heap.size w ((w.alloc (.cells #[.int .i64 k, .slice a n c] 32)).alloc (.cells #[.int .i64 k, .slice a n c] 25)) := ((Below.refl _ _).alloc (Nat.le_refl _) _).alloc (by simp) _
  have hz : Blk ((w.alloc (.cells #[.int .i64 k, .slice a n c] 32)).alloc (.cells #[.int .i64 k, .slice a n c] 25)) (w.heap.size + 1) 25 [.int .i64 k, .slice a n c] := by
    have := Blk.new (w.alloc (.cells #[.int .i64 k, .slice a n c] 32)) 25 [.int .i64 k, .slice a n c]
    simpa using this
  have HB := Lib.hid hb
  have HZ := Lib.hid hz
  clear hb hz
  go_enter Try.func22, Try.ntmps22
  go_wp2_with fail
  exact bodyPost_ret (ret22 (M := [.int .i64 k, .slice a n c]) rfl rfl HZ.out) rfl ⟨rfl, HB.out⟩
/-- a number of nails in its range -/
def nailsK (k : Int) : Nat := 1 + ((k + 3) % 4).toNat
theorem nailsK_range (k : Int) : 1 ≤ nailsK k ∧ nailsK k ≤ 4 := by unfold nailsK; omega
theorem nails_any (w : World) (k : Int) : Calls Try.prog 18 #[.int .i64 k] w fun e w' => e = .returned (.int .i64 (nailsK k)) ∧ w' = w := by
  obtain ⟨A, hA⟩ : ∃ A, IntKind.i64.wrap (k + 3) = A := ⟨_, rfl⟩
  obtain ⟨C, hC⟩ : ∃ C, IntKind.u64.wrap A = C := ⟨_, rfl⟩
  have hA2 := hA
  have hC2 := hC
  rw [IntKind.wrap_i64] at hA2
  have hC3 : C = A % 18446744073709551616 := by
    rw [← hC2]
    simp [IntKind.wrap, IntKind.signed, IntKind.bits]
  obtain ⟨r, hr⟩ : ∃ r : Int, r = C % 4 := ⟨_, rfl⟩
  have hrr : Int.tmod C 4 = r := by rw [hr]; exact Int.tmod_eq_emod_of_nonneg (by omega)
  have hk : (nailsK k : Int) = 1 + r := by unfold nailsK; omega
  have hr0 : 0 ≤ r ∧ r < 4 := by omega
  rw [hk]
  have hwr : IntKind.i64.wrap r = r := by rw [IntKind.wrap_i64]; omega
  have hwu : IntKind.u64.wrap r = r := by
    simp [IntKind.wrap, IntKind.signed, IntKind.bits]; omega
  have hw1 : IntKind.i64.wrap (1 + r) = 1 + r := by rw [IntKind.wrap_i64]; omega
  clear hA2 hC2 hC3 hr hk
  go_enter Try.func18, Try.ntmps18
  go_wp2_with fail
  go_ret
  exact ⟨rfl, rfl⟩
end Go.Proofs.Ytlooclpfoeakgaa

/- The law's text: the walk. -/
namespace Go.Proofs.Ytlooclpfoeakgaa
open Go.RowKit

theorem take_bts {s : ByteArray} {k : Nat} (h : k < s.size) : (bts s).take (k + 1) = (bts s).take k ++ [s[k]'h] := by
  rw [List.take_add_one, bts_get h]; rfl
theorem str_eq {s t : ByteArray} (h : bts s = bts t) : s = t := ByteArray.ext (Array.toList_inj.1 h)
theorem bts_add (s t : ByteArray) : bts (s ++ t) = bts s ++ bts t := by simp [bts]
/-- a letter of any byte -/
def letOf (n : Nat) (c : UInt8) : UInt8 := if c.toNat % (2 * n) < n then UInt8.ofNat (97 + c.toNat % (2 * n)) else UInt8.ofNat (65 + (c.toNat % (2 * n) - n))
def textL (n m : Nat) (l : List UInt8) : List UInt8 := (l.take m).map (letOf n)
theorem ofNat_nat {k : Nat} (h : k < 256) : ((UInt8.ofNat k).toNat : Int) = (k : Int) := by
  have : (UInt8.ofNat k).toNat = k % 256 := rfl
  rw [this]; omega
theorem conv_one {w : World} {c : UInt8} : (convert 115 9 (.slice (some ⟨w.heap.size, 0, none⟩) 1 1)).run Try.prog (w.alloc (.cells #[.int .u8 (c.toNat : Int)] 5)) = .ok (.string (strB [c])) (w.alloc (.cells #[.int .u8 (c.toNat : Int)] 5)) := by
  have h : OwnB (w.alloc (.cells #[.int .u8 (c.toNat : Int)] 5)) 0 (.slice (some ⟨w.heap.size, 0, none⟩) 1 1) [c] :=
    .inr ⟨w.heap.size, 1, _, rfl, Nat.zero_le _, heap_alloc_new w _, by simp, by unfold maxLen; omega, by simp, by simp [B8s]⟩
  exact conv_own h

set_option maxRecDepth 100000 in
set_option maxHeartbeats 2000000 in
theorem text_any (s : ByteArray) (n m : Nat) (w : World) (hs : s.size ≤ 9223372036854775807) (hn1 : 1 ≤ n) (hn2 : n ≤ 26) (hm : m ≤ 1000) :
    Calls Try.prog 30 #[.string s, .int .i64 n, .int .i64 m] w fun e w' => e = .returned (.string (strB (textL n m (bts s)))) ∧ Below w.heap.size w w' := by
  obtain ⟨M, hM⟩ : ∃ M, min s.size m = M := ⟨_, rfl⟩
  have hfin : ((bts s).take M).map (letOf n) = textL n m (bts s) := by
    unfold textL
    rw [← hM]
    congr 1
    by_cases h : s.size ≤ m
    · rw [Nat.min_eq_left h, ← bts_len, List.take_length, List.take_of_length_le (by rw [bts_len]; exact h)]
    · rw [Nat.min_eq_right (by omega)]
  generalize textL n m (bts s) = F at *
  have HF := Lib.hid hfin
  have hMs : M ≤ s.size := by omega
  have hMm : M ≤ m := by omega
  have HMM := Lib.hid hM
  clear hfin hM
  go_enter Try.func30, Try.ntmps30
  go_wp2_with fail
  go_loopw [7, 8] (fun ov iv wr => ∃ j : Nat, j ≤ M ∧ iv = .int .i64 j ∧ ov = .string (strB (((bts s).take j).map (letOf n))) ∧ Hid (Below w.heap.size w wr)) (fun _ iv _ => M - (intOf iv).toNat)
  case atStart => exact ⟨0, by omega, rfl, rfl, (show Hid _ from Below.refl _ _)⟩
  case round =>
    obtain ⟨j, hj, rfl, rfl, HB⟩ := hrel
    by_cases hlt : j < M
    · have hjs : j < s.size := by omega
      have hjm : j < m := by omega
      have htk : ((bts s).take (j + 1)).map (letOf n) = ((bts s).take j).map (letOf n) ++ [letOf n (s[j]'hjs)] := by rw [take_bts hjs]; simp
      have hcat : strB (((bts s).take j).map (letOf n)) ++ strB [letOf n (s[j]'hjs)] = strB (((bts s).take (j + 1)).map (letOf n)) := by
        apply str_eq; rw [bts_add, htk]
      have hsz : (strB (((bts s).take j).map (letOf n))).size ≤ 1000 := by rw [size_str, List.length_map, List.length_take]; omega
      have hcv := fun c => conv_one (w := wr) (c := c)
      obtain ⟨x, hx⟩ : ∃ x, (s[j]'hjs).toNat = x := ⟨_, rfl⟩
      obtain ⟨r, hr⟩ : ∃ r, x % (2 * n) = r := ⟨_, rfl⟩
      have hxl : x < 256 := by rw [← hx]; exact UInt8.toNat_lt _
      have hrl : r < 2 * n := by rw [← hr]; exact Nat.mod_lt _ (by omega)
      have hlo : letOf n (s[j]'hjs) = if r < n then UInt8.ofNat (97 + r) else UInt8.ofNat (65 + (r - n)) := by unfold letOf; rw [hx, hr]
      have hl1 : (strB [letOf n (s[j]'hjs)]).size = 1 := rfl
      have hrem : Int.tmod (x : Int) (2 * (n : Int)) = (r : Int) := by rw [← hr]; rfl
      have hrem2 : (x : Int) % (2 * (n : Int)) = (r : Int) := by rw [← hr]; push_cast; rfl
      have hxi : ((s[j]'hjs).toNat : Int) = (x : Int) := by rw [hx]
      clear hr
      by_cases hrn : r < n
      · rw [if_pos hrn] at hlo
        have hv := ofNat_nat (k := 97 + r) (by omega)
        have hcv1 := hcv (letOf n (s[j]'hjs))
        rw [hlo, hv, show ((97 + r : Nat) : Int) = 97 + (r : Int) by omega] at hcv1
        rw [hlo] at hcat hl1
        generalize hX : strB (((bts s).take j).map (letOf n)) = X at *
        generalize strB [UInt8.ofNat (97 + r)] = L at *
        have HC := Lib.hid hcat
        clear hcv hlo hv hcat htk hx hX
        go_wp2_with fail
        go_roundw
        case rel => exact ⟨j + 1, by omega, by go_num, by rw [HC.out], HB.out.alloc HB.out.size _⟩
        case measure => simp [intOf]; omega
      · rw [if_neg hrn] at hlo
        have hv := ofNat_nat (k := 65 + (r - n)) (by omega)
        have hcv1 := hcv (letOf n (s[j]'hjs))
        rw [hlo, hv, show ((65 + (r - n) : Nat) : Int) = 65 + ((r : Int) - (n : Int)) by omega] at hcv1
        rw [hlo] at hcat hl1
        generalize hX : strB (((bts s).take j).map (letOf n)) = X at *
        generalize strB [UInt8.ofNat (65 + (r - n))] = L at *
        have HC := Lib.hid hcat
        clear hcv hlo hv hcat htk hx hX
        go_wp2_with fail
        go_roundw
        case rel => exact ⟨j + 1, by omega, by go_num, by rw [HC.out], HB.out.alloc HB.out.size _⟩
        case measure => simp [intOf]; omega
    · obtain rfl : j = M := by omega
      have hend : ¬ (j < s.size ∧ j < m) := by have := HMM.out; omega
      rw [HF.out]
      by_cases h1 : j < s.size
      · have h2 : ¬ j < m := by omega
        go_wp2_with fail
        go_ret
        exact ⟨rfl, HB.out⟩
      · go_wp2_with fail
        go_ret
        exact ⟨rfl, HB.out⟩
end Go.Proofs.Ytlooclpfoeakgaa

/- The law's words: the walk. -/
namespace Go.Proofs.Ytlooclpfoeakgaa
open Go.RowKit

def wordsL (k many most : Nat) (ss : List ByteArray) : List ByteArray := (ss.take many).map fun s => strB (textL k most (bts s))
theorem Strs.of_row {w : World} {base : Nat} {v : Value} {ss : List ByteArray} (h : w.ownsRow base 9 1 v ss.length (ss.map Value.string)) : Strs w v ss := by
  obtain ⟨a, c, rfl, h1, h2⟩ := row_shapeV h
  refine ⟨a, c, rfl, ⟨h1, h2⟩, fun h0 => ?_⟩
  obtain ⟨g, cap, e, h3, _, _, h4⟩ := row_open h h0
  obtain ⟨rfl, -⟩ : a = some ⟨g, 0, none⟩ ∧ c = cap := by simpa using e
  exact ⟨g, 0, rfl, h3, fun j s hj => by rw [Nat.zero_add]; exact h4 j _ (by rw [List.getElem?_map, hj]; rfl)⟩
theorem Try.info9 : (Try.prog.info? 9).map (fun i => (i.zero, i.size, i.bytes)) = some (some (.string ⟨#[]⟩), 1, 16) := by kernel_rfl

set_option maxRecDepth 100000 in
set_option maxHeartbeats 2000000 in
theorem words_any (v : Value) (ss : List ByteArray) (k many most : Nat) (w : World) (hv : Strs w v ss) (hz : ∀ s ∈ ss, s.size ≤ 9223372036854775807) (hk1 : 1 ≤ k) (hk2 : k ≤ 26) (hm : many ≤ 1000) (hmo : most ≤ 1000) :
    Calls Try.prog 19 #[v, .int .i64 k, .int .i64 many, .int .i64 most] w fun e w' => ∃ rv, e = .returned rv ∧ Strs w' rv (wordsL k many most ss) ∧ Below w.heap.size w w' := by
  obtain ⟨a, n, cap, rfl, HN, hn1, hn2⟩ := hv.open
  obtain ⟨M, hM⟩ : ∃ M, min n many = M := ⟨_, rfl⟩
  have hMn : M ≤ n := by omega
  have hMm : M ≤ many := by omega
  have hfin : wordsL k many most ss = (ss.take M).map fun s => strB (textL k most (bts s)) := by
    unfold wordsL
    congr 1
    rw [← hM, ← HN.out]
    by_cases h : ss.length ≤ many
    · rw [Nat.min_eq_left h, List.take_length, List.take_of_length_le h]
    · rw [Nat.min_eq_right (by omega)]
  have HV := Lib.hid hv
  have HZ := Lib.hid hz
  have HFIN := Lib.hid hfin
  have HMM := Lib.hid hM
  have HO : Hid (w.ownsRow w.heap.size 9 1 (.slice none 0 0) ((ss.take 0).map fun s => strB (textL k most (bts s))).length (((ss.take 0).map fun s => strB (textL k most (bts s))).map Value.string)) := Lib.hid ⟨rfl, .inl ⟨rfl, rfl⟩⟩
  have HB := Lib.hid (Below.refl w.heap.size w)
  clear hv hz hfin hM
  go_enter Try.func19, Try.ntmps19
  go_wp2_with fail
  go_loopw [10, 9] (fun iv ov wr => ∃ (j : Nat) (lw : Value), j ≤ M ∧ iv = .int .i64 j ∧ lw = ov ∧ Hid (wr.ownsRow w.heap.size 9 1 lw ((ss.take j).map fun s => strB (textL k most (bts s))).length (((ss.take j).map fun s => strB (textL k most (bts s))).map Value.string)) ∧ Hid (Below w.heap.size w wr)) (fun iv _ _ => M - (intOf iv).toNat)
  case atStart => exact ⟨0, _, by omega, rfl, rfl, HO, HB⟩
  case round =>
    clear HO HB
    obtain ⟨j, lw, hj, rfl, rfl, HO, HB⟩ := hrel
    have hbsz := HB.out.size
    by_cases hlt : j < M
    · have hjn : j < n := by omega
      have hjm : j < many := by omega
      obtain ⟨b, o, s, rfl, hbl, hgs, hc0⟩ := HV.out.at_ hjn
      have hc1 := (HB.out.cell (p := ⟨b, o + j, none⟩) hbl).trans hc0
      have hT := text_any s k most wr (HZ.out s (List.mem_of_getElem? hgs.out)) hk1 hk2 hmo
      have htk : (ss.take (j + 1)).map (fun s => strB (textL k most (bts s))) = (ss.take j).map (fun s => strB (textL k most (bts s))) ++ [strB (textL k most (bts s))] := by rw [List.take_add_one, hgs.out]; simp
      obtain ⟨P, hP⟩ : ∃ P, (ss.take j).map (fun s => strB (textL k most (bts s))) = P := ⟨_, rfl⟩
      have hPl : P.length ≤ 1000 := by rw [← hP]; simp; omega
      rw [hP] at HO htk
      obtain ⟨X, hX⟩ : ∃ X, strB (textL k most (bts s)) = X := ⟨_, rfl⟩
      rw [hX] at htk hT
      have HT := Lib.hid hT
      have HTK := Lib.hid htk
      clear hc0 hT htk hX hP hgs
      go_wp2_with (first
        | (go_at_call 30; refine HT.out.mono ?_; rintro e w2 ⟨rfl, hb2⟩; have hB2 := HB.out.trans (hb2.mono hbsz); have HO2 := Lib.hid (World.ownsRow.keep (World.ownsRow.keep HO.out hb2) ((Below.refl _ _).alloc (Nat.le_refl _) (.cells #[.string X] 9))); have HB2 := Lib.hid (hB2.alloc hB2.size (.cells #[.string X] 9)); have HBS := Lib.hid HB2.out.size; clear hb2 hB2)
        | (at_builtin; refine wpList_appV Try.info9 rfl (by decide) Try.underlying22 HO2.out (by omega) rfl (.tmp 22) (.tmp 30) rfl (by simp [Act.eval]) (by simp [Act.eval]) (Blk.new w2 9 [.string X]) rfl HBS.out _ rfl ?_; intro g6 cap6 w6 hown6 hgrow6 hat6 hlt6))
      have hlo := World.ownsRow.lt HO2.out
      have G1 : Hid (w6.ownsRow w.heap.size 9 1 (.slice (some ⟨g6, 0, none⟩) (P.length + 1) cap6) ((ss.take (j + 1)).map fun s => strB (textL k most (bts s))).length (((ss.take (j + 1)).map fun s => strB (textL k most (bts s))).map Value.string)) := Lib.hid (by rw [HTK.out, List.length_append, List.length_singleton, List.map_append]; exact hown6)
      have G2 := Lib.hid (HB2.out.grown hgrow6 HBS.out (fun k e => (hlo k e).1))
      clear hlo hown6 hgrow6 hat6 hlt6 HO2 HB2 HBS
      go_roundw
      case rel => exact ⟨j + 1, _, by omega, by go_num, rfl, G1, G2⟩
      case measure => simp [intOf]; omega
    · obtain rfl : j = M := by omega
      have hend : ¬ (j < n ∧ j < many) := by have := HMM.out; omega
      have hO := HO.out
      rw [← HFIN.out] at hO
      have HO2 := Lib.hid (Strs.of_row hO)
      clear hO HO
      by_cases h1 : j < n
      · have h2 : ¬ j < many := by omega
        go_wp2_with fail
        go_ret
        exact ⟨_, rfl, HO2.out, HB.out⟩
      · go_wp2_with fail
        go_ret
        exact ⟨_, rfl, HO2.out, HB.out⟩
end Go.Proofs.Ytlooclpfoeakgaa

/- The edges of words, before they are folded. Plain laws. -/
namespace Go.Proofs.Ytlooclpfoeakgaa

/-- the edge by a letter from a to b -/
def edW (c : UInt8) (a b : Nat) : Ed := if 97 ≤ c.toNat then (a, c.toNat - 97, b) else (b, c.toNat - 65, a)
theorem edW_place : ∀ c : UInt8, letter c.toNat = true → (97 ≤ c.toNat → placeB c / 2 = c.toNat - 97 ∧ placeB c % 2 = 0) ∧ (¬ 97 ≤ c.toNat → placeB c / 2 = c.toNat - 65 ∧ placeB c % 2 = 1) := for_bytes (by decide +kernel)
theorem edW_hit {c : UInt8} (h : letter c.toNat = true) (a b : Nat) : hitE a (placeB c) (edW c a b) = true ∧ endE (placeB c) (edW c a b) = b := by
  obtain ⟨h1, h2⟩ := edW_place c h
  unfold edW
  rw [hit_iff]
  unfold endE
  by_cases hc : 97 ≤ c.toNat
  · obtain ⟨a1, a2⟩ := h1 hc
    rw [if_pos hc, if_pos a2]
    exact ⟨⟨a1.symm, fun _ => rfl, fun q => absurd a2 q⟩, rfl⟩
  · obtain ⟨a1, a2⟩ := h2 hc
    rw [if_neg hc, if_neg (by omega)]
    exact ⟨⟨a1.symm, fun q => absurd q (by omega), fun _ => rfl⟩, rfl⟩
theorem edW_at {c : UInt8} (h : letter c.toNat = true) (l : List Ed) (a b : Nat) : AtE (l ++ [edW c a b]) a (placeB c) b := by
  obtain ⟨h1, h2⟩ := edW_hit h a b
  exact ⟨_, by simp, h1, h2⟩
/-- edges that are in a group's graph -/
structure EPre (k n : Nat) (S : List UInt8 → Prop) (φ : Nat → List UInt8) (l : List Ed) : Prop where
  low : ∀ e ∈ l, e.1 < n ∧ e.2.1 < k ∧ e.2.2 < n
  zero : φ 0 = []
  edge : ∀ e ∈ l, Gen S (φ e.1 ++ [letP (2 * e.2.1)] ++ invL (φ e.2.2))
theorem Walk.more {k : Nat} {l : List Ed} {a b : Nat} {w : List UInt8} (h : Walk k l a w b) (m : List Ed) : Walk k (l ++ m) a w b :=
  h.mono fun _ _ _ ⟨e, he, h2⟩ => ⟨e, List.mem_append_left _ he, h2⟩
theorem edW_low {c : UInt8} {k : Nat} (h : letter c.toNat = true) (hp : placeB c < 2 * k) (a b : Nat) : (edW c a b).2.1 < k := by
  obtain ⟨h1, h2⟩ := edW_place c h
  unfold edW
  by_cases hc : 97 ≤ c.toNat
  · rw [if_pos hc]; have := (h1 hc).1; show c.toNat - 97 < k; omega
  · rw [if_neg hc]; have := (h2 hc).1; show c.toNat - 65 < k; omega
theorem edW_gen {c : UInt8} (h : letter c.toNat = true) {S : List UInt8 → Prop} {φ : Nat → List UInt8} {a b : Nat} (hG : Gen S (φ a ++ [c] ++ invL (φ b))) : Gen S (φ (edW c a b).1 ++ [letP (2 * (edW c a b).2.1)] ++ invL (φ (edW c a b).2.2)) := by
  obtain ⟨h1, h2⟩ := edW_place c h
  have hl := (let_place c h).1
  unfold edW
  by_cases hc : 97 ≤ c.toNat
  · rw [if_pos hc]
    obtain ⟨a1, a2⟩ := h1 hc
    show Gen S (φ a ++ [letP (2 * (c.toNat - 97))] ++ invL (φ b))
    rw [show 2 * (c.toNat - 97) = placeB c by omega, hl]
    exact hG
  · rw [if_neg hc]
    obtain ⟨a1, a2⟩ := h2 hc
    show Gen S (φ b ++ [letP (2 * (c.toNat - 65))] ++ invL (φ a))
    have h52 := (let_place c h).2
    have h7 : placeB c ^^^ 1 = 2 * (c.toNat - 65) := by
      rw [← a1]
      have : ∀ p : Nat, p < 52 → p % 2 = 1 → p ^^^ 1 = 2 * (p / 2) := by decide
      exact this _ h52 a2
    have h8 := let_inv (placeB c) h52
    rw [hl, h7] at h8
    rw [← h8]
    exact hG.turn
section
variable {k n : Nat} {S : List UInt8 → Prop} {φ : Nat → List UInt8} {l : List Ed}
/-- a letter leads to a new vertex -/
theorem EPre.addNew (h : EPre k n S φ l) (hn : 0 < n) {a : Nat} (ha : a < n) {c : UInt8} (hc : letter c.toNat = true) (hp : placeB c < 2 * k) :
    EPre k (n + 1) S (fun v => if v = n then φ a ++ [c] else φ v) (l ++ [edW c a n]) := by
  have hold : ∀ v, v < n → (if v = n then φ a ++ [c] else φ v) = φ v := fun v hv => if_neg (by omega)
  refine ⟨fun e he => ?_, ?_, fun e he => ?_⟩
  · rcases List.mem_append.1 he with he | he
    · obtain ⟨h1, h2, h3⟩ := h.low e he
      exact ⟨by omega, h2, by omega⟩
    · rw [List.mem_singleton.1 he]
      refine ⟨?_, edW_low hc hp a n, ?_⟩
      · unfold edW; split
        · show a < n + 1; omega
        · show n < n + 1; omega
      · unfold edW; split
        · show n < n + 1; omega
        · show a < n + 1; omega
  · show (if 0 = n then _ else φ 0) = []
    rw [if_neg (by omega)]; exact h.zero
  · rcases List.mem_append.1 he with he | he
    · obtain ⟨h1, h2, h3⟩ := h.low e he
      show Gen S ((if e.1 = n then _ else φ e.1) ++ _ ++ invL (if e.2.2 = n then _ else φ e.2.2))
      rw [hold _ h1, hold _ h3]
      exact h.edge e he
    · rw [List.mem_singleton.1 he]
      refine edW_gen (φ := fun v => if v = n then φ a ++ [c] else φ v) hc ?_
      show Gen S ((if a = n then _ else φ a) ++ [c] ++ invL (if n = n then φ a ++ [c] else φ n))
      rw [hold a ha, if_pos rfl]
      exact Gen.refl_ S _
/-- the last letter leads back -/
theorem EPre.addZero (h : EPre k n S φ l) (hn : 0 < n) {a : Nat} (ha : a < n) {c : UInt8} (hc : letter c.toNat = true) (hp : placeB c < 2 * k) (hG : Gen S (φ a ++ [c])) :
    EPre k n S φ (l ++ [edW c a 0]) := by
  refine ⟨fun e he => ?_, h.zero, fun e he => ?_⟩
  · rcases List.mem_append.1 he with he | he
    · exact h.low e he
    · rw [List.mem_singleton.1 he]
      refine ⟨?_, edW_low hc hp a 0, ?_⟩
      · unfold edW; split
        · exact ha
        · exact hn
      · unfold edW; split
        · exact hn
        · exact ha
  · rcases List.mem_append.1 he with he | he
    · exact h.edge e he
    · rw [List.mem_singleton.1 he]
      refine edW_gen hc ?_
      rw [h.zero]
      simpa [invL] using hG
theorem EPre.inv (h : EPre k n S φ l) {N : Nat} (hN : n ≤ N) (ha : ∀ s, S s → Walk k l 0 s 0) : EInv k N S φ l :=
  ⟨fun e he => by obtain ⟨h1, h2, h3⟩ := h.low e he; exact ⟨by omega, h2, by omega⟩, h.zero, h.edge, ha⟩
end
/-- the reduced words make what the words make -/
theorem gen_red {S : List UInt8 → Prop} {g : List UInt8} : Gen (fun a => ∃ b, S b ∧ a = redW b) g ↔ Gen S g := by
  constructor
  · refine fun h => Gen.mono (fun a ha => ?_) h
    obtain ⟨b, hb, rfl⟩ := ha
    exact .eqv (Eqv.red b).symm (Gen.one hb)
  · refine fun h => Gen.mono (fun a ha => ?_) h
    exact .eqv (Eqv.red a) (Gen.one ⟨a, ha, rfl⟩)
end Go.Proofs.Ytlooclpfoeakgaa

/- The reference's graph of words: the walk, up to what lays the edges on one another. -/
namespace Go.Proofs.Ytlooclpfoeakgaa
open Go.RowKit

theorem redW_sub : ∀ {l : List UInt8} {x : UInt8}, x ∈ redW l → x ∈ l := by
  intro l
  suffices H : ∀ (n : Nat) (l : List UInt8), l.length = n → ∀ x, x ∈ redW l → x ∈ l from fun {x} => H _ l rfl x
  intro n
  induction n with
  | zero => intro l hl x hx; obtain rfl := List.eq_nil_of_length_eq_zero hl; exact hx
  | succ n ih =>
    intro l hl x hx
    rcases List.eq_nil_or_concat l with rfl | ⟨k, c, rfl⟩
    · exact hx
    · rw [List.concat_eq_append] at *
      have h1 := ih k (by simpa using hl)
      rw [redW_snoc] at hx
      rcases putL_cases (redW k) c with ⟨m, e1, e⟩ | ⟨e1, e⟩ | ⟨m, y, e1, _, e⟩
      · rw [e] at hx
        exact List.mem_append_left _ (h1 x (by rw [e1]; exact List.mem_append_left _ hx))
      · rw [e] at hx
        exact List.mem_append_right _ hx
      · rw [e] at hx
        rcases List.mem_append.1 hx with hx | hx
        · exact List.mem_append_left _ (h1 x (by rw [e1]; exact List.mem_append_left _ hx))
        · rcases List.mem_cons.1 hx with hx | hx
          · exact List.mem_append_left _ (h1 x (by rw [e1, hx]; simp))
          · exact List.mem_append_right _ hx
/-- what folded does -/
def FoldedSpec : Prop := ∀ (w : World) (k base : Nat) (v : Value) (l : List Ed) (S : List UInt8 → Prop) (φ : Nat → List UInt8), 1 ≤ k → k ≤ 4 → OwnE w base v l → EInv k 5000 S φ l → l.length < 100000 →
  Calls Try.prog 67 #[.int .i64 k, v] w fun e w' => ∃ (rv : Value) (g : List (List Int)), e = .returned (.agg #[.int .i64 k, rv]) ∧ IsGraph k S g ∧ RowsAt w' w.heap.size rv g (fun _ => True) ∧ Below w.heap.size w w'
/-- the words, reduced -/
def setR (ss : List ByteArray) (a : List UInt8) : Prop := ∃ b, setS ss b ∧ a = redW b
theorem letter_u8 {c : UInt8} (h : letter c.toNat = true) : (97 ≤ c.toNat → IntKind.u8.wrap ((c.toNat : Int) - 97) = ((c.toNat - 97 : Nat) : Int)) ∧ (¬ 97 ≤ c.toNat → IntKind.u8.wrap ((c.toNat : Int) - 65) = ((c.toNat - 65 : Nat) : Int)) := by
  have : ∀ c : UInt8, letter c.toNat = true → (97 ≤ c.toNat → IntKind.u8.wrap ((c.toNat : Int) - 97) = ((c.toNat - 97 : Nat) : Int)) ∧ (¬ 97 ≤ c.toNat → IntKind.u8.wrap ((c.toNat : Int) - 65) = ((c.toNat - 65 : Nat) : Int)) := for_bytes (by decide +kernel)
  exact this c h
theorem letter_lo : ∀ {c : UInt8}, letter c.toNat = true → 65 ≤ c.toNat := by
  intro c h
  have : ∀ c : UInt8, letter c.toNat = true → 65 ≤ c.toNat := for_bytes (by decide +kernel)
  exact this c h
theorem ret17 {w : World} {tmps : Array Value} {g : Nat} {M : List Value} (hM : M.length = 2) (hp : tmps.getD 4 undef = .pointer (some ⟨g, 0, none⟩)) (hb : Blk w g 32 M) : (results Try.f17 tmps).run Try.prog w = .ok (.agg M.toArray) w :=
  results_cell_row rfl tmps w g 32 _ (0, 0) _ hp hb Try.underlying32 rfl (by rw [Try.size32]; simp [hM])

set_option maxRecDepth 100000 in
set_option maxHeartbeats 4000000 in
theorem rFold_of (HFD : FoldedSpec) (k : Nat) (v : Value) (ss : List ByteArray) (w : World) (hv : Strs w v ss) (hk1 : 1 ≤ k) (hk4 : k ≤ 4) (hl : ss.length ≤ 12) (hw : ∀ s ∈ ss, isWord (bts s) = true ∧ s.size ≤ 200 ∧ fitW k (bts s) = true) :
    Calls Try.prog 17 #[.int .i64 k, v] w fun e w' => ∃ (rv : Value) (g : List (List Int)), e = .returned (.agg #[.int .i64 k, rv]) ∧ IsGraph k (setR ss) g ∧ RowsAt w' w.heap.size rv g (fun _ => True) ∧ Below w.heap.size w w' := by
  obtain ⟨a0, m, cap, rfl, HN, hn1, hn2⟩ := hv.open
  have hm12 : m ≤ 12 := by rw [HN.out] at hl; exact hl
  have hzb := Blk.new w 32 zeroG
  have hb0 : Below w.heap.size w (w.alloc (.cells zeroG.toArray 32)) := (Below.refl _ _).alloc (Nat.le_refl _) _
  have HV := Lib.hid hv
  have HW := Lib.hid hw
  have HZ : Hid (Blk (w.alloc (.cells zeroG.toArray 32)) w.heap.size 32 zeroG) := Lib.hid hzb
  have HB : Hid (Below w.heap.size w (w.alloc (.cells zeroG.toArray 32))) := Lib.hid hb0
  have HP : Hid (EPre k 1 (setR ss) (fun _ => []) []) := Lib.hid ⟨fun e he => (by cases he), rfl, fun e he => (by cases he)⟩
  have HO : Hid (OwnE (w.alloc (.cells zeroG.toArray 32)) (w.heap.size + 1) (.slice none 0 0) []) := Lib.hid (OwnE.nil _ _)
  have HFD2 := Lib.hid HFD
  clear hv hw hzb hb0 hl HFD
  go_enter Try.func17, Try.ntmps17
  go_wp2_with fail
  go_loopw [7, 5, 6] (fun iv ov nv wr => ∃ (i n : Nat) (l : List Ed) (φ : Nat → List UInt8) (lw : Value), i ≤ m ∧ iv = .int .i64 i ∧ lw = ov ∧ nv = .int .i64 n ∧ Hid (OwnE wr (w.heap.size + 1) lw l) ∧ Hid (EPre k n (setR ss) φ l) ∧ Hid (∀ t s, t < i → ss[t]? = some s → Walk k l 0 (redW (bts s)) 0) ∧ Hid (1 ≤ n ∧ n ≤ 1 + 200 * i ∧ l.length ≤ 200 * i) ∧ Hid (Blk wr w.heap.size 32 zeroG) ∧ Hid (Below w.heap.size w wr)) (fun iv _ _ _ => m - (intOf iv).toNat)
  case atStart => exact ⟨0, 1, [], _, _, by omega, rfl, rfl, rfl, HO, HP, Lib.hid (fun t s h => by omega), Lib.hid (by simp), HZ, HB⟩
  case round =>
    clear HO HP HZ HB
    obtain ⟨i, n, l, φ, lw, hi, rfl, rfl, rfl, HO, HP, HD, HC, HZ, HB⟩ := hrel
    have hbsz := HB.out.size
    by_cases hlt : i < m
    · obtain ⟨b, o, s, rfl, hbl, hgs, hc0⟩ := HV.out.at_ hlt
      have hc1 := (HB.out.cell (p := ⟨b, o + i, none⟩) hbl).trans hc0
      obtain ⟨w1, w2, w3⟩ := HW.out s (List.mem_of_getElem? hgs.out)
      have hrd := rReduce_any s wr w1 (by omega)
      have hrl := redW_len (bts s)
      rw [bts_len] at hrl
      have hS : setR ss (redW (bts s)) := ⟨bts s, ⟨s, List.mem_of_getElem? hgs.out, rfl⟩, rfl⟩
      have hlet : ∀ c ∈ redW (bts s), letter c.toNat = true ∧ placeB c < 2 * k := fun c hc => ⟨List.all_eq_true.1 (show (bts s).all _ = true from w1) c (redW_sub hc), of_decide_eq_true (List.all_eq_true.1 w3 c (redW_sub hc))⟩
      obtain ⟨q, hq⟩ : ∃ q, redW (bts s) = q := ⟨_, rfl⟩
      rw [hq] at hrd hrl hS hlet
      obtain ⟨W, hWW⟩ : ∃ W, strB q = W := ⟨_, rfl⟩
      have hWb : bts W = q := by rw [← hWW]
      have hWs : W.size = q.length := by rw [← hWb, bts_len]
      rw [hWW] at hrd
      have HRD := Lib.hid hrd
      have HS := Lib.hid hS
      have HLET := Lib.hid hlet
      have HQ := Lib.hid hq
      have HGS := Lib.hid hgs.out
      have HWB := Lib.hid hWb
      have hW200 : W.size ≤ 200 := by omega
      have HWS := Lib.hid hWs
      clear hc0 w1 w3 hrd hS hlet hq hgs hWb hWW hrl hWs
      go_upto_region 9 with (go_at_call 66; refine HRD.out.mono ?_; rintro e w2 ⟨rfl, hb2⟩)
      have hO2 := World.ownsRow.keep HO.out hb2
      have hZ2 := HZ.out.keep hb2
      have hB2 := HB.out.trans (hb2.mono hbsz)
      have hc := HC.out
      have hph : φ 0 = [] := HP.out.zero
      have HO2 : Hid (OwnE w2 (w.heap.size + 1) lw l) := Lib.hid hO2
      have HZ2 := Lib.hid hZ2
      have HB2 := Lib.hid hB2
      have HW0 : Hid (Walk k l 0 (q.take 0) 0) := Lib.hid (Walk.nil 0)
      have HPH : Hid ((0 < q.length → φ 0 = q.take 0) ∧ (0 = q.length → (0 : Nat) = 0)) := Lib.hid ⟨fun _ => hph, fun _ => rfl⟩
      clear hO2 hZ2 hB2 hph hb2 HO HZ HB HRD
      go_wp2_with fail
      go_loopw [10, 5, 6, 9] (fun jv ov nv av wr => ∃ (j n2 a : Nat) (l2 : List Ed) (φ2 : Nat → List UInt8) (lw : Value), j ≤ W.size ∧ jv = .int .i64 j ∧ lw = ov ∧ nv = .int .i64 n2 ∧ av = .int .i64 a ∧ Hid (OwnE wr (w.heap.size + 1) lw l2) ∧ Hid (EPre k n2 (setR ss) φ2 l2) ∧ Hid (∀ t s, t < i → ss[t]? = some s → Walk k l2 0 (redW (bts s)) 0) ∧ Hid (1 ≤ n2 ∧ a < n2 ∧ n2 ≤ n + j ∧ l2.length ≤ l.length + j) ∧
        Hid (Walk k l2 0 (q.take j) a) ∧ Hid ((j < q.length → φ2 a = q.take j) ∧ (j = q.length → a = 0)) ∧ Hid (Blk wr w.heap.size 32 zeroG) ∧ Hid (Below w.heap.size w wr)) (fun jv _ _ _ _ => W.size - (intOf jv).toNat)
      case atStart => exact ⟨0, n, 0, l, φ, _, by omega, rfl, rfl, rfl, rfl, HO2, HP, HD, Lib.hid (by omega), HW0, Lib.hid ⟨fun h => HPH.out.1 h, fun _ => rfl⟩, HZ2, HB2⟩
      case round =>
        clear HO2 HP HD HW0 HPH HZ2 HB2
        obtain ⟨j, n2, a, l2, φ2, lw, hj, rfl, rfl, rfl, rfl, HO, HP, HD, HC2, HWK, HPH, HZ, HB⟩ := hrel
        have hbsz := HB.out.size
        by_cases hlj : j < W.size
        · have hcj := bts_get hlj
          rw [HWB.out] at hcj
          obtain ⟨hc1, hc2⟩ := HLET.out _ (List.mem_of_getElem? hcj)
          have htk := take_snoc hcj
          obtain ⟨c, hcc⟩ : ∃ c, W[j]'hlj = c := ⟨_, rfl⟩
          rw [hcc] at hcj hc1 hc2 htk
          obtain ⟨hu1, hu2⟩ := letter_u8 hc1
          have hc9 := HC2.out
          have hc8 := HC.out
          have hpa := HPH.out.1 (by rw [← HWS.out]; exact hlj)
          have hl9 : l2.length < 1000000 := by omega
          have HC1 := Lib.hid hc1
          have HCP := Lib.hid hc2
          have HTK := Lib.hid htk
          have HPA := Lib.hid hpa
          clear hc1 hc2 htk hpa hcj
          by_cases hlast : j + 1 = W.size
          · by_cases h97 : 97 ≤ c.toNat
            · have h97I : (97 : Int) ≤ (c.toNat : Int) := by omega
              have hwr0 := hu1 h97
              obtain ⟨y, hy⟩ : ∃ y, c.toNat - 97 = y := ⟨_, rfl⟩
              rw [hy] at hwr0
              have hy9 : y ≤ 200 := by have := c.toNat_lt; omega
              have hwr := hwr0
              have hwi : IntKind.i64.wrap (y : Int) = y := by rw [IntKind.wrap_i64]; omega
              have h65 := letter_lo HC1.out
              have hwm : ((c.toNat : Int) - 97) % 256 = y := by omega
              have hedw : edW c a 0 = (a, y, 0) := by unfold edW; rw [if_pos h97, hy]
              have hbase : w.heap.size + 1 ≤ (wr.alloc (.cells (I64s [(a : Int), (y : Int), (0 : Int)]).toArray 102)).heap.size := by simp; omega
              have HBS := Lib.hid hbase
              have HOA : Hid (OwnE (wr.alloc (.cells (I64s [(a : Int), (y : Int), (0 : Int)]).toArray 102)) (w.heap.size + 1) lw l2) := Lib.hid (World.ownsRow.keep HO.out ((Below.refl _ _).alloc (Nat.le_refl _) _))
              have HZA := Lib.hid (HZ.out.alloc (.cells (I64s [(a : Int), (y : Int), (0 : Int)]).toArray 102))
              have HBA := Lib.hid (HB.out.alloc hbsz (.cells (I64s [(a : Int), (y : Int), (0 : Int)]).toArray 102))
              have HED := Lib.hid hedw
              have hpre := HP.out.addZero (by omega) hc9.2.1 HC1.out HCP.out (by rw [HPA.out, HTK.out, List.take_of_length_le (by rw [← HWS.out]; omega)]; exact Gen.one HS.out)
              have hN2 : (1 ≤ n2 ∧ 0 < n2 ∧ n2 ≤ n + (j + 1) ∧ (l2 ++ [edW c a 0]).length ≤ l.length + (j + 1)) := by rw [List.length_append, List.length_singleton]; omega
              have hph : (j + 1 < q.length → φ2 0 = q.take (j + 1)) ∧ (j + 1 = q.length → (0 : Nat) = 0) := ⟨fun h => by have := HWS.out; omega, fun _ => rfl⟩
              have hlI : (W.size : Int) - 1 = (j : Int) := by omega
              have hwk := (HWK.out.more [edW c a 0]).snoc HC1.out HCP.out (edW_at HC1.out l2 a 0)
              rw [HTK.out] at hwk
              have HWK2 := Lib.hid hwk
              have HPRE := Lib.hid hpre
              have HN2 := Lib.hid hN2
              have HPH2 := Lib.hid hph
              have HD2 : Hid (∀ t s, t < i → ss[t]? = some s → Walk k (l2 ++ [edW c a 0]) 0 (redW (bts s)) 0) := Lib.hid (fun t u ht hu => (HD.out t u ht hu).more _)
              clear hbase h65 hy hwr0 hedw hpre hN2 hph hwk HO HZ HB HP HWK HPH HD hlast hu1 hu2
              go_wp2_with (at_builtin; refine wpList_appK Try.info102 rfl (by decide) (by decide) Try.underlying100 HOA.out (by omega) rfl (.tmp 41) (.tmp 50) rfl (by simp [Act.eval]) (by simp [Act.eval]) (Blk.new wr 102 (I64s [(a : Int), (y : Int), (0 : Int)])) rfl HBS.out _ rfl ?_; intro g6 cap6 w6 hown6 hgrow6 hat6 hlt6)
              have hlo := World.ownsRow.lt HOA.out
              have G1 : Hid (OwnE w6 (w.heap.size + 1) (.slice (some ⟨g6, 0, none⟩) (l2.length + 1) cap6) (l2 ++ [edW c a 0])) := Lib.hid (by rw [HED.out]; unfold OwnE; rw [edL_app, List.length_append]; exact hown6)
              have G2 := Lib.hid (HZA.out.grown hgrow6 (row_blk HOA.out HZA.out (by decide)))
              have G3 := Lib.hid (HBA.out.grown hgrow6 (by have := HBS.out; omega) (fun k e => by have := (hlo k e).1; omega))
              clear hlo hown6 hgrow6 hat6 hlt6 HOA HZA HBA HBS
              go_roundw
              case rel => exact ⟨j + 1, n2, 0, l2 ++ [edW c a 0], _, _, by omega, by go_num, rfl, rfl, rfl, G1, HPRE, HD2, HN2, HWK2, HPH2, G2, G3⟩
              case measure => simp [intOf]; omega
            · have h97I : ¬ (97 : Int) ≤ (c.toNat : Int) := by omega
              have hwr0 := hu2 h97
              obtain ⟨y, hy⟩ : ∃ y, c.toNat - 65 = y := ⟨_, rfl⟩
              rw [hy] at hwr0
              have hy9 : y ≤ 200 := by have := c.toNat_lt; omega
              have hwr := hwr0
              have hwi : IntKind.i64.wrap (y : Int) = y := by rw [IntKind.wrap_i64]; omega
              have h65 := letter_lo HC1.out
              have hwm : ((c.toNat : Int) - 65) % 256 = y := by omega
              have hedw : edW c a 0 = (0, y, a) := by unfold edW; rw [if_neg h97, hy]
              have hbase : w.heap.size + 1 ≤ (wr.alloc (.cells (I64s [(0 : Int), (y : Int), (a : Int)]).toArray 102)).heap.size := by simp; omega
              have HBS := Lib.hid hbase
              have HOA : Hid (OwnE (wr.alloc (.cells (I64s [(0 : Int), (y : Int), (a : Int)]).toArray 102)) (w.heap.size + 1) lw l2) := Lib.hid (World.ownsRow.keep HO.out ((Below.refl _ _).alloc (Nat.le_refl _) _))
              have HZA := Lib.hid (HZ.out.alloc (.cells (I64s [(0 : Int), (y : Int), (a : Int)]).toArray 102))
              have HBA := Lib.hid (HB.out.alloc hbsz (.cells (I64s [(0 : Int), (y : Int), (a : Int)]).toArray 102))
              have HED := Lib.hid hedw
              have hpre := HP.out.addZero (by omega) hc9.2.1 HC1.out HCP.out (by rw [HPA.out, HTK.out, List.take_of_length_le (by rw [← HWS.out]; omega)]; exact Gen.one HS.out)
              have hN2 : (1 ≤ n2 ∧ 0 < n2 ∧ n2 ≤ n + (j + 1) ∧ (l2 ++ [edW c a 0]).length ≤ l.length + (j + 1)) := by rw [List.length_append, List.length_singleton]; omega
              have hph : (j + 1 < q.length → φ2 0 = q.take (j + 1)) ∧ (j + 1 = q.length → (0 : Nat) = 0) := ⟨fun h => by have := HWS.out; omega, fun _ => rfl⟩
              have hlI : (W.size : Int) - 1 = (j : Int) := by omega
              have hwk := (HWK.out.more [edW c a 0]).snoc HC1.out HCP.out (edW_at HC1.out l2 a 0)
              rw [HTK.out] at hwk
              have HWK2 := Lib.hid hwk
              have HPRE := Lib.hid hpre
              have HN2 := Lib.hid hN2
              have HPH2 := Lib.hid hph
              have HD2 : Hid (∀ t s, t < i → ss[t]? = some s → Walk k (l2 ++ [edW c a 0]) 0 (redW (bts s)) 0) := Lib.hid (fun t u ht hu => (HD.out t u ht hu).more _)
              clear hbase h65 hy hwr0 hedw hpre hN2 hph hwk HO HZ HB HP HWK HPH HD hlast hu1 hu2
              go_wp2_with (at_builtin; refine wpList_appK Try.info102 rfl (by decide) (by decide) Try.underlying100 HOA.out (by omega) rfl (.tmp 52) (.tmp 61) rfl (by simp [Act.eval]) (by simp [Act.eval]) (Blk.new wr 102 (I64s [(0 : Int), (y : Int), (a : Int)])) rfl HBS.out _ rfl ?_; intro g6 cap6 w6 hown6 hgrow6 hat6 hlt6)
              have hlo := World.ownsRow.lt HOA.out
              have G1 : Hid (OwnE w6 (w.heap.size + 1) (.slice (some ⟨g6, 0, none⟩) (l2.length + 1) cap6) (l2 ++ [edW c a 0])) := Lib.hid (by rw [HED.out]; unfold OwnE; rw [edL_app, List.length_append]; exact hown6)
              have G2 := Lib.hid (HZA.out.grown hgrow6 (row_blk HOA.out HZA.out (by decide)))
              have G3 := Lib.hid (HBA.out.grown hgrow6 (by have := HBS.out; omega) (fun k e => by have := (hlo k e).1; omega))
              clear hlo hown6 hgrow6 hat6 hlt6 HOA HZA HBA HBS
              go_roundw
              case rel => exact ⟨j + 1, n2, 0, l2 ++ [edW c a 0], _, _, by omega, by go_num, rfl, rfl, rfl, G1, HPRE, HD2, HN2, HWK2, HPH2, G2, G3⟩
              case measure => simp [intOf]; omega
          · by_cases h97 : 97 ≤ c.toNat
            · have h97I : (97 : Int) ≤ (c.toNat : Int) := by omega
              have hwr0 := hu1 h97
              obtain ⟨y, hy⟩ : ∃ y, c.toNat - 97 = y := ⟨_, rfl⟩
              rw [hy] at hwr0
              have hy9 : y ≤ 200 := by have := c.toNat_lt; omega
              have hwr := hwr0
              have hwi : IntKind.i64.wrap (y : Int) = y := by rw [IntKind.wrap_i64]; omega
              have h65 := letter_lo HC1.out
              have hwm : ((c.toNat : Int) - 97) % 256 = y := by omega
              have hedw : edW c a n2 = (a, y, n2) := by unfold edW; rw [if_pos h97, hy]
              have hbase : w.heap.size + 1 ≤ (wr.alloc (.cells (I64s [(a : Int), (y : Int), (n2 : Int)]).toArray 102)).heap.size := by simp; omega
              have HBS := Lib.hid hbase
              have HOA : Hid (OwnE (wr.alloc (.cells (I64s [(a : Int), (y : Int), (n2 : Int)]).toArray 102)) (w.heap.size + 1) lw l2) := Lib.hid (World.ownsRow.keep HO.out ((Below.refl _ _).alloc (Nat.le_refl _) _))
              have HZA := Lib.hid (HZ.out.alloc (.cells (I64s [(a : Int), (y : Int), (n2 : Int)]).toArray 102))
              have HBA := Lib.hid (HB.out.alloc hbsz (.cells (I64s [(a : Int), (y : Int), (n2 : Int)]).toArray 102))
              have HED := Lib.hid hedw
              have hpre := HP.out.addNew (by omega) hc9.2.1 HC1.out HCP.out
              have hN2 : (1 ≤ n2 + 1 ∧ n2 < n2 + 1 ∧ n2 + 1 ≤ n + (j + 1) ∧ (l2 ++ [edW c a n2]).length ≤ l.length + (j + 1)) := by rw [List.length_append, List.length_singleton]; omega
              have hph : (j + 1 < q.length → (fun v => if v = n2 then φ2 a ++ [c] else φ2 v) n2 = q.take (j + 1)) ∧ (j + 1 = q.length → n2 = 0) := ⟨fun _ => by show (if n2 = n2 then _ else _) = _; rw [if_pos rfl, HPA.out, HTK.out], fun h => by have := HWS.out; omega⟩
              have hlI : ¬ ((j : Int) = (W.size : Int) - 1) := by omega
              have hwk := (HWK.out.more [edW c a n2]).snoc HC1.out HCP.out (edW_at HC1.out l2 a n2)
              rw [HTK.out] at hwk
              have HWK2 := Lib.hid hwk
              have HPRE := Lib.hid hpre
              have HN2 := Lib.hid hN2
              have HPH2 := Lib.hid hph
              have HD2 : Hid (∀ t s, t < i → ss[t]? = some s → Walk k (l2 ++ [edW c a n2]) 0 (redW (bts s)) 0) := Lib.hid (fun t u ht hu => (HD.out t u ht hu).more _)
              clear hbase h65 hy hwr0 hedw hpre hN2 hph hwk HO HZ HB HP HWK HPH HD hlast hu1 hu2
              go_wp2_with (at_builtin; refine wpList_appK Try.info102 rfl (by decide) (by decide) Try.underlying100 HOA.out (by omega) rfl (.tmp 41) (.tmp 50) rfl (by simp [Act.eval]) (by simp [Act.eval]) (Blk.new wr 102 (I64s [(a : Int), (y : Int), (n2 : Int)])) rfl HBS.out _ rfl ?_; intro g6 cap6 w6 hown6 hgrow6 hat6 hlt6)
              have hlo := World.ownsRow.lt HOA.out
              have G1 : Hid (OwnE w6 (w.heap.size + 1) (.slice (some ⟨g6, 0, none⟩) (l2.length + 1) cap6) (l2 ++ [edW c a n2])) := Lib.hid (by rw [HED.out]; unfold OwnE; rw [edL_app, List.length_append]; exact hown6)
              have G2 := Lib.hid (HZA.out.grown hgrow6 (row_blk HOA.out HZA.out (by decide)))
              have G3 := Lib.hid (HBA.out.grown hgrow6 (by have := HBS.out; omega) (fun k e => by have := (hlo k e).1; omega))
              clear hlo hown6 hgrow6 hat6 hlt6 HOA HZA HBA HBS
              go_roundw
              case rel => exact ⟨j + 1, n2 + 1, n2, l2 ++ [edW c a n2], _, _, by omega, by go_num, rfl, by go_num, rfl, G1, HPRE, HD2, HN2, HWK2, HPH2, G2, G3⟩
              case measure => simp [intOf]; omega
            · have h97I : ¬ (97 : Int) ≤ (c.toNat : Int) := by omega
              have hwr0 := hu2 h97
              obtain ⟨y, hy⟩ : ∃ y, c.toNat - 65 = y := ⟨_, rfl⟩
              rw [hy] at hwr0
              have hy9 : y ≤ 200 := by have := c.toNat_lt; omega
              have hwr := hwr0
              have hwi : IntKind.i64.wrap (y : Int) = y := by rw [IntKind.wrap_i64]; omega
              have h65 := letter_lo HC1.out
              have hwm : ((c.toNat : Int) - 65) % 256 = y := by omega
              have hedw : edW c a n2 = (n2, y, a) := by unfold edW; rw [if_neg h97, hy]
              have hbase : w.heap.size + 1 ≤ (wr.alloc (.cells (I64s [(n2 : Int), (y : Int), (a : Int)]).toArray 102)).heap.size := by simp; omega
              have HBS := Lib.hid hbase
              have HOA : Hid (OwnE (wr.alloc (.cells (I64s [(n2 : Int), (y : Int), (a : Int)]).toArray 102)) (w.heap.size + 1) lw l2) := Lib.hid (World.ownsRow.keep HO.out ((Below.refl _ _).alloc (Nat.le_refl _) _))
              have HZA := Lib.hid (HZ.out.alloc (.cells (I64s [(n2 : Int), (y : Int), (a : Int)]).toArray 102))
              have HBA := Lib.hid (HB.out.alloc hbsz (.cells (I64s [(n2 : Int), (y : Int), (a : Int)]).toArray 102))
              have HED := Lib.hid hedw
              have hpre := HP.out.addNew (by omega) hc9.2.1 HC1.out HCP.out
              have hN2 : (1 ≤ n2 + 1 ∧ n2 < n2 + 1 ∧ n2 + 1 ≤ n + (j + 1) ∧ (l2 ++ [edW c a n2]).length ≤ l.length + (j + 1)) := by rw [List.length_append, List.length_singleton]; omega
              have hph : (j + 1 < q.length → (fun v => if v = n2 then φ2 a ++ [c] else φ2 v) n2 = q.take (j + 1)) ∧ (j + 1 = q.length → n2 = 0) := ⟨fun _ => by show (if n2 = n2 then _ else _) = _; rw [if_pos rfl, HPA.out, HTK.out], fun h => by have := HWS.out; omega⟩
              have hlI : ¬ ((j : Int) = (W.size : Int) - 1) := by omega
              have hwk := (HWK.out.more [edW c a n2]).snoc HC1.out HCP.out (edW_at HC1.out l2 a n2)
              rw [HTK.out] at hwk
              have HWK2 := Lib.hid hwk
              have HPRE := Lib.hid hpre
              have HN2 := Lib.hid hN2
              have HPH2 := Lib.hid hph
              have HD2 : Hid (∀ t s, t < i → ss[t]? = some s → Walk k (l2 ++ [edW c a n2]) 0 (redW (bts s)) 0) := Lib.hid (fun t u ht hu => (HD.out t u ht hu).more _)
              clear hbase h65 hy hwr0 hedw hpre hN2 hph hwk HO HZ HB HP HWK HPH HD hlast hu1 hu2
              go_wp2_with (at_builtin; refine wpList_appK Try.info102 rfl (by decide) (by decide) Try.underlying100 HOA.out (by omega) rfl (.tmp 52) (.tmp 61) rfl (by simp [Act.eval]) (by simp [Act.eval]) (Blk.new wr 102 (I64s [(n2 : Int), (y : Int), (a : Int)])) rfl HBS.out _ rfl ?_; intro g6 cap6 w6 hown6 hgrow6 hat6 hlt6)
              have hlo := World.ownsRow.lt HOA.out
              have G1 : Hid (OwnE w6 (w.heap.size + 1) (.slice (some ⟨g6, 0, none⟩) (l2.length + 1) cap6) (l2 ++ [edW c a n2])) := Lib.hid (by rw [HED.out]; unfold OwnE; rw [edL_app, List.length_append]; exact hown6)
              have G2 := Lib.hid (HZA.out.grown hgrow6 (row_blk HOA.out HZA.out (by decide)))
              have G3 := Lib.hid (HBA.out.grown hgrow6 (by have := HBS.out; omega) (fun k e => by have := (hlo k e).1; omega))
              clear hlo hown6 hgrow6 hat6 hlt6 HOA HZA HBA HBS
              go_roundw
              case rel => exact ⟨j + 1, n2 + 1, n2, l2 ++ [edW c a n2], _, _, by omega, by go_num, rfl, by go_num, rfl, G1, HPRE, HD2, HN2, HWK2, HPH2, G2, G3⟩
              case measure => simp [intOf]; omega
        · obtain rfl : j = W.size := by omega
          have ha0 := HPH.out.2 HWS.out
          have hwk := HWK.out
          rw [ha0, List.take_of_length_le (by rw [HWS.out]; exact Nat.le_refl _)] at hwk
          have hc9 := HC2.out
          have hc8 := HC.out
          have G1 : Hid (∀ t s, t < i + 1 → ss[t]? = some s → Walk k l2 0 (redW (bts s)) 0) := Lib.hid (fun t u ht hu => by
            by_cases e : t = i
            · subst e
              rw [HGS.out] at hu
              rw [← Option.some.inj hu, HQ.out]; exact hwk
            · exact HD.out t u (by omega) hu)
          have G2 : Hid (1 ≤ n2 ∧ n2 ≤ 1 + 200 * (i + 1) ∧ l2.length ≤ 200 * (i + 1)) := Lib.hid (by omega)
          clear ha0 hwk
          go_wp2_with fail
          go_roundw
          case rel => exact ⟨i + 1, n2, l2, φ2, _, by omega, by go_num, rfl, rfl, HO, HP, G1, G2, HZ, HB⟩
          case measure => simp [intOf]; omega
    · obtain rfl : i = m := by omega
      have hc8 := HC.out
      have hall : ∀ x, setR ss x → Walk k l 0 x 0 := fun x hx => by
        obtain ⟨y, ⟨s, hs, rfl⟩, rfl⟩ := hx
        obtain ⟨t, ht, rfl⟩ := List.mem_iff_getElem.1 hs
        exact HD.out t _ (by rw [HN.out] at ht; exact ht) (List.getElem?_eq_getElem ht)
      have hfd := HFD2.out wr k (w.heap.size + 1) lw l (setR ss) φ hk1 hk4 HO.out (HP.out.inv (by omega) hall) (by omega)
      have HFF := Lib.hid hfd
      clear hfd hall
      go_wp2_with (first
        | (go_at_call 67; refine HFF.out.mono ?_; rintro e w6 ⟨rv, g, rfl, hg, hrows, hb6⟩; have HX6 := Lib.hid (HZ.out.keep hb6); have HRV := Lib.hid (rows_one hrows k); have HROWS := Lib.hid hrows; have HB6 := Lib.hid (HB.out.trans (hb6.mono hbsz)); have HG := Lib.hid hg; clear hrows hb6 hg)
        | (with_reducible show wpList _ _ _ (Oper.mk _ (Op.store 32 _ _) _ _ _ _ :: _) _ _; (refine wpList_storeB (vs := [.int .i64 k, rv]) HX6.out Try.size32 rfl rfl HRV.out rfl _ _ rfl rfl rfl ?_)))
      have hr1 := HX6.out.set 0 (.int .i64 k)
      have hrow := ((HROWS.out.mono hbsz).other HX6.out (by decide) (by decide) 0 (.int .i64 k)).other hr1 (by decide) (by decide) 1 rv
      exact bodyPost_ret (ret17 (M := [.int .i64 k, rv]) rfl rfl (hr1.set 1 rv)) rfl ⟨rv, g, rfl, HG.out, hrow, below_setCells (Nat.le_refl _) [.int .i64 k, rv] 0 HB6.out⟩
end Go.Proofs.Ytlooclpfoeakgaa

/- Append of the edges of a slice. -/
namespace Go.Proofs.Ytlooclpfoeakgaa
open Go.RowKit

/-- the value v reads as edges -/
def EdR (w : World) (v : Value) (l : List Ed) : Prop := ∃ (a : Option Addr) (c : Nat), v = .slice a l.length c ∧ l.length ≤ c ∧ c ≤ 9223372036854775807 ∧ (a = none → c = 0) ∧
  (0 < l.length → ∃ b o, a = some ⟨b, o, none⟩ ∧ ∀ j x, (edL l)[j]? = some x → w.cell? ⟨b, o + j, none⟩ = some (.int .i64 x))
theorem wpList_appE {w : World} {ops : Array Oper} {rest : List Oper} {o : Oper} {a : Act} {Q : Exit → Act → World → Prop}
    {base : Nat} {v : Value} {l m : List Ed} (hown : OwnE w base v l) (hb : base ≤ w.heap.size) (hl : l.length < 1000000)
    (hgd : o.guard = none) (s x : Operand) (ho : o.op = .call { callee := .builtin .append, args := #[s, x], argTypes := #[100, 100] })
    {sv : Value} (hs : a.eval s = v) (hx : a.eval x = sv) (hsv : EdR w sv m) (hm : m.length < 1000000)
    (hK : ∀ v' w', OwnE w' base v' (l ++ m) → w.grownBy w' v.ownBlock → Below base w w' → wpList Try.prog ops Q rest (a.put o.dst v') w') :
    wpList Try.prog ops Q (o :: rest) a w := by
  obtain ⟨i, h2, h3, h4, h5⟩ := info_parts Try.info102
  obtain ⟨ad, cap, rfl, hcap, -, hnil, hcs⟩ := hsv
  have hlt := World.ownsRow.lt hown
  cases ad with
  | none =>
    obtain rfl := hnil rfl
    have h0 : m = [] := List.eq_nil_of_length_eq_zero (by omega)
    subst h0
    refine wpList_append_own_none hgd s x 100 ho base 102 i 3 Try.underlying100 h2 v l.length (I64s (edL l)) hs hown hx ?_
    exact hK v w (by simpa using hown) ⟨rfl, rfl, rfl, Nat.le_refl _, fun _ _ _ => rfl⟩ (Below.refl _ _)
  | some ad =>
    refine wpList_append_own _ hgd s x 100 ho base 102 i _ 3 24 Try.underlying100 h2 h3 h4 h5 rfl (by decide) v l.length _ hs hown ad m.length cap (I64s (edL m)) hx (by simp [edL_len]) ?_ ?_ ?_ ?_ hb ?_
    · intro j u hu
      simp only [I64s, List.getElem?_map, Option.map_eq_some_iff] at hu
      obtain ⟨z, hz, rfl⟩ := hu
      have hj : j < (edL m).length := (List.getElem?_eq_some_iff.1 hz).1
      rw [edL_len] at hj
      obtain ⟨b, o', h, hc⟩ := hcs (by omega)
      cases h
      have e : (⟨b, o', none⟩ : Addr).add j = ⟨b, o' + j, none⟩ := by
        unfold Addr.add
        split
        · rename_i h; subst h; rfl
        · rfl
      rw [e]
      exact hc j z hz
    · intro u hu; simp at hu; obtain ⟨z, _, rfl⟩ := hu; rfl
    · unfold maxLen; omega
    · omega
    · intro v' w1 hown1 hg1 _
      refine hK v' w1 ?_ hg1 ?_
      · unfold OwnE
        rw [edL_app, List.length_append]
        simpa [OwnK, I64s] using hown1
      · exact (Below.refl base w).grown hg1 hb fun k hk => (hlt k hk).1
theorem OwnE.read {w : World} {base : Nat} {v : Value} {l : List Ed} (h : OwnE w base v l) : EdR w v l := by
  rcases h.2 with ⟨rfl, hz⟩ | ⟨g, cap, cur, rfl, hb, hgg, hn, hm, hc, htake⟩
  · exact ⟨none, 0, by rw [hz], by omega, by omega, fun _ => rfl, fun h => by omega⟩
  · refine ⟨_, cap, rfl, hn, by unfold maxLen at hm; omega, fun e => (by cases e), fun h0 => ⟨g, 0, rfl, fun j x hj => ?_⟩⟩
    obtain ⟨g2, c2, e2, _, _, _, _, _, hcs⟩ := OwnK.open h h0
    obtain ⟨rfl, _⟩ : g = g2 ∧ cap = c2 := by simpa using e2
    rw [Nat.zero_add]; exact hcs j x hj
/-- the first ones -/
theorem OwnE.take {w : World} {base g n cap : Nat} {l : List Ed} (h : OwnE w base (.slice (some ⟨g, 0, none⟩) n cap) l) (hn : l.length = n) (hc : cap ≤ 9223372036854775807) (hnc : n ≤ cap) {i : Nat} (hi : i ≤ n) : EdR w (.slice (some ⟨g, 0, none⟩) i cap) (l.take i) := by
  have hl : (l.take i).length = i := by rw [List.length_take]; omega
  refine ⟨_, cap, by rw [hl], by omega, hc, fun e => (by cases e), fun h0 => ⟨g, 0, rfl, fun j x hj => ?_⟩⟩
  obtain ⟨g2, c2, e2, _, _, _, _, _, hcs⟩ := OwnK.open h (by omega)
  obtain ⟨rfl, _, _⟩ : g = g2 ∧ n = l.length ∧ cap = c2 := by simpa using e2
  rw [Nat.zero_add]
  refine hcs j x ?_
  rw [← edL_take, List.getElem?_take] at hj
  split at hj
  · exact hj
  · cases hj
/-- the last ones, if room is left behind -/
theorem OwnE.drop {w : World} {base g n cap : Nat} {l : List Ed} (h : OwnE w base (.slice (some ⟨g, 0, none⟩) n cap) l) (hn : l.length = n) (hc : cap ≤ 9223372036854775807) (hnc : n ≤ cap) {i : Nat} (hi : i ≤ n) : EdR w (.slice (some ⟨g, i * 3, none⟩) (n - i) (cap - i)) (l.drop i) := by
  have hl : (l.drop i).length = n - i := by rw [List.length_drop]; omega
  refine ⟨_, cap - i, by rw [hl], by omega, by omega, fun e => (by cases e), fun h0 => ⟨g, i * 3, rfl, fun j x hj => ?_⟩⟩
  obtain ⟨g2, c2, e2, _, _, _, _, _, hcs⟩ := OwnK.open h (by omega)
  obtain ⟨rfl, _, _⟩ : g = g2 ∧ n = l.length ∧ cap = c2 := by simpa using e2
  refine hcs _ x ?_
  rw [← edL_drop, List.getElem?_drop] at hj
  exact hj
theorem EdR.none_left {w : World} {g : Nat} : EdR w (.slice (some ⟨g, 0, none⟩) 0 0) [] := ⟨_, 0, rfl, Nat.le_refl _, by omega, fun _ => rfl, fun h => by simp at h⟩
end Go.Proofs.Ytlooclpfoeakgaa
