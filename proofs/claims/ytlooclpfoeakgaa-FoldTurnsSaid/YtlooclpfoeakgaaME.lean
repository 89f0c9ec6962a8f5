/- The graph of a folder: what lies in memory while loose vertices are taken off. -/
import Derived.Test.YtlooclpfoeakgaaMD
import Derived.Laws.EntriesVeiled
import Derived.Test.YtlooclpfoeakgaaMB
import Derived.Laws.ResultCell
namespace Go.Proofs.Ytlooclpfoeakgaa
open Go.RowKit

/-- a folder's blocks are old ones -/
structure Low (B g : Nat) (uv hv tv : Value) : Prop where
  g : g < B
  u : ∀ b, uv.ownBlock = some b → b < B
  h : ∀ b, hv.ownBlock = some b → b < B
  t : ∀ b, tv.ownBlock = some b → b < B
theorem FM.low {w : World} {base g k : Nat} {x : FS} {up : Nat → Nat} {uv hv tv : Value} (h : FM w base g k x up uv hv tv) : Low w.heap.size g uv hv tv :=
  ⟨h.blk.lt, fun b hb => (World.ownsRow.lt h.ups b hb).2, fun b hb => (World.ownsRow.lt h.hass b hb).2, fun b hb => (World.ownsRow.lt h.todos b hb).2⟩
theorem FM.congrB {w w2 : World} {B base g k : Nat} {x : FS} {up : Nat → Nat} {uv hv tv : Value} (h : FM w base g k x up uv hv tv) (hl : Low B g uv hv tv) (hb : Below B w w2) : FM w2 base g k x up uv hv tv := by
  refine FZ.whole (h.parts.congr fun i hi => hb.block i ?_)
  rcases hi with rfl | e | e | e
  · exact hl.g
  · exact hl.u i e
  · exact hl.h i e
  · exact hl.t i e
theorem Frm.fr {w w2 : World} {B g : Nat} {uv hv tv : Value} (h : Frm w w2 g uv hv tv uv hv tv) (hl : Low B g uv hv tv) : Fr B w w2 :=
  ⟨h.os, h.tape, h.output, h.size, fun i h1 h2 => h.block i h2 (fun e => by have := hl.g; omega) (fun e => by have := hl.u i e.symm; omega) (fun e => by have := hl.h i e.symm; omega) (fun e => by have := hl.t i e.symm; omega)⟩
theorem Frm.put {w w1 w2 : World} {g : Nat} {u h t u1 h1 t1 : Value} (a : Frm w w1 g u h t u1 h1 t1) (hb : Below w.heap.size w1 w2) : Frm w w2 g u h t u1 h1 t1 :=
  ⟨hb.os.trans a.os, hb.tape.trans a.tape, hb.output.trans a.output, Nat.le_trans a.size hb.size, fun i hi e0 e1 e2 e3 => (hb.block i hi).trans (a.block i hi e0 e1 e2 e3), a.nu, a.nh, a.nt⟩

/-- degrees, the list of loose vertices, and what lies beside -/
structure Z1 (w : World) (B base g k c c5 rb md nd : Nat) (x : FS) (d : Nat → Nat) (uv hv tv : Value) (D : Nat → Int) (lv : Value) (Ls : List Nat) : Prop where
  low : Low B g uv hv tv
  mem : ∃ up, FM w base g k x up uv hv tv ∧ UF x.n up x.R d
  at_ : B ≤ c ∧ B ≤ c5 ∧ B ≤ rb ∧ B ≤ md ∧ B ≤ w.heap.size
  box : Blk w c 91 [.pointer (some ⟨g, 0, none⟩)]
  fn : Blk w c5 156 [funcN c]
  res : Blk w rb 25 [.int .i64 0, .slice none 0 0]
  deg : ∃ f, MapI w md nd f ∧ ∀ u, (f u).getD 0 = D u
  own : OwnK w B 3 1 lv Ls.length (Ls.map fun (u : Nat) => (u : Int))
section
variable {w w2 : World} {B base g k c c5 rb md nd : Nat} {x : FS} {d : Nat → Nat} {uv hv tv lv : Value} {D : Nat → Int} {Ls : List Nat}
theorem Z1.fb (h : Z1 w B base g k c c5 rb md nd x d uv hv tv D lv Ls) : FB w base g k c x d uv hv tv := ⟨h.mem, h.box⟩
theorem Z1.after (h : Z1 w B base g k c c5 rb md nd x d uv hv tv D lv Ls) (h1 : ∃ up, FM w2 base g k x up uv hv tv ∧ UF x.n up x.R d) (hf : Frm w w2 g uv hv tv uv hv tv) : Z1 w2 B base g k c c5 rb md nd x d uv hv tv D lv Ls := by
  have hr := hf.fr h.low
  obtain ⟨a1, a2, a3, a4, a5⟩ := h.at_
  obtain ⟨f, f1, f2⟩ := h.deg
  exact ⟨h.low, h1, ⟨a1, a2, a3, a4, Nat.le_trans a5 hf.size⟩, (hr.block c a1 h.box.lt).trans h.box, (hr.block c5 a2 h.fn.lt).trans h.fn, (hr.block rb a3 h.res.lt).trans h.res, ⟨f, f1.congr (hr.block md a4 f1.lt), f2⟩,
    row_congr h.own fun i hi => hr.block i (World.ownsRow.lt h.own i hi).1 (World.ownsRow.lt h.own i hi).2⟩
theorem Z1.alloc (h : Z1 w B base g k c c5 rb md nd x d uv hv tv D lv Ls) (o : Obj) : Z1 (w.alloc o) B base g k c c5 rb md nd x d uv hv tv D lv Ls := by
  have hb : Below w.heap.size w (w.alloc o) := (Below.refl _ _).alloc (Nat.le_refl _) o
  obtain ⟨a1, a2, a3, a4, a5⟩ := h.at_
  obtain ⟨f, f1, f2⟩ := h.deg
  obtain ⟨up, u1, u2⟩ := h.mem
  exact ⟨h.low, ⟨up, u1.keep hb, u2⟩, ⟨a1, a2, a3, a4, Nat.le_trans a5 hb.size⟩, h.box.keep hb, h.fn.keep hb, h.res.keep hb, ⟨f, f1.congr (hb.block md f1.lt), f2⟩, World.ownsRow.keep h.own hb⟩
/-- a degree is written -/
theorem Z1.upd (h : Z1 w B base g k c c5 rb md nd x d uv hv tv D lv Ls) {nd2 : Nat} {f2 : Nat → Option Int} {D2 : Nat → Int} (hm : MapI w2 md nd2 f2) (hd : ∀ u, (f2 u).getD 0 = D2 u) (hg : w.grownBy w2 (some md)) : Z1 w2 B base g k c c5 rb md nd2 x d uv hv tv D2 lv Ls := by
  obtain ⟨a1, a2, a3, a4, a5⟩ := h.at_
  obtain ⟨f, f1, _⟩ := h.deg
  obtain ⟨up, u1, u2⟩ := h.mem
  have hb : Below B w w2 := (Below.refl _ _).grown hg a5 (fun k e => by cases e; exact a4)
  exact ⟨h.low, ⟨up, u1.congrB h.low hb, u2⟩, ⟨a1, a2, a3, a4, Nat.le_trans a5 hb.size⟩, h.box.grown hg (fun e => map_nb f1 h.box (Option.some.inj e)), h.fn.grown hg (fun e => map_nb f1 h.fn (Option.some.inj e)), h.res.grown hg (fun e => map_nb f1 h.res (Option.some.inj e)), ⟨f2, hm, hd⟩,
    World.ownsRow.kept h.own hg (by
      cases hrv : lv.ownBlock with
      | none => exact .inl rfl
      | some b => exact .inr (fun e => map_ne h.own f1 hrv (Option.some.inj e)))⟩
/-- the list grows -/
theorem Z1.app (h : Z1 w B base g k c c5 rb md nd x d uv hv tv D lv Ls) {v : Nat} {g6 cap : Nat} (ho : OwnK w2 B 3 1 (.slice (some ⟨g6, 0, none⟩) (Ls.length + 1) cap) (Ls.length + 1) ((Ls.map fun (u : Nat) => (u : Int)) ++ [(v : Int)])) (hg : w.grownBy w2 lv.ownBlock) :
    Z1 w2 B base g k c c5 rb md nd x d uv hv tv D (.slice (some ⟨g6, 0, none⟩) (Ls.length + 1) cap) (Ls ++ [v]) := by
  obtain ⟨a1, a2, a3, a4, a5⟩ := h.at_
  obtain ⟨f, f1, f2⟩ := h.deg
  obtain ⟨up, u1, u2⟩ := h.mem
  have hl := World.ownsRow.lt h.own
  have hb : Below B w w2 := (Below.refl _ _).grown hg a5 (fun k e => (hl k e).1)
  refine ⟨h.low, ⟨up, u1.congrB h.low hb, u2⟩, ⟨a1, a2, a3, a4, Nat.le_trans a5 hb.size⟩, h.box.grown hg (row_blk h.own h.box (by decide)), h.fn.grown hg (row_blk h.own h.fn (by decide)), h.res.grown hg (row_blk h.own h.res (by decide)), ⟨f, f1.congr (hg.block md f1.lt fun e => map_ne h.own f1 e.symm rfl), f2⟩, ?_⟩
  rw [List.length_append, List.length_singleton, List.map_append]
  exact ho
/-- the last one of the list is taken -/
theorem Z1.pop {v b cap : Nat} (h : Z1 w B base g k c c5 rb md nd x d uv hv tv D (.slice (some ⟨b, 0, none⟩) (Ls.length + 1) cap) (Ls ++ [v])) : Z1 w B base g k c c5 rb md nd x d uv hv tv D (.slice (some ⟨b, 0, none⟩) Ls.length cap) Ls := by
  refine ⟨h.low, h.mem, h.at_, h.box, h.fn, h.res, h.deg, ?_⟩
  have h1 := h.own
  rw [List.length_append, List.length_singleton, List.map_append] at h1
  have h2 := OwnK.cut h1 (Nat.le_succ Ls.length)
  rw [Nat.mul_one, List.take_append_of_le_length (by simp), List.take_of_length_le (by simp)] at h2
  exact h2
end
/-- what is gone -/
structure Y1 (w : World) (B c10 mb nb md : Nat) (G : Nat → Bool) : Prop where
  at_ : B ≤ c10 ∧ B ≤ mb ∧ mb ≠ md
  mp : Blk w c10 129 [.map (some mb)]
  gone : MapB w mb nb G
section
variable {w w2 : World} {B c10 mb nb md : Nat} {G : Nat → Bool}
theorem Y1.fr (h : Y1 w B c10 mb nb md G) (hr : Fr B w w2) : Y1 w2 B c10 mb nb md G :=
  ⟨h.at_, (hr.block c10 h.at_.1 h.mp.lt).trans h.mp, h.gone.congr (hr.block mb h.at_.2.1 h.gone.lt)⟩
theorem Y1.alloc (h : Y1 w B c10 mb nb md G) (o : Obj) : Y1 (w.alloc o) B c10 mb nb md G := ⟨h.at_, h.mp.alloc o, h.gone.congr (Below.heap_alloc w o mb h.gone.lt)⟩
theorem Y1.upd (h : Y1 w B c10 mb nb md G) {n : Nat} {f : Nat → Option Int} (hm : MapI w md n f) (hg : w.grownBy w2 (some md)) : Y1 w2 B c10 mb nb md G :=
  ⟨h.at_, h.mp.grown hg (fun e => map_nb hm h.mp (Option.some.inj e)), h.gone.congr (hg.block mb h.gone.lt (fun e => h.at_.2.2 (Option.some.inj e)))⟩
theorem Y1.row (h : Y1 w B c10 mb nb md G) {base n : Nat} {v : Value} {xs : List Value} (hr : w.ownsRow base 3 1 v n xs) (hg : w.grownBy w2 v.ownBlock) : Y1 w2 B c10 mb nb md G :=
  ⟨h.at_, h.mp.grown hg (row_blk hr h.mp (by decide)), h.gone.congr (hg.block mb h.gone.lt (fun e => mapB_ne hr h.gone e.symm rfl))⟩
/-- one more is gone -/
theorem Y1.mark (h : Y1 w B c10 mb nb md G) {n2 : Nat} {G2 : Nat → Bool} (hm : MapB w2 mb n2 G2) (hg : w.grownBy w2 (some mb)) : Y1 w2 B c10 mb n2 md G2 :=
  ⟨h.at_, h.mp.grown hg (fun e => mapB_nb h.gone h.mp (Option.some.inj e)), hm⟩
end
theorem Z1.mark {w w2 : World} {B base g k c c5 rb md nd c10 mb nb : Nat} {x : FS} {d : Nat → Nat} {uv hv tv lv : Value} {D : Nat → Int} {Ls : List Nat} {G : Nat → Bool} (h : Z1 w B base g k c c5 rb md nd x d uv hv tv D lv Ls) (hy : Y1 w B c10 mb nb md G) (hg : w.grownBy w2 (some mb)) : Z1 w2 B base g k c c5 rb md nd x d uv hv tv D lv Ls := by
  obtain ⟨a1, a2, a3, a4, a5⟩ := h.at_
  obtain ⟨f, f1, f2⟩ := h.deg
  obtain ⟨up, u1, u2⟩ := h.mem
  have hb : Below B w w2 := (Below.refl _ _).grown hg a5 (fun k e => by cases e; exact hy.at_.2.1)
  exact ⟨h.low, ⟨up, u1.congrB h.low hb, u2⟩, ⟨a1, a2, a3, a4, Nat.le_trans a5 hb.size⟩, h.box.grown hg (fun e => mapB_nb hy.gone h.box (Option.some.inj e)), h.fn.grown hg (fun e => mapB_nb hy.gone h.fn (Option.some.inj e)), h.res.grown hg (fun e => mapB_nb hy.gone h.res (Option.some.inj e)),
    ⟨f, f1.congr (hg.block md f1.lt (fun e => hy.at_.2.2 (Option.some.inj e).symm)), f2⟩,
    World.ownsRow.kept h.own hg (by
      cases hrv : lv.ownBlock with
      | none => exact .inl rfl
      | some b => exact .inr (fun e => mapB_ne h.own hy.gone hrv (Option.some.inj e)))⟩
theorem Z1.below {w w2 : World} {B base g k c c5 rb md nd : Nat} {x : FS} {d : Nat → Nat} {uv hv tv lv : Value} {D : Nat → Int} {Ls : List Nat} (h : Z1 w B base g k c c5 rb md nd x d uv hv tv D lv Ls) {row : Option Nat} (hg : w.grownBy w2 row) (hr : ∀ b, row = some b → B ≤ b) : Below B w w2 :=
  (Below.refl _ _).grown hg h.at_.2.2.2.2 hr
/-- how many are not gone -/
def remN (G : Nat → Bool) (N : Nat) : Nat := cnt (fun u => !G u) N
theorem remN_le (G : Nat → Bool) (N : Nat) : remN G N ≤ N := by
  unfold remN
  induction N with
  | zero => exact Nat.le_refl _
  | succ n ih => rw [cnt]; split <;> omega
theorem cnt_at (v : Nat) : ∀ N, cnt (fun u => decide (u = v)) N = if v < N then 1 else 0
  | 0 => rfl
  | N + 1 => by
    rw [cnt, cnt_at v N]
    by_cases h : N = v
    · subst h; simp
    · have : decide (N = v) = false := by simpa using h
      rw [this]
      by_cases h2 : v < N
      · have h3 : v < N + 1 := by omega
        simp [h2, h3]
      · have h3 : ¬ v < N + 1 := by omega
        simp [h2, h3]
theorem remN_gone {G : Nat → Bool} {N v : Nat} (hv : v < N) (hg : G v = false) : remN (goneV G v) N + 1 = remN G N := by
  have h1 : remN G N = remN (goneV G v) N + cnt (fun u => decide (u = v)) N := by
    unfold remN
    refine cnt_add (fun i _ => ?_) (fun i _ h1 h2 => ?_)
    · unfold goneV
      by_cases e : i = v
      · subst e; simp [hg]
      · simp [e]
    · have h2 : i = v := by simpa using h2
      subst h2
      simp [goneV] at h1
  rw [h1, cnt_at, if_pos hv]
end Go.Proofs.Ytlooclpfoeakgaa

/- The graph of a folder: the walk. -/
namespace Go.Proofs.Ytlooclpfoeakgaa
open Go.RowKit

theorem cnt_le {f : Nat → Bool} : ∀ m, cnt f m ≤ m
  | 0 => Nat.le_refl _
  | m + 1 => by
    rw [cnt]
    have := cnt_le (f := f) m
    split <;> omega
theorem cnt_none {f : Nat → Bool} (h : ∀ i, f i = false) : ∀ m, cnt f m = 0
  | 0 => rfl
  | m + 1 => by rw [cnt, cnt_none h m, h m]; rfl
theorem cnt_all {f : Nat → Bool} (h : ∀ i, f i = true) : ∀ m, cnt f m = m
  | 0 => rfl
  | m + 1 => by rw [cnt, cnt_all h m, if_pos (h m)]
theorem degG_le (k : Nat) (nx : Nat → Nat → Option Nat) (G : Nat → Bool) (u : Nat) : degG k nx G u ≤ 2 * k := cnt_le _
theorem degG_none {k : Nat} {nx : Nat → Nat → Option Nat} {G : Nat → Bool} {u : Nat} (h : ∀ p, nx u p = none) : degG k nx G u = 0 := cnt_none (fun p => by rw [h p]) _

theorem ownsRow_mono {w : World} {base base2 : Nat} {e : TypeId} {s : Nat} {v : Value} {n : Nat} {xs : List Value} (h : w.ownsRow base e s v n xs) (hb : base2 ≤ base) : w.ownsRow base2 e s v n xs :=
  ⟨h.1, h.2.imp id fun ⟨g, cap, cur, a, b, c⟩ => ⟨g, cap, cur, a, Nat.le_trans hb b, c⟩⟩
theorem RowsAt.mono {w : World} {B B2 : Nat} {rv : Value} {g : List (List Int)} {q : Nat → Prop} (h : RowsAt w B rv g q) (hB : B2 ≤ B) : RowsAt w B2 rv g q := by
  obtain ⟨vs, h1, h2⟩ := h
  exact ⟨vs, ownsRow_mono h1 hB, fun i r hr => let ⟨u, a, b, c⟩ := h2 i r hr; ⟨u, a, ownsRow_mono b hB, c⟩⟩
theorem rows_one {w : World} {B : Nat} {rv : Value} {g : List (List Int)} {q : Nat → Prop} (h : RowsAt w B rv g q) (k : Nat) : ∀ x ∈ [Value.int .i64 k, rv], x.oneCell' = true := by
  intro x hx
  rcases List.mem_cons.1 hx with rfl | hx
  · rfl
  · rw [List.mem_singleton.1 hx]
    obtain ⟨us, r1, _⟩ := h
    rcases r1.2 with ⟨rfl, _⟩ | ⟨_, _, _, rfl, _⟩ <;> rfl
theorem ret62 {w : World} {tmps : Array Value} {g : Nat} {M : List Value} (hM : M.length = 2) (hp : tmps.getD 4 undef = .pointer (some ⟨g, 0, none⟩)) (hb : Blk w g 25 M) : (results Try.f62 tmps).run Try.prog w = .ok (.agg M.toArray) w :=
  results_cell_row rfl tmps w g 25 _ (0, 0) _ hp hb Try.underlying25 rfl (by rw [Try.size25]; simp [hM])

set_option maxRecDepth 100000 in
set_option maxHeartbeats 4000000 in
theorem graph_any (w : World) (base g k : Nat) (x : FS) (up d : Nat → Nat) (uv hv tv : Value) (s0 N : Nat) {S : List UInt8 → Prop} {φ : Nat → List UInt8} {E : List (Nat × Nat × Nat)} (hI : Inv k S φ E x) (h0 : x.todo = [])
    (h : FM w base g k x up uv hv tv) (hu : UF x.n up x.R d) (hk1 : 1 ≤ k) (hk4 : k ≤ 4) (hs0 : s0 < x.n) (hnN : x.n ≤ N) (hN : N ≤ 5000) :
    Calls Try.prog 62 #[.pointer (some ⟨g, 0, none⟩), .int .i64 s0] w fun e w' => ∃ (rv : Value) (G : Nat → Bool), e = .returned (.agg #[.int .i64 k, rv]) ∧ Peel k (nxF x) (x.R s0) G ∧ NoEnds k (nxG (nxF x) G) (x.R s0) ∧
      RowsAt w' w.heap.size rv (numN (nxG (nxF x) G) (List.range (2 * k)) N 0 [x.R s0] []) (fun _ => True) ∧ (∃ up', FM w' base g k x up' uv hv tv ∧ UF x.n up' x.R d) ∧ Frm w w' g uv hv tv uv hv tv := by
  obtain ⟨K, hK⟩ : ∃ K, K = 2 * k := ⟨_, rfl⟩
  have hK8 : K ≤ 8 := by omega
  have hwK : IntKind.i64.wrap (2 * (k : Int)) = K := by rw [IntKind.wrap_i64]; omega
  rw [← hK]
  obtain ⟨ub, ucap, rfl, -, -, -, -⟩ := Own.open h.ups (upL_len _ _) (by omega)
  have hlow := h.low
  have hbw : Below w.heap.size w ((w.alloc (.cells #[.pointer (some ⟨g, 0, none⟩)] 91)).alloc (.cells #[.int .i64 0, .slice none 0 0] 25)) := ((Below.refl _ w).alloc (Nat.le_refl _) _).alloc (by simp) _
  obtain ⟨w1, hw1⟩ : ∃ w1, w1 = ((w.alloc (.cells #[.pointer (some ⟨g, 0, none⟩)] 91)).alloc (.cells #[.int .i64 0, .slice none 0 0] 25)) := ⟨_, rfl⟩
  have hm1 : FM w1 base g k x up (.slice (some ⟨ub, 0, none⟩) x.n ucap) hv tv := by rw [hw1]; exact h.keep hbw
  have hc1 : Blk w1 w.heap.size 91 [.pointer (some ⟨g, 0, none⟩)] := by rw [hw1]; exact (Blk.new w 91 _).alloc _
  have hz1 : Blk w1 (w.heap.size + 1) 25 [.int .i64 0, .slice none 0 0] := by
    rw [hw1]
    have := Blk.new (w.alloc (.cells #[.pointer (some ⟨g, 0, none⟩)] 91)) 25 [.int .i64 0, .slice none 0 0]
    simpa using this
  have hbw1 : Below w.heap.size w w1 := by rw [hw1]; exact hbw
  have cc1 := hc1.cell (j := 0) rfl
  have hrt := rootOf_any w1 base g k x up x.R d (.slice (some ⟨ub, 0, none⟩) x.n ucap) hv tv s0 hm1 hu hs0 (by omega)
  have HRT := Lib.hid hrt
  have hmm := @run_makeMap Try.prog
  have hlt := hI.lt
  have hsn : x.R s0 < x.n := hlt s0 hs0
  have hid := hI.idem s0
  have HBD := Lib.hid (fun v p t h => (hI.bound v p t h).1)
  have HI := Lib.hid hI
  have HT0 := Lib.hid h0
  have HLOW := Lib.hid hlow
  have HLT := Lib.hid hlt
  obtain ⟨s, hs⟩ : ∃ s, x.R s0 = s := ⟨_, rfl⟩
  rw [hs] at HRT hsn hid ⊢
  have HID := Lib.hid hid
  have HKK := Lib.hid hK
  rw [hw1] at cc1
  clear hrt hlow h hu h0 hI hlt hs hid hs0 hK hbw
  go_enter Try.func62, Try.ntmps62
  go_upto_region 2 with (go_at_call 105; rw [← hw1]; refine HRT.out.mono ?_; rintro e w2 ⟨rfl, up2, hM2, hU2, hF2⟩)
  have hc2 := hF2.blkOf hm1.parts hc1 (by decide) (by decide) (by decide) (by decide)
  have hz2 := hF2.blkOf hm1.parts hz1 (by decide) (by decide) (by decide) (by decide)
  have hs2 := hF2.size
  have hs1 : w1.heap.size = w.heap.size + 1 + 1 := by rw [hw1]; simp
  have hfw := (Frm.of_below hbw1 g (.slice (some ⟨ub, 0, none⟩) x.n ucap) hv tv).trans hF2
  obtain ⟨w3, hw3⟩ : ∃ w3, w3 = (w2.alloc (.cells #[funcN w.heap.size] 156)).alloc (.map #[] 0) := ⟨_, rfl⟩
  have hb3 : Below w2.heap.size w2 w3 := by rw [hw3]; exact ((Below.refl _ w2).alloc (Nat.le_refl _) _).alloc (by simp) _
  have hf3 : Blk w3 w2.heap.size 156 [funcN w.heap.size] := by rw [hw3]; exact (Blk.new w2 156 [funcN w.heap.size]).alloc _
  have hd3 : MapI w3 (w2.heap.size + 1) 0 (fun _ => none) := by
    rw [hw3]
    have := MapI.new (w2.alloc (.cells #[funcN w.heap.size] 156))
    simpa using this
  have hfw3 := hfw.trans (Frm.of_below hb3 g (.slice (some ⟨ub, 0, none⟩) x.n ucap) hv tv)
  have hZ3 : Z1 w3 w.heap.size base g k w.heap.size w2.heap.size (w.heap.size + 1) (w2.heap.size + 1) 0 x d (.slice (some ⟨ub, 0, none⟩) x.n ucap) hv tv (fun _ => 0) (.slice none 0 0) [] :=
    ⟨HLOW.out, ⟨up2, hM2.keep hb3, hU2⟩, ⟨Nat.le_refl _, by omega, by omega, by omega, by have := hb3.size; omega⟩, hc2.keep hb3, hf3, hz2.keep hb3, ⟨_, hd3, fun _ => rfl⟩, ⟨rfl, .inl ⟨rfl, rfl⟩⟩⟩
  have cc3 := hZ3.box.cell (j := 0) rfl
  obtain ⟨up3, hM3, hU3⟩ := hZ3.mem
  have g0 := hM3.blk.cell (j := 0) rfl
  have HZ := Lib.hid hZ3
  have HF := Lib.hid hfw3
  have h5 : w.heap.size ≤ w2.heap.size := by omega
  rw [hw3] at cc3 g0
  clear hZ3 hfw3 hf3 hd3 hb3 hM3 hU3 hc2 hz2 hfw hM2 hU2 hF2 hm1 hc1 hz1 hbw1 hs1 hs2 HRT cc1
  unfold funcN at hw3 cc3 g0
  go_wp2_with fail
  change Code.wp _ _ _ _ ((w2.alloc (.cells #[.func (.func 106) #[] #[.pointer (some ⟨w.heap.size, 0, none⟩)]] 156)).alloc (.map #[] 0))
  rw [← hw3]
  generalize w2.heap.size = c5 at *
  clear hw3 w2 hw1 w1 cc3 g0 up3 up2 hmm up
  go_loopw [27, 7] (fun iv lv wr => ∃ (i nd : Nat) (D : Nat → Int) (Ls : List Nat) (lw : Value), i ≤ x.n ∧ iv = .int .i64 i ∧ lw = lv ∧ Hid (Z1 wr w.heap.size base g k w.heap.size c5 (w.heap.size + 1) (c5 + 1) nd x d (.slice (some ⟨ub, 0, none⟩) x.n ucap) hv tv D lv Ls) ∧ Hid (∀ u, D u = if u < i then ((degG k (nxF x) (fun _ => false) u : Nat) : Int) else 0) ∧
    Hid (∀ u, u ∈ Ls → u < i ∧ u ≠ s ∧ D u = 1) ∧ Hid (∀ u, u < i → u ≠ s → D u = 1 → u ∈ Ls) ∧ Hid (nd ≤ 8 * i ∧ Ls.length ≤ i) ∧ Hid (Frm w wr g (.slice (some ⟨ub, 0, none⟩) x.n ucap) hv tv (.slice (some ⟨ub, 0, none⟩) x.n ucap) hv tv)) (fun iv _ _ => x.n - (intOf iv).toNat)
  case atStart => exact ⟨0, 0, fun _ => 0, [], _, by omega, rfl, rfl, HZ, Lib.hid (fun u => by simp), Lib.hid (fun u h => by cases h), Lib.hid (fun u h => by omega), Lib.hid ⟨by omega, by simp⟩, HF⟩
  case round =>
    clear HZ HF
    obtain ⟨i, nd, D, Ls, lv, hi, rfl, rfl, HZ, HD, HL1, HL2, HC, HF⟩ := hrel
    by_cases hlt : i < x.n
    · obtain ⟨up1, hM1, hU1⟩ := HZ.out.mem
      have cc := HZ.out.box.cell (j := 0) rfl
      have HRT := Lib.hid (rootOf_any wr base g k x up1 x.R d _ hv tv i hM1 hU1 hlt (by omega))
      clear hM1 hU1
      by_cases hRi : x.R i = i
      · rw [hRi] at HRT
        have HRI := Lib.hid hRi
        clear hRi
        go_upto_region 9 with (go_at_call 105; refine HRT.out.mono ?_; rintro e w2 ⟨rfl, up2, hM2, hU2, hF2⟩)
        have hZ2 := HZ.out.after ⟨up2, hM2, hU2⟩ hF2
        have cc2 := hZ2.box.cell (j := 0) rfl
        have c2 := hM2.blk.cell (j := 2) rfl
        have HZ2 := Lib.hid hZ2
        have HF2 := Lib.hid (HF.out.trans hF2)
        clear hZ2 hM2 hU2 hF2 HZ HF HRT cc
        go_wp2_with fail
        go_loopw [42] (fun pv wr => ∃ (p nd2 : Nat) (D2 : Nat → Int), p ≤ K ∧ pv = .int .i64 p ∧ Hid (Z1 wr w.heap.size base g k w.heap.size c5 (w.heap.size + 1) (c5 + 1) nd2 x d (.slice (some ⟨ub, 0, none⟩) x.n ucap) hv tv D2 lv Ls) ∧ Hid (∀ u, D2 u = if u = i then ((cnt (fun p => (nxF x i p).isSome) p : Nat) : Int) else D u) ∧ Hid (nd2 ≤ nd + p) ∧ Hid (Frm w wr g (.slice (some ⟨ub, 0, none⟩) x.n ucap) hv tv (.slice (some ⟨ub, 0, none⟩) x.n ucap) hv tv)) (fun pv _ => K - (intOf pv).toNat)
        case atStart =>
          refine ⟨0, nd, D, by omega, rfl, HZ2, Lib.hid (fun u => ?_), Lib.hid (Nat.le_refl _), HF2⟩
          by_cases e : u = i
          · subst e
            rw [if_pos rfl, HD.out u, if_neg (by omega)]; rfl
          · rw [if_neg e]
        case round =>
          clear HZ2 HF2 cc2 c2
          obtain ⟨p, nd2, D2, hp, rfl, HZ, HD2, HN2, HF⟩ := hrel
          by_cases hlp : p < K
          · have cf := HZ.out.fn.cell (j := 0) rfl
            unfold funcN at cf
            have hnx := next_any wr base g k w.heap.size x d (.slice (some ⟨ub, 0, none⟩) x.n ucap) hv tv i p HZ.out.fb HBD.out (by omega) hlt (by omega)
            rw [nxR_root HRI.out] at hnx
            have hcs : cnt (fun p => (nxF x i p).isSome) (p + 1) = cnt (fun p => (nxF x i p).isSome) p + (if (nxF x i p).isSome = true then 1 else 0) := rfl
            cases hx : nxF x i p with
            | none =>
              rw [hx] at hnx hcs
              have HNX := Lib.hid hnx
              have HCS := Lib.hid hcs
              clear hnx hcs hx
              go_wp2_with (go_at_call 106; refine HNX.out.mono ?_; rintro e w2 ⟨rfl, hB2, hF2⟩; simp only [optI])
              have G1 := Lib.hid (HZ.out.after hB2.mem hF2)
              have G2 := Lib.hid (HF.out.trans hF2)
              clear hB2 hF2 HNX
              go_roundw
              case rel => exact ⟨p + 1, nd2, D2, by omega, by go_num, G1, Lib.hid (fun u => by rw [HD2.out u, HCS.out]; rfl), Lib.hid (by have := HN2.out; omega), G2⟩
              case measure => simp [intOf]; omega
            | some t =>
              rw [hx] at hnx hcs
              simp only [optI_some] at hnx
              have hcs : cnt (fun p => (nxF x i p).isSome) (p + 1) = cnt (fun p => (nxF x i p).isSome) p + 1 := hcs
              have hDi := HD2.out i
              rw [if_pos rfl] at hDi
              have hcl := cnt_le (f := fun p => (nxF x i p).isSome) p
              obtain ⟨m, hm⟩ : ∃ m, cnt (fun p => (nxF x i p).isSome) p = m := ⟨_, rfl⟩
              rw [hm] at hcl hcs hDi
              have HNX := Lib.hid hnx
              have HCS := Lib.hid hcs
              have HM := Lib.hid hm
              have HDI := Lib.hid hDi
              clear hnx hcs hx hm hDi
              go_upto_region 13 with (go_at_call 106; refine HNX.out.mono ?_; rintro e w2 ⟨rfl, hB2, hF2⟩)
              have hZ2 := HZ.out.after hB2.mem hF2
              have hF3 := HF.out.trans hF2
              obtain ⟨f, f1, f2⟩ := id hZ2.deg
              have hlk := f1.look (k := i) (by omega)
              rw [f2 i, HDI.out] at hlk
              obtain ⟨w3, hupd, hm3, hg3⟩ := f1.update (n := nd2) (by have := HN2.out; have := HC.out; omega) (k := i) (by omega) (v := (m : Int) + 1) (WalkArith.wf_i64 (by omega))
              have hZ4 := hZ2.upd (D2 := fun u => if u = i then (m : Int) + 1 else D2 u) hm3 (fun u => by
                show (if u = i then some ((m : Int) + 1) else f u).getD 0 = if u = i then (m : Int) + 1 else D2 u
                by_cases e : u = i
                · rw [if_pos e, if_pos e]; rfl
                · rw [if_neg e, if_neg e]; exact f2 u) hg3
              have hF4 := hF3.put (hZ2.below hg3 (fun b e => by cases e; exact hZ2.at_.2.2.2.1))
              have G1 := Lib.hid hZ4
              have G2 := Lib.hid hF4
              clear hZ2 hF3 hZ4 hF4 f1 f2 hm3 hg3 hB2 hF2 HNX
              go_wp2_with fail
              go_roundw
              case rel =>
                refine ⟨p + 1, nd2 + 1, _, by omega, by go_num, G1, Lib.hid (fun u => ?_), Lib.hid (by have := HN2.out; omega), G2⟩
                by_cases e : u = i
                · simp only [if_pos e]; rw [HCS.out]; rfl
                · simp only [if_neg e]; rw [HD2.out u, if_neg e]
              case measure => simp [intOf]; omega
          · have hpK : p = K := by omega
            subst hpK
            have hdg : cnt (fun p => (nxF x i p).isSome) p = degG k (nxF x) (fun _ => false) i := by
              unfold degG
              rw [← HKK.out]
              refine cnt_congr fun q _ => ?_
              cases nxF x i q <;> rfl
            have hdl := degG_le k (nxF x) (fun _ => false) i
            obtain ⟨dg, hdge⟩ : ∃ dg, degG k (nxF x) (fun _ => false) i = dg := ⟨_, rfl⟩
            have hDi := HD2.out i
            rw [if_pos rfl, hdg, hdge] at hDi
            rw [hdge] at hdl
            obtain ⟨f, f1, f2⟩ := id HZ.out.deg
            have hlk := f1.look (k := i) (by omega)
            rw [f2 i, hDi] at hlk
            have hDn : ∀ u, D2 u = if u < i + 1 then ((degG k (nxF x) (fun _ => false) u : Nat) : Int) else 0 := fun u => by
              rw [HD2.out u, hdg]
              by_cases e : u = i
              · subst e
                rw [if_pos rfl, if_pos (by omega)]
              · rw [if_neg e, HD.out u]
                by_cases e2 : u < i
                · rw [if_pos e2, if_pos (by omega)]
                · rw [if_neg e2, if_neg (by omega)]
            have hold : ∀ u, u ≠ i → D2 u = D u := fun u e => by rw [HD2.out u, if_neg e]
            have HDN := Lib.hid hDn
            have HOLD := Lib.hid hold
            have HDI := Lib.hid hDi
            have hnd : nd2 ≤ 8 * (i + 1) := by have := HN2.out; have := HC.out; omega
            have HND := Lib.hid hnd
            clear f1 f2 hdg hDn hold hDi hnd hdge HN2 HD2
            by_cases h1 : dg = 1
            · subst h1
              by_cases his : i = s
              · subst his
                have hL1 : Hid (∀ u, u ∈ Ls → u < i + 1 ∧ u ≠ i ∧ D2 u = 1) := Lib.hid (fun u hu => by
                  obtain ⟨a1, a2, a3⟩ := HL1.out u hu
                  exact ⟨by omega, a2, by rw [HOLD.out u (by omega)]; exact a3⟩)
                have hL2 : Hid (∀ u, u < i + 1 → u ≠ i → D2 u = 1 → u ∈ Ls) := Lib.hid (fun u h1 h2 h3 => HL2.out u (by omega) h2 (by rw [← HOLD.out u h2]; exact h3))
                go_wp2_with fail
                go_roundw
                case rel => exact ⟨i + 1, nd2, D2, Ls, _, by omega, by go_num, rfl, HZ, HDN, hL1, hL2, Lib.hid ⟨HND.out, by have := HC.out; omega⟩, HF⟩
                case measure => simp [intOf]; omega
              · have hisI : ¬ ((i : Int) = s) := by omega
                have HIS := Lib.hid his
                have hbase : w.heap.size ≤ (wr.alloc (.cells (I64s [(i : Int)]).toArray 3)).heap.size := by have := HZ.out.at_; simp; omega
                have HBS := Lib.hid hbase
                have HZA := Lib.hid (HZ.out.alloc (.cells (I64s [(i : Int)]).toArray 3))
                have hll : Ls.length < 1000000000 := by have := HC.out; omega
                clear his hbase
                go_wp2_with (at_builtin; refine wpList_appK Try.info3 rfl (by decide) (by decide) Try.underlying54 HZA.out.own (by omega) rfl (.tmp 64) (.tmp 66) rfl (by simp [Act.eval]) (by simp [Act.eval]) (Blk.new wr 3 (I64s [(i : Int)])) rfl HBS.out _ rfl ?_; intro g6 cap6 w6 hown6 hgrow6 hat6 hlt6)
                have hZ6 := HZA.out.app hown6 hgrow6
                have hlo := World.ownsRow.lt HZA.out.own
                have hF6 := (HF.out.put ((Below.refl w.heap.size wr).alloc HZ.out.at_.2.2.2.2 (.cells (I64s [(i : Int)]).toArray 3))).put (HZA.out.below hgrow6 (fun b e => (hlo b e).1))
                have G1 := Lib.hid hZ6
                have G2 := Lib.hid hF6
                clear hZ6 hF6 hlo hown6 hgrow6 hat6 hlt6 HZA HBS
                go_roundw
                case rel =>
                  refine ⟨i + 1, nd2, D2, Ls ++ [i], _, by omega, by go_num, rfl, G1, HDN, Lib.hid (fun u hu => ?_), Lib.hid (fun u h1 h2 h3 => ?_), Lib.hid ⟨HND.out, by rw [List.length_append, List.length_singleton]; have := HC.out; omega⟩, G2⟩
                  · rcases List.mem_append.1 hu with q | q
                    · obtain ⟨a1, a2, a3⟩ := HL1.out u q
                      exact ⟨by omega, a2, by rw [HOLD.out u (by omega)]; exact a3⟩
                    · rw [List.mem_singleton.1 q]
                      exact ⟨by omega, HIS.out, HDI.out⟩
                  · by_cases e : u = i
                    · simp [e]
                    · exact List.mem_append_left _ (HL2.out u (by omega) h2 (by rw [← HOLD.out u e]; exact h3))
                case measure => simp [intOf]; omega
            · have h1I : ¬ ((dg : Int) = 1) := by omega
              have hL1 : Hid (∀ u, u ∈ Ls → u < i + 1 ∧ u ≠ s ∧ D2 u = 1) := Lib.hid (fun u hu => by
                obtain ⟨a1, a2, a3⟩ := HL1.out u hu
                exact ⟨by omega, a2, by rw [HOLD.out u (by omega)]; exact a3⟩)
              have hL2 : Hid (∀ u, u < i + 1 → u ≠ s → D2 u = 1 → u ∈ Ls) := Lib.hid (fun u h3 h4 h5 => by
                by_cases e : u = i
                · rw [e, HDI.out] at h5; exact absurd h5 h1I
                · exact HL2.out u (by omega) h4 (by rw [← HOLD.out u e]; exact h5))
              go_wp2_with fail
              go_roundw
              case rel => exact ⟨i + 1, nd2, D2, Ls, _, by omega, by go_num, rfl, HZ, HDN, hL1, hL2, Lib.hid ⟨HND.out, by have := HC.out; omega⟩, HF⟩
              case measure => simp [intOf]; omega
      · obtain ⟨r, hr⟩ : ∃ r, x.R i = r := ⟨_, rfl⟩
        rw [hr] at HRT hRi
        have hrI : ¬ ((r : Int) = i) := by omega
        have hdg : degG k (nxF x) (fun _ => false) i = 0 := by
          refine degG_none fun p => ?_
          unfold nxF
          rw [if_neg (by rw [hr]; exact hRi)]
        have hDi := HD.out i
        rw [if_neg (by omega)] at hDi
        have HDG := Lib.hid hdg
        have HDI := Lib.hid hDi
        clear hdg hDi hr hRi
        go_wp2_with (go_at_call 105; refine HRT.out.mono ?_; rintro e w2 ⟨rfl, up2, hM2, hU2, hF2⟩)
        have G1 := Lib.hid (HZ.out.after ⟨up2, hM2, hU2⟩ hF2)
        have G2 := Lib.hid (HF.out.trans hF2)
        clear hM2 hU2 hF2
        go_roundw
        case rel =>
          refine ⟨i + 1, nd, D, Ls, _, by omega, by go_num, rfl, G1, Lib.hid (fun u => ?_), Lib.hid (fun u hu => ?_), Lib.hid (fun u h1 h2 h3 => ?_), Lib.hid (by have := HC.out; omega), G2⟩
          · by_cases e : u = i
            · subst e
              rw [HDI.out, if_pos (by omega), HDG.out]; rfl
            · rw [HD.out u]
              by_cases e2 : u < i
              · rw [if_pos e2, if_pos (by omega)]
              · rw [if_neg e2, if_neg (by omega)]
          · obtain ⟨a1, a2, a3⟩ := HL1.out u hu
            exact ⟨by omega, a2, a3⟩
          · by_cases e : u = i
            · rw [e, HDI.out] at h3; cases h3
            · exact HL2.out u (by omega) h2 h3
        case measure => simp [intOf]; omega
    · have hiE : i = x.n := by omega
      subst hiE
      have hli0 : LI k x.n s (nxF x) (fun _ => false) D Ls := by
        refine ⟨.zero, fun u _ => ?_, fun u hu => ?_, fun u h1 h2 _ h4 => HL2.out u h1 h2 h4⟩
        · by_cases e : u < x.n
          · rw [HD.out u, if_pos e]
          · rw [HD.out u, if_neg e, degG_none (fun p => ?_)]
            · rfl
            · unfold nxF
              rw [(HI.out.out u (by omega)).2 p]
              split <;> rfl
        · obtain ⟨a1, a2, a3⟩ := HL1.out u hu
          refine ⟨a1, a2, ?_, fun _ => by rw [a3]; exact Int.le_refl _⟩
          refine propext ⟨fun hh => ?_, fun hh => hh.elim⟩
          have e1 := HD.out u
          rw [if_pos a1, a3] at e1
          have e2 : 1 ≤ degG k (nxF x) (fun _ => false) u := by omega
          obtain ⟨q, q1, q2⟩ := cnt_some e2
          rw [hh q q1] at q2
          cases q2
      have hrem0 : remN (fun _ => false) x.n = x.n := cnt_all (fun _ => rfl) _
      obtain ⟨w9, hw9⟩ : ∃ w9, w9 = (wr.alloc (.map #[] 0)).alloc (.cells #[.map (some wr.heap.size)] 129) := ⟨_, rfl⟩
      have hat := HZ.out.at_
      obtain ⟨f, f1, f9⟩ := id HZ.out.deg
      have hZ9 := (HZ.out.alloc (.map #[] 0)).alloc (.cells #[.map (some wr.heap.size)] 129)
      have hY9 : Y1 w9 w.heap.size (wr.heap.size + 1) wr.heap.size 0 (c5 + 1) (fun _ => false) := by
        refine ⟨⟨by omega, hat.2.2.2.2, by have := f1.lt; omega⟩, ?_, ?_⟩
        · rw [hw9]
          have := Blk.new (wr.alloc (.map #[] 0)) 129 [.map (some wr.heap.size)]
          simpa using this
        · rw [hw9]
          exact (MapB.new wr).congr (Below.heap_alloc _ _ _ (by simp))
      have hF9 : Frm w w9 g (.slice (some ⟨ub, 0, none⟩) x.n ucap) hv tv (.slice (some ⟨ub, 0, none⟩) x.n ucap) hv tv := HF.out.put (by rw [hw9]; exact ((Below.refl w.heap.size wr).alloc hat.2.2.2.2 _).alloc (by simp; omega) _)
      rw [← hw9] at hZ9
      have HLI := Lib.hid hli0
      have HR0 := Lib.hid hrem0
      have HZ9 := Lib.hid hZ9
      have HY9 := Lib.hid hY9
      have HF9 := Lib.hid hF9
      have hmm := @run_makeMap Try.prog
      have HND := Lib.hid HC.out
      clear hli0 hrem0 hZ9 hY9 hF9 hat f9 f1 f HZ HF HL1 HL2 HD HC
      go_wp2_with fail
      change Code.wp _ _ _ _ ((wr.alloc (.map #[] 0)).alloc (.cells #[.map (some wr.heap.size)] 129))
      rw [← hw9]
      generalize wr.heap.size = mb at *
      clear hw9 hmm
      go_loopg [7] (9 * x.n + Ls.length) (fun gk lv wr => ∃ (nd nb : Nat) (D : Nat → Int) (G : Nat → Bool) (Ls : List Nat) (lw : Value), lw = lv ∧ Hid (Z1 wr w.heap.size base g k w.heap.size c5 (w.heap.size + 1) (c5 + 1) nd x d (.slice (some ⟨ub, 0, none⟩) x.n ucap) hv tv D lw Ls) ∧ Hid (Y1 wr w.heap.size (mb + 1) mb nb (c5 + 1) G) ∧ Hid (LI k x.n s (nxF x) G D Ls) ∧
        Hid (nd + 8 * remN G x.n ≤ 16 * x.n ∧ nb + remN G x.n ≤ x.n) ∧ Hid (9 * remN G x.n + Ls.length ≤ gk ∧ 9 * remN G x.n + Ls.length ≤ 10 * x.n) ∧ Hid (Frm w wr g (.slice (some ⟨ub, 0, none⟩) x.n ucap) hv tv (.slice (some ⟨ub, 0, none⟩) x.n ucap) hv tv))
      case atStart => exact ⟨nd, 0, D, fun _ => false, Ls, _, rfl, HZ9, HY9, HLI, Lib.hid (by rw [HR0.out]; have := HND.out; omega), Lib.hid (by rw [HR0.out]; exact ⟨Nat.le_refl _, by have := HND.out.2; omega⟩), HF9⟩
      case round =>
        clear HZ9 HY9 HLI HF9 HND HR0 hlt hi Ls D nd
        obtain ⟨nd, nb, D, G, Ls0, lw, rfl, HZ, HY, HLI, HC, HG, HF⟩ := hrel
        rcases List.eq_nil_or_concat Ls0 with rfl | ⟨rest, v, rfl⟩
        · obtain ⟨ta, tc, rfl, -, -, -⟩ := row_shape HZ.out.own
          simp only [List.length_nil] at *
          obtain ⟨upw, hMw, hUw⟩ := id HZ.out.mem
          have hlow2 := hMw.low
          have cc := HZ.out.box.cell (j := 0) rfl
          have c2 := hMw.blk.cell (j := 2) rfl
          have hat := HZ.out.at_
          have hne := HLI.out.ends (fun v p u h => by
            obtain ⟨_, t, ht, _⟩ := nxF_some h
            by_cases e : v < x.n
            · exact e
            · rw [(HI.out.out v (by omega)).2 p] at ht; cases ht)
          have hnum := numbered_any wr k s N 108 #[.pointer (some ⟨c5, 0, none⟩), .pointer (some ⟨mb + 1, 0, none⟩)] (nxG (nxF x) G) (fun v => v < x.n ∧ x.R v = v ∧ G v = false)
            (fun w1 => GB w1 base g k w.heap.size c5 (mb + 1) mb nb x d (.slice (some ⟨ub, 0, none⟩) x.n ucap) hv tv G ∧ Blk w1 (w.heap.size + 1) 25 [.int .i64 0, .slice none 0 0] ∧ Frm w w1 g (.slice (some ⟨ub, 0, none⟩) x.n ucap) hv tv (.slice (some ⟨ub, 0, none⟩) x.n ucap) hv tv)
            (fun _ _ => rfl) hk1 hk4 ⟨hsn, HID.out, HLI.out.peel.root⟩ (fun v hv => by have := hv.1; omega) (by omega)
            (fun v p u hv h => by
              obtain ⟨b1, _, b3⟩ := nxG_some.1 h
              obtain ⟨_, t, ht, rfl⟩ := nxF_some b1
              exact ⟨HLT.out t (HBD.out _ _ _ ht), HI.out.idem t, b3⟩)
            ⟨⟨HZ.out.fb, HZ.out.fn, HY.out.mp, HY.out.gone⟩, HZ.out.res, HF.out⟩
            (fun w1 w2 h hb => by
              obtain ⟨h1, h2, h3⟩ := h
              obtain ⟨up1, m1, u1⟩ := h1.fb.mem
              exact ⟨⟨⟨⟨up1, m1.congrB hlow2 hb, u1⟩, h1.fb.box.below hb HZ.out.box.lt⟩, h1.fn.below hb HZ.out.fn.lt, h1.mp.below hb HY.out.mp.lt, h1.gone.congr (hb.block mb HY.out.gone.lt)⟩, h2.below hb HZ.out.res.lt, h3.put (hb.mono hat.2.2.2.2)⟩)
            (fun w1 h _ v p hq hp => by
              obtain ⟨h1, h2, h3⟩ := h
              refine (gone_any w1 base g k w.heap.size c5 (mb + 1) mb nb x d (.slice (some ⟨ub, 0, none⟩) x.n ucap) hv tv G v p h1 HBD.out HLT.out (by omega) hq.1 (by omega)).mono ?_
              rintro e w2 ⟨rfl, hG2, hF2⟩
              obtain ⟨up1, m1, u1⟩ := h1.fb.mem
              refine ⟨?_, ⟨hG2, hF2.blkOf m1.parts h2 (by decide) (by decide) (by decide) (by decide), h3.trans hF2⟩, hF2.fr hlow2⟩
              have e9 : nxH x G v p = nxG (nxF x) G v p := by
                unfold nxH nxG
                rw [nxR_root hq.2.1, if_neg (by rw [hq.2.2]; decide)]
              rw [e9])
          rw [← HKK.out] at hnum
          have HNUM := Lib.hid hnum
          have HPE := Lib.hid HLI.out.peel
          have HNE := Lib.hid hne
          clear hnum hne hMw hUw hlow2 HZ HY HF HLI HC HG upw
          go_wp2_with (first
            | (go_at_call 107; refine HNUM.out.mono ?_; rintro e w6 ⟨rv, rfl, hrows, hJ6, hfr6⟩; have HRES := Lib.hid hJ6.2.1; have HRV := Lib.hid (rows_one hrows k); have HJ6 := Lib.hid hJ6; have HROWS := Lib.hid hrows; clear hJ6 hfr6 hrows)
            | (with_reducible show wpList _ _ _ (Oper.mk _ (Op.store 25 _ _) _ _ _ _ :: _) _ _; (refine wpList_storeB (vs := [.int .i64 k, rv]) HRES.out Try.size25 rfl rfl HRV.out rfl _ _ rfl rfl rfl ?_)))
          have hres := HRES.out
          have hr1 := hres.set 0 (.int .i64 k)
          have hrow := ((HROWS.out.mono hat.2.2.2.2).other hres (by decide) (by decide) 0 (.int .i64 k)).other hr1 (by decide) (by decide) 1 rv
          have hbl : Below w.heap.size w6 ((w6.setCell ⟨w.heap.size + 1, 0, none⟩ (.int .i64 k)).setCell ⟨w.heap.size + 1, 1, none⟩ rv) := ((Below.refl w.heap.size w6).setCell (p := ⟨w.heap.size + 1, 0, none⟩) (Nat.le_succ w.heap.size) _).setCell (p := ⟨w.heap.size + 1, 1, none⟩) (Nat.le_succ w.heap.size) _
          obtain ⟨hG6, -, hF6⟩ := HJ6.out
          obtain ⟨up6, m6, u6⟩ := hG6.fb.mem
          exact bodyPost_ret (ret62 (M := [.int .i64 k, rv]) rfl rfl (hr1.set 1 rv)) rfl ⟨rv, G, rfl, HPE.out, HNE.out, hrow, ⟨up6, m6.congrB HLOW.out hbl, u6⟩, hF6.put hbl⟩
        · rw [List.concat_eq_append] at *
          obtain ⟨m, hm⟩ : ∃ m, rest.length = m := ⟨_, rfl⟩
          have hG1 := HG.out
          rw [List.length_append, List.length_singleton, hm] at hG1
          have hown := HZ.out.own
          rw [List.length_append, List.length_singleton, hm] at hown
          obtain ⟨lb, lc, rfl, -, -, l1, l2, -, hcs⟩ := hown.open (by omega)
          have cv := hcs m (v : Int) (by rw [List.map_append, List.getElem?_append_right (by simp [hm])]; simp [hm])
          have cg := HY.out.mp.cell (j := 0) rfl
          obtain ⟨a1, a2, a3, a4⟩ := HLI.out.inn v (by simp)
          have hlk := HY.out.gone.look (k := v) (by omega)
          have hw : IntKind.i64.wrap (m : Int) = m := by rw [IntKind.wrap_i64]; omega
          have i0 : (0 : Int) ≤ m := by omega
          have i1 : (m : Int) < (m : Int) + 1 := by omega
          have i2 : (m : Int) ≤ lc := by omega
          have hZp := HZ.out
          rw [← hm] at hZp
          have hZq := hZp.pop
          rw [hm] at hZq
          have HZQ := Lib.hid hZq
          have HMM := Lib.hid hm
          have HA3 := Lib.hid a3
          have HG1 := Lib.hid hG1
          clear hown hcs hZp hZq HZ hm a4 a3 hG1 HG
          cases hg : G v with
          | true =>
            rw [hg] at hlk
            have G1 := Lib.hid (HLI.out.skip hg)
            clear hg HLI
            go_wp2_with fail
            go_roundg (9 * remN G x.n + rest.length)
            case measure => have := HMM.out; have := HG1.out; omega
            case rel => exact ⟨nd, nb, D, G, rest, _, rfl, HZQ, HY, G1, HC, Lib.hid ⟨Nat.le_refl _, by have := HMM.out; have := HG1.out; omega⟩, HF⟩
          | false =>
            rw [hg] at hlk
            have hrem := remN_gone a1 hg
            have hLJ := HLI.out.pop hg
            have hcr := HC.out
            obtain ⟨w2, hupd, hm2, hg2⟩ := HY.out.gone.update (n := nb) (by omega) (k := v) (by omega) true
            have hZ2 := HZQ.out.mark HY.out hg2
            have hY2 : Y1 w2 w.heap.size (mb + 1) mb (nb + 1) (c5 + 1) (goneV G v) := HY.out.mark hm2 hg2
            have hF2 := HF.out.put (HZQ.out.below hg2 (fun b e => by cases e; exact HY.out.at_.2.1))
            have cc2 := hZ2.box.cell (j := 0) rfl
            obtain ⟨up2, hM2, hU2⟩ := id hZ2.mem
            have c2 := hM2.blk.cell (j := 2) rfl
            have hroot : x.R v = v := by
              by_cases e : x.R v = v
              · exact e
              · exfalso
                have h9 := HA3.out
                rw [← h9]
                intro p _
                unfold nxF
                rw [if_neg e]
            have HRV := Lib.hid hroot
            have HLJ := Lib.hid hLJ
            have HREM := Lib.hid hrem
            have HZ2 := Lib.hid hZ2
            have HY2 := Lib.hid hY2
            have HF2 := Lib.hid hF2
            clear hZ2 hY2 hF2 hLJ hrem hcr hM2 hU2 hm2 hg2 hroot hg HZQ HY HF HLI up2
            go_wp2_with fail
            go_loopw [94, 7] (fun pv lv wr => ∃ (p nd2 : Nat) (D2 : Nat → Int) (Ls2 : List Nat) (lw : Value), p ≤ K ∧ pv = .int .i64 p ∧ lw = lv ∧ Hid (Z1 wr w.heap.size base g k w.heap.size c5 (w.heap.size + 1) (c5 + 1) nd2 x d (.slice (some ⟨ub, 0, none⟩) x.n ucap) hv tv D2 lw Ls2) ∧ Hid (Y1 wr w.heap.size (mb + 1) mb (nb + 1) (c5 + 1) (goneV G v)) ∧ Hid (LJ k x.n s (nxF x) G v p D2 Ls2) ∧
              Hid (nd2 ≤ nd + p ∧ Ls2.length ≤ m + p) ∧ Hid (Frm w wr g (.slice (some ⟨ub, 0, none⟩) x.n ucap) hv tv (.slice (some ⟨ub, 0, none⟩) x.n ucap) hv tv)) (fun pv _ _ => K - (intOf pv).toNat)
            case atStart => exact ⟨0, nd, D, rest, _, by omega, rfl, rfl, HZ2, HY2, HLJ, Lib.hid ⟨Nat.le_refl _, by have := HMM.out; omega⟩, HF2⟩
            case round =>
              clear HZ2 HY2 HLJ HF2 cc2 c2 hlk cv cg
              obtain ⟨p, nd2, D2, Ls2, lw2, hp, rfl, rfl, HZ, HY, HLJ, HN2, HF⟩ := hrel
              by_cases hlp : p < K
              · have cf := HZ.out.fn.cell (j := 0) rfl
                unfold funcN at cf
                have hnx := next_any wr base g k w.heap.size x d (.slice (some ⟨ub, 0, none⟩) x.n ucap) hv tv v p HZ.out.fb HBD.out (by omega) a1 (by omega)
                rw [nxR_root HRV.out] at hnx
                have hlow := HZ.out.low
                cases hx : nxF x v p with
                | none =>
                  rw [hx] at hnx
                  have HNX := Lib.hid hnx
                  have HLJ2 := Lib.hid (HLJ.out.pass (fun u hu => by rw [hx] at hu; cases hu))
                  have HLOW2 := Lib.hid hlow
                  clear hnx hx HLJ hlow
                  go_wp2_with (go_at_call 106; refine HNX.out.mono ?_; rintro e w2 ⟨rfl, hB2, hF2⟩; simp only [optI])
                  have G1 := Lib.hid (HZ.out.after hB2.mem hF2)
                  have G2 := Lib.hid (HY.out.fr (hF2.fr HLOW2.out))
                  have G3 := Lib.hid (HF.out.trans hF2)
                  clear hB2 hF2 HNX
                  go_roundw
                  case rel => exact ⟨p + 1, nd2, D2, Ls2, _, by omega, by go_num, rfl, G1, G2, HLJ2, Lib.hid (by have := HN2.out; omega), G3⟩
                  case measure => simp [intOf]; omega
                | some t =>
                  rw [hx] at hnx
                  simp only [optI_some] at hnx
                  have htn := (settled_bound HI.out hx).1
                  have HNX := Lib.hid hnx
                  have HLOW2 := Lib.hid hlow
                  have HX := Lib.hid hx
                  clear hnx hlow hx
                  cases hg2 : goneV G v t with
                  | true =>
                    have HLJ2 := Lib.hid (HLJ.out.pass (fun u hu => by
                      rw [HX.out] at hu
                      obtain rfl := Option.some.inj hu
                      unfold goneV at hg2
                      split at hg2
                      · rename_i e; exact .inr e
                      · exact .inl hg2))
                    clear HLJ
                    go_wp2_with (go_at_call 106; refine HNX.out.mono ?_; rintro e w2 ⟨rfl, hB2, hF2⟩; have hY2 := HY.out.fr (hF2.fr HLOW2.out); have cg := hY2.mp.cell (j := 0) rfl; have hlk := hY2.gone.look (k := t) (by omega); rw [hg2] at hlk)
                    have G1 := Lib.hid (HZ.out.after hB2.mem hF2)
                    have G2 := Lib.hid hY2
                    have G3 := Lib.hid (HF.out.trans hF2)
                    clear hB2 hF2 HNX hY2 hlk cg hg2
                    go_roundw
                    case rel => exact ⟨p + 1, nd2, D2, Ls2, _, by omega, by go_num, rfl, G1, G2, HLJ2, Lib.hid (by have := HN2.out; omega), G3⟩
                    case measure => simp [intOf]; omega
                  | false =>
                    have htv : t ≠ v ∧ G t = false := by
                      unfold goneV at hg2
                      split at hg2
                      · cases hg2
                      · rename_i e; exact ⟨e, hg2⟩
                    have hk2 := HKK.out
                    have hfp := settled_fold HI.out HT0.out v p t (by omega) HX.out
                    have hx1 := xor_one_lt k p (by omega) (by omega)
                    have hdec := HLJ.out.dec HX.out htv.2 htv.1 htn ⟨p ^^^ 1, hx1, by rw [hfp]; simp⟩
                    have hz1 := HLJ.out.deg t htv.2 htv.1
                    have hz2 := degG_le k (nxF x) G t
                    have hz3 : toV (nxF x) v t p ≤ p := cnt_le _
                    obtain ⟨z, hz⟩ : ∃ z, D2 t = z := ⟨_, rfl⟩
                    have hzb : -8 ≤ z ∧ z ≤ 8 := by rw [← hz, hz1]; omega
                    rw [hz] at hdec
                    obtain ⟨y, hy⟩ : ∃ y, z - 1 = y := ⟨_, rfl⟩
                    have hyb : -9 ≤ y ∧ y ≤ 7 := by omega
                    have hwz : IntKind.i64.wrap (z - 1) = y := by rw [IntKind.wrap_i64]; omega
                    rw [hy] at hdec
                    have HDEC := Lib.hid hdec
                    have HZZ := Lib.hid hz
                    clear hdec hz hz1 hz2 hz3 hk2 hfp hx1 htv HLJ hy
                    go_upto_region 29 with (go_at_call 106; refine HNX.out.mono ?_; rintro e w2 ⟨rfl, hB2, hF2⟩; have hY2 := HY.out.fr (hF2.fr HLOW2.out); have cg := hY2.mp.cell (j := 0) rfl; have hlk := hY2.gone.look (k := t) (by omega); rw [hg2] at hlk)
                    have hZ2 := HZ.out.after hB2.mem hF2
                    have hF3 := HF.out.trans hF2
                    obtain ⟨f, f1, f2⟩ := id hZ2.deg
                    have hlk2 := f1.look (k := t) (by omega)
                    rw [f2 t, HZZ.out] at hlk2
                    obtain ⟨w3, hupd, hm3, hg3⟩ := f1.update (n := nd2) (by have := HN2.out; have := HC.out; omega) (k := t) (by omega) (v := y) (WalkArith.wf_i64 (by omega))
                    have hlk3 := hm3.look (k := t) (by omega)
                    replace hlk3 : (Instr.lookup 157 (.map (some (c5 + 1))) (.int .i64 (t : Int)) false).run Try.prog w3 = .ok (.int .i64 (y)) w3 := by
                      rw [hlk3]
                      show _ = Result.ok _ _
                      rw [if_pos rfl]; rfl
                    have hZ4 := hZ2.upd (D2 := fun u => if u = t then y else D2 u) hm3 (fun u => by
                      show (if u = t then some (y) else f u).getD 0 = if u = t then y else D2 u
                      by_cases e : u = t
                      · rw [if_pos e, if_pos e]; rfl
                      · rw [if_neg e, if_neg e]; exact f2 u) hg3
                    have hF4 := hF3.put (hZ2.below hg3 (fun b e => by cases e; exact hZ2.at_.2.2.2.1))
                    have hY4 := hY2.upd f1 hg3
                    have HZ4 := Lib.hid hZ4
                    have HF4 := Lib.hid hF4
                    have HY4 := Lib.hid hY4
                    clear hZ2 hF3 hZ4 hF4 hY4 f1 f2 hm3 hg3 hB2 hF2 HNX hY2 hlk cg hg2
                    have hm9 := HN2.out
                    by_cases hz1 : y = 1
                    · subst hz1
                      by_cases hts : t = s
                      · subst hts
                        have hdec := HDEC.out
                        rw [if_neg (by omega)] at hdec
                        have HDEC2 := Lib.hid hdec
                        clear hdec HDEC
                        go_wp2_with fail
                        go_roundw
                        case rel => exact ⟨p + 1, nd2 + 1, _, Ls2, _, by omega, by go_num, rfl, HZ4, HY4, HDEC2, Lib.hid (by have := HN2.out; omega), HF4⟩
                        case measure => simp [intOf]; omega
                      · have htsI : ¬ ((t : Int) = s) := by omega
                        have hdec := HDEC.out
                        rw [if_pos ⟨by omega, hts⟩] at hdec
                        have HDEC2 := Lib.hid hdec
                        have hbase : w.heap.size ≤ (w3.alloc (.cells (I64s [(t : Int)]).toArray 3)).heap.size := by have := HZ4.out.at_; simp; omega
                        have HBS := Lib.hid hbase
                        have HZA := Lib.hid (HZ4.out.alloc (.cells (I64s [(t : Int)]).toArray 3))
                        have HYA := Lib.hid (HY4.out.alloc (.cells (I64s [(t : Int)]).toArray 3))
                        have hfa := HF4.out.put ((Below.refl w.heap.size w3).alloc HZ4.out.at_.2.2.2.2 (.cells (I64s [(t : Int)]).toArray 3))
                        have HFA := Lib.hid hfa
                        have hll : Ls2.length < 1000000000 := by
                          have h1 := HG1.out
                          omega
                        clear hdec HDEC hts hbase HZ4 HY4 HF4 hfa
                        go_wp2_with (at_builtin; refine wpList_appK Try.info3 rfl (by decide) (by decide) Try.underlying54 HZA.out.own (by omega) rfl (.tmp 122) (.tmp 124) rfl (by simp [Act.eval]) (by simp [Act.eval]) (Blk.new w3 3 (I64s [(t : Int)])) rfl HBS.out _ rfl ?_; intro g6 cap6 w6 hown6 hgrow6 hat6 hlt6)
                        have hlo := World.ownsRow.lt HZA.out.own
                        have G1 := Lib.hid (HZA.out.app hown6 hgrow6)
                        have G2 := Lib.hid (HYA.out.row HZA.out.own hgrow6)
                        have G3 := Lib.hid (HFA.out.put (HZA.out.below hgrow6 (fun b e => (hlo b e).1)))
                        clear hlo hown6 hgrow6 hat6 hlt6 HZA HYA HFA HBS
                        go_roundw
                        case rel => exact ⟨p + 1, nd2 + 1, _, Ls2 ++ [t], _, by omega, by go_num, rfl, G1, G2, HDEC2, Lib.hid (by rw [List.length_append, List.length_singleton]; have := HN2.out; omega), G3⟩
                        case measure => simp [intOf]; omega
                    · have hzI : ¬ (y = 1) := hz1
                      have hdec := HDEC.out
                      rw [if_neg (by omega)] at hdec
                      have HDEC2 := Lib.hid hdec
                      clear hdec HDEC
                      go_wp2_with fail
                      go_roundw
                      case rel => exact ⟨p + 1, nd2 + 1, _, Ls2, _, by omega, by go_num, rfl, HZ4, HY4, HDEC2, Lib.hid (by have := HN2.out; omega), HF4⟩
                      case measure => simp [intOf]; omega
              · have hpK : p = 2 * k := by have := HKK.out; omega
                have hld := HLJ.out
                rw [hpK] at hld
                have HL9 := Lib.hid (hld.done (by omega) (settled_fold HI.out HT0.out))
                have hpK8 : p ≤ 8 := by omega
                clear hld HLJ hpK
                go_wp2_with fail
                go_roundg (9 * remN (goneV G v) x.n + Ls2.length)
                case measure => have h1 := HG1.out; have h2 := HREM.out; have h3 := HN2.out; omega
                case rel => exact ⟨nd2, nb + 1, D2, goneV G v, Ls2, _, rfl, HZ, HY, HL9, Lib.hid (by have h1 := HC.out; have h2 := HREM.out; have h3 := HN2.out; omega), Lib.hid ⟨Nat.le_refl _, by have h1 := HG1.out; have h2 := HREM.out; have h3 := HN2.out; omega⟩, HF⟩
end Go.Proofs.Ytlooclpfoeakgaa

/- Words of some nails: the walks of the program's and the reference's checks. -/
namespace Go.Proofs.Ytlooclpfoeakgaa
open Go.RowKit

/-- whether all letters are of the first k nails -/
def fitW (k : Nat) (l : List UInt8) : Bool := l.all fun c => decide (placeB c < 2 * k)
/-- what is wrong with a word of k nails -/
def cwErr (k : Nat) (s : ByteArray) : Int := if wordErr s = 0 then (if fitW k (bts s) then 0 else 1) else wordErr s
theorem word_of {s : ByteArray} (h : wordErr s = 0) : isWord (bts s) = true := by
  unfold wordErr at h
  split at h
  · assumption
  · cases h
theorem word_at {s : ByteArray} (h : isWord (bts s) = true) {i : Nat} (hi : i < s.size) : letter (s[i]'hi).toNat = true := by
  unfold isWord at h
  exact List.all_eq_true.1 h _ (List.mem_of_getElem? (bts_get hi))

set_option maxRecDepth 100000 in
set_option maxHeartbeats 1000000 in
theorem checkWord_any (k : Nat) (s : ByteArray) (w : World) (hk4 : k ≤ 26) (hs : s.size ≤ 9223372036854775807) : Calls Try.prog 60 #[.int .i64 k, .string s] w fun e w' => e = .returned (.int .i64 (cwErr k s)) ∧ Below w.heap.size w w' := by
  have hck := check_any s w hs
  have hf : ∀ b, cwErr k s = b → Ending.returned (.int .i64 b) = Ending.returned (.int .i64 (cwErr k s)) := fun b h => by rw [h]
  have HF := Lib.hid hf
  clear hf
  by_cases h0 : wordErr s = 0
  · have hww := word_of h0
    rw [h0] at hck
    have hcw : cwErr k s = if fitW k (bts s) then 0 else 1 := by unfold cwErr; rw [if_pos h0]
    have HCK := Lib.hid hck
    have HW := Lib.hid hww
    have HCW := Lib.hid hcw
    obtain ⟨K, hK⟩ : ∃ K, K = 2 * k := ⟨_, rfl⟩
    have hwK : IntKind.i64.wrap (2 * (k : Int)) = K := by rw [IntKind.wrap_i64]; omega
    have HKK := Lib.hid hK
    clear hck hww hcw h0 hK
    go_enter Try.func60, Try.ntmps60
    go_upto_region 4 with (go_at_call 59; refine HCK.out.mono ?_; rintro e w2 ⟨rfl, hb2⟩; have HB2 := Lib.hid hb2; clear hb2)
    go_wp2_with fail
    go_loopw [14] (fun iv wr => ∃ j : Nat, j ≤ s.size ∧ iv = .int .i64 j ∧ wr = w2 ∧ Hid (fitW k (bts s) = ((bts s).drop j).all fun c => decide (placeB c < 2 * k))) (fun iv _ => s.size - (intOf iv).toNat)
    case atStart => exact ⟨0, by omega, rfl, rfl, (show Hid (_ = _) from rfl)⟩
    case round =>
      obtain ⟨j, hj, rfl, rfl, HA⟩ := hrel
      by_cases hlt : j < s.size
      · have hst := all_drop (f := fun c => decide (placeB c < 2 * k)) (bts_get hlt)
        have hpl := fun W => place_any (s[j]'hlt) W (word_at HW.out hlt)
        obtain ⟨c, hc⟩ : ∃ c, s[j]'hlt = c := ⟨_, rfl⟩
        rw [hc] at hst hpl
        by_cases hp : placeB c < 2 * k
        · have hst2 : ((bts s).drop j).all (fun c => decide (placeB c < 2 * k)) = ((bts s).drop (j + 1)).all (fun c => decide (placeB c < 2 * k)) := by rw [hst, decide_eq_true hp, Bool.true_and]
          have hpI : (placeB c : Int) < K := by have := HKK.out; omega
          have HST := Lib.hid hst2
          have HPL := Lib.hid hpl
          clear hst hst2 hpl hp
          go_wp2_with (go_at_call 76; refine (HPL.out _).mono ?_; rintro e w4 ⟨rfl, rfl⟩)
          go_roundw
          case rel => exact ⟨j + 1, by omega, by go_num, trivial, by show _ = _; rw [HA.out, HST.out]⟩
          case measure => simp [intOf]; omega
        · have hall : fitW k (bts s) = false := by rw [HA.out, hst, decide_eq_false hp]; rfl
          have hb : cwErr k s = 1 := by rw [HCW.out, hall]; rfl
          have HB := Lib.hid (HF.out _ hb)
          have hpI : ¬ (placeB c : Int) < K := by have := HKK.out; omega
          have HPL := Lib.hid hpl
          clear hst hpl hp hall hb HF HA
          go_wp2_with (go_at_call 76; refine (HPL.out _).mono ?_; rintro e w4 ⟨rfl, rfl⟩)
          go_ret
          exact ⟨HB.out, HB2.out⟩
      · obtain rfl : j = s.size := by omega
        have hall : fitW k (bts s) = true := by rw [HA.out, List.drop_of_length_le (by rw [bts_len]; exact Nat.le_refl _)]; rfl
        have hb : cwErr k s = 0 := by rw [HCW.out, hall]; rfl
        have HB := Lib.hid (HF.out _ hb)
        clear hall hb HF HA
        go_wp2_with fail
        go_ret
        exact ⟨HB.out, HB2.out⟩
  · have hb : cwErr k s = wordErr s := by unfold cwErr; rw [if_neg h0]
    have HB := Lib.hid (HF.out _ hb)
    generalize wordErr s = E at *
    have HCK := Lib.hid hck
    clear hb HF hck
    go_enter Try.func60, Try.ntmps60
    go_wp2_with (go_at_call 59; refine HCK.out.mono ?_; rintro e w2 ⟨rfl, hb2⟩; have HB2 := Lib.hid hb2; clear hb2)
    go_ret
    exact ⟨HB.out, HB2.out⟩

theorem place_nail : ∀ c : UInt8, letter c.toNat = true → (placeB c = 2 * nailB c ∨ placeB c = 2 * nailB c + 1) ∧ 97 ≤ (lowB c).toNat ∧ (lowB c).toNat ≤ 122 := for_bytes (by decide +kernel)
theorem low_wrap {c : UInt8} (h : letter c.toNat = true) : IntKind.u8.wrap (((lowB c).toNat : Int) - 97) = (nailB c : Int) := by
  obtain ⟨-, h1, h2⟩ := place_nail c h
  unfold nailB
  have e := Int.emod_eq_of_lt (a := ((lowB c).toNat : Int) - 97) (b := 2 ^ 8) (by omega) (by omega)
  simp [IntKind.wrap, IntKind.signed, IntKind.bits]
  omega
set_option maxRecDepth 100000 in
set_option maxHeartbeats 1000000 in
theorem rNails_any (k : Nat) (s : ByteArray) (w : World) (hw : isWord (bts s) = true) (hs : s.size ≤ 9223372036854775807) : Calls Try.prog 64 #[.int .i64 k, .string s] w fun e w' => e = .returned (.bool (fitW k (bts s))) ∧ w' = w := by
  have hf : ∀ b, fitW k (bts s) = b → Ending.returned (.bool b) = Ending.returned (.bool (fitW k (bts s))) := fun b h => by rw [h]
  have HF := Lib.hid hf
  have HW := Lib.hid hw
  clear hf hw
  go_enter Try.func64, Try.ntmps64
  go_wp2_with fail
  go_loopw [5] (fun iv wr => ∃ j : Nat, j ≤ s.size ∧ iv = .int .i64 j ∧ wr = w ∧ Hid (fitW k (bts s) = ((bts s).drop j).all fun c => decide (placeB c < 2 * k))) (fun iv _ => s.size - (intOf iv).toNat)
  case atStart => exact ⟨0, by omega, rfl, rfl, (show Hid (_ = _) from rfl)⟩
  case round =>
    obtain ⟨j, hj, rfl, rfl, HA⟩ := hrel
    by_cases hlt : j < s.size
    · have hst := all_drop (f := fun c => decide (placeB c < 2 * k)) (bts_get hlt)
      have hlet := word_at HW.out hlt
      have hpl := fun W => rNail_any (s[j]'hlt) W hlet
      obtain ⟨c, hc⟩ : ∃ c, s[j]'hlt = c := ⟨_, rfl⟩
      rw [hc] at hst hpl hlet
      have hwr := low_wrap hlet
      obtain ⟨hpn, hl1, hl2⟩ := place_nail c hlet
      obtain ⟨q, hq⟩ : ∃ q, nailB c = q := ⟨_, rfl⟩
      rw [hq] at hwr hpn
      have hq9 : q ≤ 25 := by unfold nailB at hq; omega
      obtain ⟨r, hr⟩ : ∃ r, (lowB c).toNat = r := ⟨_, rfl⟩
      rw [hr] at hwr hl1 hl2
      simp only [hr] at hpl
      have HPL := Lib.hid hpl
      clear hpl hlet hr hq
      by_cases hp : placeB c < 2 * k
      · have hst2 : ((bts s).drop j).all (fun c => decide (placeB c < 2 * k)) = ((bts s).drop (j + 1)).all (fun c => decide (placeB c < 2 * k)) := by rw [hst, decide_eq_true hp, Bool.true_and]
        have hpI : ¬ (k : Int) ≤ q := by omega
        have HST := Lib.hid hst2
        clear hst hst2 hp hpn
        go_wp2_with (go_at_call 110; refine (HPL.out _).mono ?_; rintro e w4 ⟨rfl, rfl⟩)
        go_roundw
        case rel => exact ⟨j + 1, by omega, by go_num, trivial, by show _ = _; rw [HA.out, HST.out]⟩
        case measure => simp [intOf]; omega
      · have hall : fitW k (bts s) = false := by rw [HA.out, hst, decide_eq_false hp]; rfl
        have HB := Lib.hid (HF.out _ hall)
        have hpI : (k : Int) ≤ q := by omega
        clear hst hp hall HF HA hpn
        go_wp2_with (go_at_call 110; refine (HPL.out _).mono ?_; rintro e w4 ⟨rfl, rfl⟩)
        go_ret
        exact ⟨HB.out, rfl⟩
    · obtain rfl : j = s.size := by omega
      have hall : fitW k (bts s) = true := by rw [HA.out, List.drop_of_length_le (by rw [bts_len]; exact Nat.le_refl _)]; rfl
      have HB := Lib.hid (HF.out _ hall)
      clear hall HF HA
      go_wp2_with fail
      go_ret
      exact ⟨HB.out, rfl⟩
end Go.Proofs.Ytlooclpfoeakgaa

/- What is wrong with words that are to make a group: the reference's walk. -/
namespace Go.Proofs.Ytlooclpfoeakgaa
open Go.RowKit

/-- what is wrong with one word -/
def oneErr (k : Nat) (s : ByteArray) : Int := if wordErr s ≠ 0 then wordErr s else if 200 < s.size then 2 else if fitW k (bts s) then 0 else 1
/-- the first error -/
def errL (k : Nat) : List ByteArray → Int
  | [] => 0
  | s :: l => if oneErr k s ≠ 0 then oneErr k s else errL k l
def wordsErr (k : Int) (ss : List ByteArray) : Int := if k < 1 ∨ 4 < k then 1 else if 12 < ss.length then 2 else errL k.toNat ss
theorem errL_at {k : Nat} {ss : List ByteArray} {j : Nat} {s : ByteArray} (h : ss[j]? = some s) : errL k (ss.drop j) = if oneErr k s ≠ 0 then oneErr k s else errL k (ss.drop (j + 1)) := by
  obtain ⟨hj, rfl⟩ := List.getElem?_eq_some_iff.1 h
  rw [List.drop_eq_getElem_cons hj, errL]
theorem errL_all {k : Nat} : ∀ {ss : List ByteArray}, errL k ss = 0 → ∀ s ∈ ss, oneErr k s = 0
  | [], _, s, hs => by cases hs
  | x :: l, h, s, hs => by
    rw [errL] at h
    by_cases hx : oneErr k x = 0
    · rw [if_neg (fun e => e hx)] at h
      rcases List.mem_cons.1 hs with rfl | hs
      · exact hx
      · exact errL_all h s hs
    · rw [if_pos hx] at h; exact absurd h hx
theorem oneErr_zero {k : Nat} {s : ByteArray} (h : oneErr k s = 0) : isWord (bts s) = true ∧ s.size ≤ 200 ∧ fitW k (bts s) = true := by
  unfold oneErr at h
  by_cases h0 : wordErr s = 0
  · rw [if_neg (fun e => e h0)] at h
    split at h
    · cases h
    · split at h
      · rename_i h1 h2; exact ⟨word_of h0, by omega, h2⟩
      · cases h
  · rw [if_pos h0] at h; exact absurd h h0

set_option maxRecDepth 100000 in
set_option maxHeartbeats 1000000 in
theorem rWords_any (k : Int) (v : Value) (ss : List ByteArray) (w : World) (hv : Strs w v ss) (hz : ∀ s ∈ ss, s.size ≤ 1000000) : Calls Try.prog 14 #[.int .i64 k, v] w fun e w' => e = .returned (.int .i64 (wordsErr k ss)) ∧ w' = w := by
  obtain ⟨a, n, cap, rfl, HN, hn1, hn2⟩ := hv.open
  have hf : ∀ b, wordsErr k ss = b → Ending.returned (.int .i64 b) = Ending.returned (.int .i64 (wordsErr k ss)) := fun b h => by rw [h]
  have HF := Lib.hid hf
  have HV := Lib.hid hv
  have HZ := Lib.hid hz
  clear hf hv hz
  by_cases hk : k < 1 ∨ 4 < k
  · have hb : wordsErr k ss = 1 := by unfold wordsErr; rw [if_pos hk]
    have HB := Lib.hid (HF.out _ hb)
    clear hb HF
    by_cases hk1 : k < 1
    · clear hk
      go_enter Try.func14, Try.ntmps14
      go_wp2_with fail
      go_ret
      exact ⟨HB.out, rfl⟩
    · have hk4 : 4 < k := hk.resolve_left hk1
      clear hk
      go_enter Try.func14, Try.ntmps14
      go_wp2_with fail
      go_ret
      exact ⟨HB.out, rfl⟩
  · have hk1 : ¬ k < 1 := fun e => hk (.inl e)
    have hk4 : ¬ 4 < k := fun e => hk (.inr e)
    by_cases hl : 12 < n
    · have hb : wordsErr k ss = 2 := by unfold wordsErr; rw [if_neg hk, if_pos (by rw [HN.out]; exact hl)]
      have HB := Lib.hid (HF.out _ hb)
      have hlI : (12 : Int) < n := by omega
      clear hb HF hk
      go_enter Try.func14, Try.ntmps14
      go_wp2_with fail
      go_ret
      exact ⟨HB.out, rfl⟩
    · obtain ⟨q, rfl⟩ : ∃ q : Nat, k = q := ⟨k.toNat, by omega⟩
      have hE : wordsErr q ss = errL q (ss.drop 0) := by unfold wordsErr; rw [if_neg hk, if_neg (by rw [HN.out]; exact hl)]; rfl
      have HE0 := Lib.hid hE
      have hlI : ¬ (12 : Int) < n := by omega
      clear hk hE
      go_enter Try.func14, Try.ntmps14
      go_wp2_with fail
      go_loopw [5] (fun iv wr => ∃ j : Nat, j ≤ n ∧ iv = .int .i64 j ∧ wr = w ∧ Hid (wordsErr q ss = errL q (ss.drop j))) (fun iv _ => n - (intOf iv).toNat)
      case atStart => exact ⟨0, by omega, rfl, rfl, HE0⟩
      case round =>
        clear HE0
        obtain ⟨j, hj, rfl, rfl, HE⟩ := hrel
        by_cases hlt : j < n
        · obtain ⟨b, o, s, rfl, hbl, hgs, hc0⟩ := HV.out.at_ hlt
          have hst := errL_at (k := q) hgs.out
          rw [← HE.out] at hst
          have hsz := HZ.out s (List.mem_of_getElem? hgs.out)
          have hck := rCheck_any s wr (by omega)
          clear hgs
          by_cases h0 : wordErr s = 0
          · rw [h0] at hck
            have hww := word_of h0
            have hna := rNails_any q s wr hww (by omega)
            by_cases h200 : 200 < s.size
            · have hb : wordsErr q ss = 2 := by
                have h1 : oneErr q s = 2 := by unfold oneErr; rw [if_neg (fun e => e h0), if_pos h200]
                rw [hst, h1]; rfl
              have HB := Lib.hid (HF.out _ hb)
              have h2I : (200 : Int) < s.size := by omega
              have HCK := Lib.hid hck
              clear hb HF hst hck hna hww h0 h200 HE
              go_wp2_with (go_at_call 63; refine HCK.out.mono ?_; rintro e w4 ⟨rfl, rfl⟩)
              go_ret
              exact ⟨HB.out, rfl⟩
            · have h2I : ¬ (200 : Int) < s.size := by omega
              cases hfit : fitW q (bts s) with
              | true =>
                have h1 : oneErr q s = 0 := by unfold oneErr; rw [if_neg (fun e => e h0), if_neg h200, hfit]; rfl
                rw [if_neg (fun e => e h1)] at hst
                rw [hfit] at hna
                have HST := Lib.hid hst
                have HCK := Lib.hid hck
                have HNA := Lib.hid hna
                clear hst hck hna hww h0 h200 HE h1 hfit
                go_wp2_with (first
                  | (go_at_call 63; refine HCK.out.mono ?_; rintro e w4 ⟨rfl, rfl⟩)
                  | (go_at_call 64; refine HNA.out.mono ?_; rintro e w5 ⟨rfl, rfl⟩))
                go_roundw
                case rel => exact ⟨j + 1, by omega, by go_num, trivial, HST⟩
                case measure => simp [intOf]; omega
              | false =>
                have h1 : oneErr q s = 1 := by unfold oneErr; rw [if_neg (fun e => e h0), if_neg h200, hfit]; rfl
                have hb : wordsErr q ss = 1 := by rw [hst, h1]; rfl
                have HB := Lib.hid (HF.out _ hb)
                rw [hfit] at hna
                have HCK := Lib.hid hck
                have HNA := Lib.hid hna
                clear hst hck hna hww h0 h200 HE h1 hfit hb HF
                go_wp2_with (first
                  | (go_at_call 63; refine HCK.out.mono ?_; rintro e w4 ⟨rfl, rfl⟩)
                  | (go_at_call 64; refine HNA.out.mono ?_; rintro e w5 ⟨rfl, rfl⟩))
                go_ret
                exact ⟨HB.out, rfl⟩
          · have hb : wordsErr q ss = wordErr s := by
              have h1 : oneErr q s = wordErr s := by unfold oneErr; rw [if_pos h0]
              rw [hst, h1, if_pos h0]
            have HB := Lib.hid (HF.out _ hb)
            generalize wordErr s = E at *
            have HCK := Lib.hid hck
            clear hb HF hst hck HE
            go_wp2_with (go_at_call 63; refine HCK.out.mono ?_; rintro e w4 ⟨rfl, rfl⟩)
            go_ret
            exact ⟨HB.out, rfl⟩
        · obtain rfl : j = n := by omega
          have hb : wordsErr q ss = 0 := by rw [HE.out, List.drop_of_length_le (by rw [HN.out]; exact Nat.le_refl _)]; rfl
          have HB := Lib.hid (HF.out _ hb)
          clear hb HF HE
          go_wp2_with fail
          go_ret
          exact ⟨HB.out, rfl⟩
end Go.Proofs.Ytlooclpfoeakgaa

/- The graph of a group: the walk. -/
namespace Go.Proofs.Ytlooclpfoeakgaa
open Go.RowKit

theorem errL_step {k : Nat} {ss : List ByteArray} {j : Nat} {s : ByteArray} (h : ss[j]? = some s) (he : errL k ss = errL k (ss.drop j)) : (oneErr k s ≠ 0 → errL k ss = oneErr k s) ∧ (oneErr k s = 0 → errL k ss = errL k (ss.drop (j + 1))) := by
  rw [he, errL_at h]
  exact ⟨fun e => if_pos e, fun e => if_neg (fun e2 => e2 e)⟩
/-- the words as a set -/
def setS (ss : List ByteArray) (a : List UInt8) : Prop := ∃ s ∈ ss, a = bts s
/-- g is the graph of what the words make -/
def IsGraph (k : Nat) (S : List UInt8 → Prop) (g : List (List Int)) : Prop := ∃ (nx : Nat → Nat → Option Nat) (o : Nat), GraphOf k S nx o ∧ (o < 5000 ∧ ∀ v p u, nx v p = some u → u < 5000 ∧ p < 2 * k) ∧ g = numN nx (List.range (2 * k)) 5000 0 [o] []
theorem ret13 {w : World} {tmps : Array Value} {g : Nat} {M : List Value} {e : Value} (hM : M.length = 2) (hp : tmps.getD 4 undef = .pointer (some ⟨g, 0, none⟩)) (he : tmps.getD 5 undef = e) (hb : Blk w g 25 M) : (results Try.f13 tmps).run Try.prog w = .ok (.tuple #[.agg M.toArray, e]) w := by
  rw [results_cell_tmp (p := 4) (u := 5) (ty := 25) rfl, hp, he, show (asAddr (.pointer (some ⟨g, 0, none⟩))).run Try.prog w = .ok ⟨g, 0, none⟩ w from rfl]
  simp only [Result.andThen]
  rw [run_loadVar_row w g 25 25 M.toArray (0, 0) _ hb Try.underlying25 rfl (by rw [Try.size25]; simp [hM])]

set_option maxRecDepth 100000 in
set_option maxHeartbeats 1000000 in
theorem Fold_few (k : Int) (v : Value) (ss : List ByteArray) (w : World) (hv : Strs w v ss) (hk : k < 1 ∨ 4 < k ∨ 12 < ss.length) : Calls Try.prog 13 #[.int .i64 k, v] w fun e w' => e = .returned (.tuple #[.agg #[.int .i64 0, .slice none 0 0], .int .i64 (wordsErr k ss)]) ∧ Below w.heap.size w w' := by
  obtain ⟨a, n, cap, rfl, HN, hn1, hn2⟩ := hv.open
  have hz := Blk.new w 25 [.int .i64 0, .slice none 0 0]
  have HZ := Lib.hid hz
  have c0 := hz.cell (j := 0) rfl
  have c1 := hz.cell (j := 1) rfl
  have f0 := hz.free 0
  have f1 := hz.free 1
  have hB : Below w.heap.size w (w.alloc (.cells #[.int .i64 0, .slice none 0 0] 25)) := (Below.refl _ _).alloc (Nat.le_refl _) _
  have HB := Lib.hid hB
  clear hv hz hB
  by_cases hk1 : k < 1
  · have hb : wordsErr k ss = 1 := by unfold wordsErr; rw [if_pos (.inl hk1)]
    rw [hb]
    clear hk hb
    go_enter Try.func13, Try.ntmps13
    go_wp2_with fail
    exact bodyPost_ret (ret13 (M := [.int .i64 0, .slice none 0 0]) rfl rfl rfl HZ.out) rfl ⟨rfl, HB.out⟩
  · by_cases hk4 : 4 < k
    · have hb : wordsErr k ss = 1 := by unfold wordsErr; rw [if_pos (.inr hk4)]
      rw [hb]
      clear hk hb
      go_enter Try.func13, Try.ntmps13
      go_wp2_with fail
      exact bodyPost_ret (ret13 (M := [.int .i64 0, .slice none 0 0]) rfl rfl rfl HZ.out) rfl ⟨rfl, HB.out⟩
    · have hl : 12 < ss.length := (hk.resolve_left hk1).resolve_left hk4
      have hb : wordsErr k ss = 2 := by unfold wordsErr; rw [if_neg (fun e => e.elim hk1 hk4), if_pos hl]
      rw [hb]
      have hlI : (12 : Int) < n := by rw [HN.out] at hl; omega
      clear hk hb hl
      go_enter Try.func13, Try.ntmps13
      go_wp2_with fail
      exact bodyPost_ret (ret13 (M := [.int .i64 0, .slice none 0 0]) rfl rfl rfl HZ.out) rfl ⟨rfl, HB.out⟩

def zeroG : List Value := [.int .i64 0, .slice none 0 0]
set_option maxRecDepth 100000 in
set_option maxHeartbeats 4000000 in
theorem Fold_words (k : Nat) (v : Value) (ss : List ByteArray) (w : World) (hv : Strs w v ss) (hz : ∀ s ∈ ss, s.size ≤ 1000000) (hk1 : 1 ≤ k) (hk4 : k ≤ 4) (hl : ss.length ≤ 12) :
    Calls Try.prog 13 #[.int .i64 k, v] w fun e w' => Below w.heap.size w w' ∧ ((errL k ss ≠ 0 ∧ e = .returned (.tuple #[.agg zeroG.toArray, .int .i64 (errL k ss)])) ∨
      (errL k ss = 0 ∧ ∃ (rv : Value) (g : List (List Int)), e = .returned (.tuple #[.agg #[.int .i64 k, rv], .int .i64 0]) ∧ IsGraph k (setS ss) g ∧ RowsAt w' w.heap.size rv g (fun _ => True))) := by
  obtain ⟨a, n, cap, rfl, HN, hn1, hn2⟩ := hv.open
  have hn12 : n ≤ 12 := by rw [HN.out] at hl; exact hl
  have hzb := Blk.new w 25 zeroG
  have hB : Below w.heap.size w (w.alloc (.cells zeroG.toArray 25)) := (Below.refl _ _).alloc (Nat.le_refl _) _
  obtain ⟨w1, hw1⟩ : ∃ w1, w1 = w.alloc (.cells #[.int .i64 0, .slice none 0 0] 25) := ⟨_, rfl⟩
  replace hzb : Blk w1 w.heap.size 25 zeroG := by rw [hw1]; exact hzb
  replace hB : Below w.heap.size w w1 := by rw [hw1]; exact hB
  have hs1 : w1.heap.size = w.heap.size + 1 := by rw [hw1]; simp
  have hnf := newFolder_any w1 k
  rw [hs1] at hnf
  have HNF := Lib.hid hnf
  have HV := Lib.hid hv
  have HSZ := Lib.hid hz
  have HE0 := Lib.hid (show errL k ss = errL k (ss.drop 0) from rfl)
  clear hnf hv hz hl
  go_enter Try.func13, Try.ntmps13
  go_upto_region 6 with (go_at_call 58; rw [← hw1]; refine HNF.out.mono ?_; rintro e w2 ⟨rfl, up, uv, hv, tv, hM2, hU2, hb2⟩)
  have HI := Lib.hid (inv_fs1 k (setS ss) (fun _ => []))
  have HM := Lib.hid hM2
  have HU := Lib.hid (show UF fs1.n up fs1.R _ from hU2)
  have HBX := Lib.hid (hzb.below hb2 (by omega))
  have HB := Lib.hid (hB.trans (hb2.mono (Nat.le_succ _)))
  clear hM2 hU2 hzb hB hb2 HNF hw1 hs1 w1
  go_wp2_with fail
  go_loopw [26] (fun iv wr => ∃ (j : Nat) (y : FS) (ψ : Nat → List UInt8) (F : List (Nat × Nat × Nat)) (up d : Nat → Nat) (uv hv tv : Value), j ≤ n ∧ iv = .int .i64 j ∧ Hid (Inv k (setS ss) ψ F y) ∧ Hid (y.todo = []) ∧ Hid (ψ 0 = []) ∧ Hid (∀ i s, i < j → ss[i]? = some s → Along F 0 (bts s) 0) ∧ Hid (1 ≤ y.n ∧ y.n ≤ 1 + 200 * j) ∧
    Hid (FM wr (w.heap.size + 1) (w.heap.size + 1) k y up uv hv tv) ∧ Hid (UF y.n up y.R d) ∧ Hid (Blk wr w.heap.size 25 zeroG) ∧ Hid (Below w.heap.size w wr) ∧ Hid (errL k ss = errL k (ss.drop j))) (fun iv _ => n - (intOf iv).toNat)
  case atStart => exact ⟨0, fs1, _, [], up, _, uv, hv, tv, by omega, rfl, HI, Lib.hid rfl, Lib.hid rfl, Lib.hid (fun i s h => by omega), Lib.hid ⟨Nat.le_refl _, Nat.le_refl _⟩, HM, HU, HBX, HB, HE0⟩
  case round =>
    clear HI HM HU HBX HB HE0 up uv hv tv
    obtain ⟨j, y, ψ, F, up, d, uv, hv, tv, hj, rfl, HI, HT, HP, HA, HY, HM, HU, HBX, HB, HE⟩ := hrel
    have hbsz := HB.out.size
    by_cases hlt : j < n
    · obtain ⟨b, o, s, rfl, hbl, hgs, hc0⟩ := HV.out.at_ hlt
      have hc1 := (HB.out.cell (p := ⟨b, o + j, none⟩) hbl).trans hc0
      obtain ⟨hst1, hst2⟩ := errL_step hgs.out HE.out
      have hsz := HSZ.out s (List.mem_of_getElem? hgs.out)
      have hck := check_any s wr (by omega)
      have HST1 := Lib.hid hst1
      have HST2 := Lib.hid hst2
      clear hc0 hst1 hst2
      by_cases h0 : wordErr s = 0
      · rw [h0] at hck
        have hww := word_of h0
        have HCK := Lib.hid hck
        have HW := Lib.hid hww
        clear hck hww
        go_upto_region 10 with (go_at_call 59; refine HCK.out.mono ?_; rintro e w3 ⟨rfl, hb3⟩)
        have hb3' := HB.out.trans (hb3.mono hbsz)
        have hM3 := HM.out.keep hb3
        have hX3 := HBX.out.keep hb3
        have hbs3 := hb3'.size
        have HB3 := Lib.hid hb3'
        have HM3 := Lib.hid hM3
        have HX3 := Lib.hid hX3
        clear hb3' hM3 hX3 hb3 HB HM HBX HCK
        by_cases h200 : 200 < s.size
        · have h1 : oneErr k s = 2 := by unfold oneErr; rw [if_neg (fun e => e h0), if_pos h200]
          have hE := HST1.out (by rw [h1]; decide)
          rw [h1] at hE
          have HE2 := Lib.hid hE
          have h2I : (200 : Int) < s.size := by omega
          clear hE h1 h0 h200 HST1 HST2 HE
          go_wp2_with (with_reducible show wpList _ _ _ (Oper.mk _ (Op.store 25 _ _) _ _ _ _ :: _) _ _; (refine wpList_storeB (vs := zeroG) HX3.out Try.size25 rfl rfl (by decide) rfl _ _ rfl rfl rfl ?_))
          exact bodyPost_ret (ret13 (M := zeroG) rfl rfl rfl (HX3.out.setAll (vs := zeroG) rfl)) rfl ⟨below_setCells (Nat.le_refl _) _ 0 HB3.out, .inl ⟨by rw [HE2.out]; decide, by rw [HE2.out]; rfl⟩⟩
        · have h2I : ¬ (200 : Int) < s.size := by omega
          have hcw := checkWord_any k s w3 (by omega) (by omega)
          have hcwe : cwErr k s = if fitW k (bts s) then 0 else 1 := by unfold cwErr; rw [if_pos h0]
          cases hfit : fitW k (bts s) with
          | false =>
            have h1 : oneErr k s = 1 := by unfold oneErr; rw [if_neg (fun e => e h0), if_neg h200, hfit]; rfl
            have hE := HST1.out (by rw [h1]; decide)
            rw [h1] at hE
            have HE2 := Lib.hid hE
            rw [hcwe, hfit] at hcw
            have HCW := Lib.hid hcw
            clear hE h1 h0 h200 HST1 HST2 HE hcw hcwe hfit
            go_wp2_with (first
              | (go_at_call 60; refine HCW.out.mono ?_; rintro e w4 ⟨rfl, hb4⟩; have HX4 := Lib.hid (HX3.out.keep hb4); have HB4 := Lib.hid (HB3.out.trans (hb4.mono hbs3)))
              | (with_reducible show wpList _ _ _ (Oper.mk _ (Op.store 25 _ _) _ _ _ _ :: _) _ _; (refine wpList_storeB (vs := zeroG) HX4.out Try.size25 rfl rfl (by decide) rfl _ _ rfl rfl rfl ?_)))
            exact bodyPost_ret (ret13 (M := zeroG) rfl rfl rfl (HX4.out.setAll (vs := zeroG) rfl)) rfl ⟨below_setCells (Nat.le_refl _) _ 0 HB4.out, .inl ⟨by rw [HE2.out]; decide, by rw [HE2.out]; rfl⟩⟩
          | true =>
            have h1 : oneErr k s = 0 := by unfold oneErr; rw [if_neg (fun e => e h0), if_neg h200, hfit]; rfl
            have hE := HST2.out h1
            rw [hcwe, hfit] at hcw
            have HCW := Lib.hid hcw
            have HE2 := Lib.hid hE
            have HFIT := Lib.hid hfit
            have HGS := Lib.hid hgs.out
            have h200' : s.size ≤ 200 := by omega
            clear hE h1 h0 h200 HST1 HST2 HE hcw hcwe hfit hgs
            go_upto_region 15 with (go_at_call 60; refine HCW.out.mono ?_; rintro e w4 ⟨rfl, hb4⟩)
            have hb4' := HB3.out.trans (hb4.mono hbs3)
            have hbs4 := hb4'.size
            have hX4 := HX3.out.keep hb4
            have hM4 := HM3.out.keep hb4
            have hy := HY.out
            have hwy := way_any w4 (w.heap.size + 1) (w.heap.size + 1) k y up d uv hv tv HI.out hk4 HT.out hM4 HU.out (by have := hX4.lt; omega) s 0 0 (by omega) (by omega)
              (fun c hc => ⟨List.all_eq_true.1 (show (bts s).all _ = true from HW.out) c hc, of_decide_eq_true (List.all_eq_true.1 HFIT.out c hc)⟩)
              (by rw [HP.out]; simp only [List.nil_append, invL, List.reverse_nil, List.map_nil, List.append_nil]; exact Gen.one ⟨s, List.mem_of_getElem? HGS.out, rfl⟩) (.inr rfl) (by omega)
            have HWY := Lib.hid hwy
            have HB4 := Lib.hid hb4'
            have HX4 := Lib.hid hX4
            have HM4 := Lib.hid hM4.parts
            have HM4' := Lib.hid hM4
            clear hb4' hX4 hM4 hwy hb4 HB3 HX3 HM3 HCW
            go_wp2_with (go_at_call 61; refine HWY.out.mono ?_; rintro e w5 ⟨rfl, y2, ψ2, F2, up5, d5, uv5, hv5, tv5, q1, q2, q3, q4, q5, q6, q7, q8, q9, q10⟩)
            have hx5 := q10.blkOf HM4.out HX4.out (by decide) (by decide) (by decide) (by decide)
            have hb5 := HB4.out.trans (q10.below (base := w.heap.size) (Nat.le_succ _) hbs4 (fun b hb => by have := (World.ownsRow.lt HM4'.out.ups b hb).1; omega) (fun b hb => by have := (World.ownsRow.lt HM4'.out.hass b hb).1; omega) (fun b hb => by have := (World.ownsRow.lt HM4'.out.todos b hb).1; omega))
            have G1 := Lib.hid q1
            have G2 := Lib.hid q2
            have G3 : Hid (ψ2 0 = []) := Lib.hid ((q3 0 (by omega)).trans HP.out)
            have G4 : Hid (∀ i s, i < j + 1 → ss[i]? = some s → Along F2 0 (bts s) 0) := Lib.hid (fun i t hi ht => by
              by_cases e : i = j
              · subst e
                rw [HGS.out] at ht
                rw [← Option.some.inj ht]; exact q5
              · exact (HA.out i t (by omega) ht).mono q4)
            have G5 : Hid (1 ≤ y2.n ∧ y2.n ≤ 1 + 200 * (j + 1)) := Lib.hid (by omega)
            have G6 := Lib.hid q8
            have G7 := Lib.hid q9
            have G8 := Lib.hid hx5
            have G9 := Lib.hid hb5
            clear q1 q2 q3 q4 q5 q6 q7 q8 q9 q10 hx5 hb5
            go_roundw
            case rel => exact ⟨j + 1, y2, ψ2, F2, up5, d5, uv5, hv5, tv5, by omega, by go_num, G1, G2, G3, G4, G5, G6, G7, G8, G9, HE2⟩
            case measure => simp [intOf]; omega
      · have h1 : oneErr k s = wordErr s := by unfold oneErr; rw [if_pos h0]
        have hE := HST1.out (by rw [h1]; exact h0)
        rw [h1] at hE
        have hne : errL k ss ≠ 0 := by rw [hE]; exact h0
        have HE2 := Lib.hid hE
        have HNE := Lib.hid hne
        generalize wordErr s = E at *
        have HCK := Lib.hid hck
        clear hE hne h1 HST1 HST2 HE hck
        go_wp2_with (first
          | (go_at_call 59; refine HCK.out.mono ?_; rintro e w4 ⟨rfl, hb4⟩; have HX4 := Lib.hid (HBX.out.keep hb4); have HB4 := Lib.hid (HB.out.trans (hb4.mono hbsz)))
          | (with_reducible show wpList _ _ _ (Oper.mk _ (Op.store 25 _ _) _ _ _ _ :: _) _ _; (refine wpList_storeB (vs := zeroG) HX4.out Try.size25 rfl rfl (by decide) rfl _ _ rfl rfl rfl ?_)))
        exact bodyPost_ret (ret13 (M := zeroG) rfl rfl rfl (HX4.out.setAll (vs := zeroG) rfl)) rfl ⟨below_setCells (Nat.le_refl _) _ 0 HB4.out, .inl ⟨HNE.out, by rw [HE2.out]; rfl⟩⟩
    · obtain rfl : j = n := by omega
      have hb0 : errL k ss = 0 := by rw [HE.out, List.drop_of_length_le (by rw [HN.out]; exact Nat.le_refl _)]; rfl
      have hy := HY.out
      have hgr := graph_any wr (w.heap.size + 1) (w.heap.size + 1) k y up d uv hv tv 0 5000 HI.out HT.out HM.out HU.out hk1 hk4 (by omega) (by omega) (Nat.le_refl _)
      have HGR := Lib.hid hgr
      have HE2 := Lib.hid hb0
      clear hgr hb0 HE
      go_wp2_with (first
        | (go_at_call 62; refine HGR.out.mono ?_; rintro e w6 ⟨rv, G, rfl, hpe, hne, hrows, -, hF6⟩; have HX6 := Lib.hid (hF6.blkOf HM.out.parts HBX.out (by decide) (by decide) (by decide) (by decide)); have HRV := Lib.hid (rows_one hrows k); have HPE := Lib.hid hpe; have HNE := Lib.hid hne; have HROWS := Lib.hid hrows; have HF6 := Lib.hid hF6; clear hpe hne hrows hF6)
        | (with_reducible show wpList _ _ _ (Oper.mk _ (Op.store 25 _ _) _ _ _ _ :: _) _ _; (refine wpList_storeB (vs := [.int .i64 k, rv]) HX6.out Try.size25 rfl rfl HRV.out rfl _ _ rfl rfl rfl ?_)))
      have hb6 := HB.out.trans (HF6.out.below (base := w.heap.size) (Nat.le_succ _) hbsz (fun b hb => by have := (World.ownsRow.lt HM.out.ups b hb).1; omega) (fun b hb => by have := (World.ownsRow.lt HM.out.hass b hb).1; omega) (fun b hb => by have := (World.ownsRow.lt HM.out.todos b hb).1; omega))
      have hr1 := HX6.out.set 0 (.int .i64 k)
      have hrow := ((HROWS.out.mono hbsz).other HX6.out (by decide) (by decide) 0 (.int .i64 k)).other hr1 (by decide) (by decide) 1 rv
      have hfold := settled_fold HI.out HT.out
      have hgo := graph_of (N := y.n) (by omega : k ≤ 26) hfold (HI.out.lt 0 (by omega)) (fun v p u h => (settled_bound HI.out h).1) HPE.out HNE.out
        (S := setS ss) (fun a ha => by
          obtain ⟨s, hs, rfl⟩ := ha
          obtain ⟨i, hi, rfl⟩ := List.mem_iff_getElem.1 hs
          exact settled_along HI.out HT.out (HA.out i _ (by rw [HN.out] at hi; exact hi) (List.getElem?_eq_getElem hi)))
        (fun g hg => settled_sound HI.out (by omega) HP.out hg)
      have hlo0 : y.R 0 < 5000 := by have := HI.out.lt 0 (by omega); omega
      have hlo1 : ∀ v p u, nxG (nxF y) G v p = some u → u < 5000 ∧ p < 2 * k := fun v p u h => by
        have := settled_bound HI.out (nxG_some.1 h).1
        exact ⟨by omega, this.2⟩
      exact bodyPost_ret (ret13 (M := [.int .i64 k, rv]) rfl rfl rfl (hr1.set 1 rv)) rfl ⟨below_setCells (Nat.le_refl _) [.int .i64 k, rv] 0 hb6, .inr ⟨HE2.out, rv, _, rfl, ⟨_, _, hgo, ⟨hlo0, hlo1⟩, rfl⟩, hrow⟩⟩
end Go.Proofs.Ytlooclpfoeakgaa

/- Lists of edges in memory: two vertices are made one: the walk. -/
namespace Go.Proofs.Ytlooclpfoeakgaa
open Go.RowKit

def edL (l : List Ed) : List Int := (l.map fun e => [(e.1 : Int), (e.2.1 : Int), (e.2.2 : Int)]).flatten
theorem edL_cons (e : Ed) (l : List Ed) : edL (e :: l) = (e.1 : Int) :: (e.2.1 : Int) :: (e.2.2 : Int) :: edL l := rfl
theorem edL_app (l m : List Ed) : edL (l ++ m) = edL l ++ edL m := by unfold edL; simp
theorem edL_len : ∀ l : List Ed, (edL l).length = l.length * 3
  | [] => rfl
  | e :: l => by rw [edL_cons]; simp [edL_len l]; omega
theorem edL_get : ∀ {l : List Ed} {i : Nat} {e : Ed}, l[i]? = some e → (edL l)[i * 3]? = some (e.1 : Int) ∧ (edL l)[i * 3 + 1]? = some (e.2.1 : Int) ∧ (edL l)[i * 3 + 2]? = some (e.2.2 : Int)
  | x :: l, 0, e, h => by
    simp at h; subst h
    exact ⟨rfl, rfl, rfl⟩
  | x :: l, i + 1, e, h => by
    have h2 : l[i]? = some e := by simpa using h
    obtain ⟨a, b, c⟩ := edL_get h2
    rw [edL_cons, show (i + 1) * 3 = i * 3 + 1 + 1 + 1 by omega]
    exact ⟨by simpa using a, by simpa using b, by simpa using c⟩
theorem edL_take : ∀ (l : List Ed) (i : Nat), (edL l).take (i * 3) = edL (l.take i)
  | [], i => by simp [edL]
  | e :: l, 0 => rfl
  | e :: l, i + 1 => by
    rw [edL_cons, show (i + 1) * 3 = i * 3 + 1 + 1 + 1 by omega, List.take_succ_cons, List.take_succ_cons, List.take_succ_cons, edL_take l i]; rfl
theorem edL_drop : ∀ (l : List Ed) (i : Nat), (edL l).drop (i * 3) = edL (l.drop i)
  | [], i => by simp [edL]
  | e :: l, 0 => rfl
  | e :: l, i + 1 => by
    rw [edL_cons, show (i + 1) * 3 = i * 3 + 1 + 1 + 1 by omega]
    simpa using edL_drop l i
/-- edges in memory -/
abbrev OwnE (w : World) (base : Nat) (v : Value) (l : List Ed) : Prop := OwnK w base 102 3 v l.length (edL l)
theorem OwnE.nil (w : World) (base : Nat) : OwnE w base (.slice none 0 0) [] := ⟨rfl, .inl ⟨rfl, rfl⟩⟩
theorem Try.info102 : (Try.prog.info? 102).map (fun i => (i.zero, i.size, i.bytes)) = some (some (.agg #[.int .i64 0, .int .i64 0, .int .i64 0]), 3, 24) := by kernel_rfl
/-- the cells of the i-th edge, in a later world -/
theorem OwnE.cells {w wr : World} {base g n cap : Nat} {l : List Ed} (h : OwnE w base (.slice (some ⟨g, 0, none⟩) n cap) l) (hn : l.length = n) (hb : Below w.heap.size w wr) {i : Nat} {e : Ed} (he : l[i]? = some e) :
    wr.cell? ⟨g, i * 3, none⟩ = some (.int .i64 e.1) ∧ wr.cell? ⟨g, i * 3 + 1, none⟩ = some (.int .i64 e.2.1) ∧ wr.cell? ⟨g, i * 3 + 2, none⟩ = some (.int .i64 e.2.2) := by
  have hi := (List.getElem?_eq_some_iff.1 he).1
  obtain ⟨g2, c2, e2, _, hlt, _, _, _, hcs⟩ := OwnK.open h (by omega)
  obtain ⟨rfl, _, _⟩ : g = g2 ∧ n = l.length ∧ cap = c2 := by simpa using e2
  obtain ⟨a, b, c⟩ := edL_get he
  exact ⟨(hb.cell (p := ⟨g, i * 3, none⟩) hlt).trans (hcs _ _ a), (hb.cell (p := ⟨g, i * 3 + 1, none⟩) hlt).trans (hcs _ _ b), (hb.cell (p := ⟨g, i * 3 + 2, none⟩) hlt).trans (hcs _ _ c)⟩

set_option maxRecDepth 100000 in
set_option maxHeartbeats 4000000 in
theorem joined_any (w : World) (base : Nat) (v : Value) (l : List Ed) (a b : Nat) (h : OwnE w base v l) (hl : l.length < 100000) :
    Calls Try.prog 111 #[v, .int .i64 a, .int .i64 b] w fun e w' => ∃ rv, e = .returned rv ∧ OwnE w' w.heap.size rv (l.map (renE (max a b) (min a b))) ∧ Below w.heap.size w w' := by
  obtain ⟨n, hn⟩ : ∃ n, l.length = n := ⟨_, rfl⟩
  have h9 : OwnK w base 102 3 v n (edL l) := by rw [← hn]; exact h
  obtain ⟨va, vc, rfl, hv1, hv2, -⟩ := row_shape h9
  obtain ⟨F, hF⟩ : ∃ F, max a b = F := ⟨_, rfl⟩
  obtain ⟨T, hT⟩ : ∃ T, min a b = T := ⟨_, rfl⟩
  have hmin : min (a : Int) b = T := by omega
  have hmax : max (a : Int) b = F := by omega
  rw [hF, hT]
  rw [hn] at hl
  have HH := Lib.hid h
  have HN := Lib.hid hn
  have HO : Hid (OwnE w w.heap.size (.slice none 0 0) ((l.take 0).map (renE F T))) := Lib.hid (OwnE.nil _ _)
  have HB := Lib.hid (Below.refl w.heap.size w)
  clear h hn hF hT h9
  go_enter Try.func111, Try.ntmps111
  go_wp2_with fail
  go_loopw [10, 9] (fun iv ov wr => ∃ (i : Nat) (lw : Value), i ≤ n ∧ iv = .int .i64 i ∧ lw = ov ∧ Hid (OwnE wr w.heap.size lw ((l.take i).map (renE F T))) ∧ Hid (Below w.heap.size w wr)) (fun iv _ _ => n - (intOf iv).toNat)
  case atStart => exact ⟨0, _, by omega, rfl, rfl, HO, HB⟩
  case round =>
    clear HO HB
    obtain ⟨i, ov, hi, rfl, rfl, HO, HB⟩ := hrel
    have hbsz := HB.out.size
    by_cases hlt : i < n
    · obtain ⟨e, he⟩ : ∃ e, l[i]? = some e := ⟨_, List.getElem?_eq_getElem (by rw [HN.out]; exact hlt)⟩
      obtain ⟨g, c2, e2, -, -, -, -, -, -⟩ := OwnK.open HH.out (by rw [HN.out]; omega)
      obtain ⟨rfl, -, rfl⟩ : va = some ⟨g, 0, none⟩ ∧ n = l.length ∧ vc = c2 := by simpa using e2
      obtain ⟨c0, c1, c2⟩ := HH.out.cells HN.out HB.out he
      have hP1 : (l.take (i + 1)).map (renE F T) = (l.take i).map (renE F T) ++ [renE F T e] := by rw [List.take_add_one, he]; simp
      obtain ⟨P, hP⟩ : ∃ P, (l.take i).map (renE F T) = P := ⟨_, rfl⟩
      have hPl : P.length ≤ i := by rw [← hP]; simp; omega
      rw [hP] at HO hP1
      obtain ⟨e1, m, e3⟩ := e
      simp only at c0 c1 c2
      by_cases h1 : e1 = F
      · subst h1
        by_cases h2 : e3 = e1
        · subst h2
          have HP1 : Hid ((l.take (i + 1)).map (renE e3 T) = P ++ [(T, m, T)]) := Lib.hid (by rw [hP1]; simp [renE])
          clear hP hP1 he
          have hbase : w.heap.size ≤ ((wr.alloc (.cells (I64s [(T : Int), (m : Int), (T : Int)]).toArray 102)).alloc (.cells (I64s [(T : Int), (m : Int), (T : Int)]).toArray 102)).heap.size := by simp; omega
          have HBS := Lib.hid hbase
          have hoa : OwnE ((wr.alloc (.cells (I64s [(T : Int), (m : Int), (T : Int)]).toArray 102)).alloc (.cells (I64s [(T : Int), (m : Int), (T : Int)]).toArray 102)) w.heap.size ov P := World.ownsRow.keep (World.ownsRow.keep HO.out ((Below.refl _ _).alloc (Nat.le_refl _) _)) ((Below.refl _ _).alloc (Nat.le_refl _) _)
          have HOA := Lib.hid hoa
          have hba : Below w.heap.size w ((wr.alloc (.cells (I64s [(T : Int), (m : Int), (T : Int)]).toArray 102)).alloc (.cells (I64s [(T : Int), (m : Int), (T : Int)]).toArray 102)) := (HB.out.alloc hbsz _).alloc (by simp; omega) _
          have HBA := Lib.hid hba
          clear hbase hoa hba HO HB
          go_wp2_with (at_builtin; refine wpList_appK Try.info102 rfl (by decide) (by decide) Try.underlying100 HOA.out (by omega) rfl (.tmp 40) (.tmp 42) rfl (by simp [Act.eval]) (by simp [Act.eval]) (Blk.new (wr.alloc (.cells (I64s [(T : Int), (m : Int), (T : Int)]).toArray 102)) 102 (I64s [(T : Int), (m : Int), (T : Int)])) rfl HBS.out _ rfl ?_; intro g6 cap6 w6 hown6 hgrow6 hat6 hlt6)
          have hlo := World.ownsRow.lt HOA.out
          have G1 : Hid (OwnE w6 w.heap.size (.slice (some ⟨g6, 0, none⟩) (P.length + 1) cap6) ((l.take (i + 1)).map (renE e3 T))) := Lib.hid (by rw [HP1.out]; unfold OwnE; rw [edL_app, List.length_append]; exact hown6)
          have G2 := Lib.hid (HBA.out.grown hgrow6 HBS.out (fun k e => (hlo k e).1))
          clear hlo hown6 hgrow6 hat6 hlt6 HOA HBA HBS
          go_roundw
          case rel => exact ⟨i + 1, _, by omega, by go_num, rfl, G1, G2⟩
          case measure => simp [intOf]; omega

        · have h2I : ¬ ((e3 : Int) = e1) := by omega
          have HP1 : Hid ((l.take (i + 1)).map (renE e1 T) = P ++ [(T, m, e3)]) := Lib.hid (by rw [hP1]; simp [renE, h2])
          clear hP hP1 he h2
          have hbase : w.heap.size ≤ ((wr.alloc (.cells (I64s [(T : Int), (m : Int), (e3 : Int)]).toArray 102)).alloc (.cells (I64s [(T : Int), (m : Int), (e3 : Int)]).toArray 102)).heap.size := by simp; omega
          have HBS := Lib.hid hbase
          have hoa : OwnE ((wr.alloc (.cells (I64s [(T : Int), (m : Int), (e3 : Int)]).toArray 102)).alloc (.cells (I64s [(T : Int), (m : Int), (e3 : Int)]).toArray 102)) w.heap.size ov P := World.ownsRow.keep (World.ownsRow.keep HO.out ((Below.refl _ _).alloc (Nat.le_refl _) _)) ((Below.refl _ _).alloc (Nat.le_refl _) _)
          have HOA := Lib.hid hoa
          have hba : Below w.heap.size w ((wr.alloc (.cells (I64s [(T : Int), (m : Int), (e3 : Int)]).toArray 102)).alloc (.cells (I64s [(T : Int), (m : Int), (e3 : Int)]).toArray 102)) := (HB.out.alloc hbsz _).alloc (by simp; omega) _
          have HBA := Lib.hid hba
          clear hbase hoa hba HO HB
          go_wp2_with (at_builtin; refine wpList_appK Try.info102 rfl (by decide) (by decide) Try.underlying100 HOA.out (by omega) rfl (.tmp 40) (.tmp 42) rfl (by simp [Act.eval]) (by simp [Act.eval]) (Blk.new (wr.alloc (.cells (I64s [(T : Int), (m : Int), (e3 : Int)]).toArray 102)) 102 (I64s [(T : Int), (m : Int), (e3 : Int)])) rfl HBS.out _ rfl ?_; intro g6 cap6 w6 hown6 hgrow6 hat6 hlt6)
          have hlo := World.ownsRow.lt HOA.out
          have G1 : Hid (OwnE w6 w.heap.size (.slice (some ⟨g6, 0, none⟩) (P.length + 1) cap6) ((l.take (i + 1)).map (renE e1 T))) := Lib.hid (by rw [HP1.out]; unfold OwnE; rw [edL_app, List.length_append]; exact hown6)
          have G2 := Lib.hid (HBA.out.grown hgrow6 HBS.out (fun k e => (hlo k e).1))
          clear hlo hown6 hgrow6 hat6 hlt6 HOA HBA HBS
          go_roundw
          case rel => exact ⟨i + 1, _, by omega, by go_num, rfl, G1, G2⟩
          case measure => simp [intOf]; omega

      · have h1I : ¬ ((e1 : Int) = F) := by omega
        by_cases h2 : e3 = F
        · subst h2
          have HP1 : Hid ((l.take (i + 1)).map (renE e3 T) = P ++ [(e1, m, T)]) := Lib.hid (by rw [hP1]; simp [renE, h1])
          clear hP hP1 he h1
          have hbase : w.heap.size ≤ ((wr.alloc (.cells (I64s [(e1 : Int), (m : Int), (T : Int)]).toArray 102)).alloc (.cells (I64s [(e1 : Int), (m : Int), (T : Int)]).toArray 102)).heap.size := by simp; omega
          have HBS := Lib.hid hbase
          have hoa : OwnE ((wr.alloc (.cells (I64s [(e1 : Int), (m : Int), (T : Int)]).toArray 102)).alloc (.cells (I64s [(e1 : Int), (m : Int), (T : Int)]).toArray 102)) w.heap.size ov P := World.ownsRow.keep (World.ownsRow.keep HO.out ((Below.refl _ _).alloc (Nat.le_refl _) _)) ((Below.refl _ _).alloc (Nat.le_refl _) _)
          have HOA := Lib.hid hoa
          have hba : Below w.heap.size w ((wr.alloc (.cells (I64s [(e1 : Int), (m : Int), (T : Int)]).toArray 102)).alloc (.cells (I64s [(e1 : Int), (m : Int), (T : Int)]).toArray 102)) := (HB.out.alloc hbsz _).alloc (by simp; omega) _
          have HBA := Lib.hid hba
          clear hbase hoa hba HO HB
          go_wp2_with (at_builtin; refine wpList_appK Try.info102 rfl (by decide) (by decide) Try.underlying100 HOA.out (by omega) rfl (.tmp 40) (.tmp 42) rfl (by simp [Act.eval]) (by simp [Act.eval]) (Blk.new (wr.alloc (.cells (I64s [(e1 : Int), (m : Int), (T : Int)]).toArray 102)) 102 (I64s [(e1 : Int), (m : Int), (T : Int)])) rfl HBS.out _ rfl ?_; intro g6 cap6 w6 hown6 hgrow6 hat6 hlt6)
          have hlo := World.ownsRow.lt HOA.out
          have G1 : Hid (OwnE w6 w.heap.size (.slice (some ⟨g6, 0, none⟩) (P.length + 1) cap6) ((l.take (i + 1)).map (renE e3 T))) := Lib.hid (by rw [HP1.out]; unfold OwnE; rw [edL_app, List.length_append]; exact hown6)
          have G2 := Lib.hid (HBA.out.grown hgrow6 HBS.out (fun k e => (hlo k e).1))
          clear hlo hown6 hgrow6 hat6 hlt6 HOA HBA HBS
          go_roundw
          case rel => exact ⟨i + 1, _, by omega, by go_num, rfl, G1, G2⟩
          case measure => simp [intOf]; omega

        · have h2I : ¬ ((e3 : Int) = F) := by omega
          have HP1 : Hid ((l.take (i + 1)).map (renE F T) = P ++ [(e1, m, e3)]) := Lib.hid (by rw [hP1]; simp [renE, h1, h2])
          clear hP hP1 he h1 h2
          have hbase : w.heap.size ≤ ((wr.alloc (.cells (I64s [(e1 : Int), (m : Int), (e3 : Int)]).toArray 102)).alloc (.cells (I64s [(e1 : Int), (m : Int), (e3 : Int)]).toArray 102)).heap.size := by simp; omega
          have HBS := Lib.hid hbase
          have hoa : OwnE ((wr.alloc (.cells (I64s [(e1 : Int), (m : Int), (e3 : Int)]).toArray 102)).alloc (.cells (I64s [(e1 : Int), (m : Int), (e3 : Int)]).toArray 102)) w.heap.size ov P := World.ownsRow.keep (World.ownsRow.keep HO.out ((Below.refl _ _).alloc (Nat.le_refl _) _)) ((Below.refl _ _).alloc (Nat.le_refl _) _)
          have HOA := Lib.hid hoa
          have hba : Below w.heap.size w ((wr.alloc (.cells (I64s [(e1 : Int), (m : Int), (e3 : Int)]).toArray 102)).alloc (.cells (I64s [(e1 : Int), (m : Int), (e3 : Int)]).toArray 102)) := (HB.out.alloc hbsz _).alloc (by simp; omega) _
          have HBA := Lib.hid hba
          clear hbase hoa hba HO HB
          go_wp2_with (at_builtin; refine wpList_appK Try.info102 rfl (by decide) (by decide) Try.underlying100 HOA.out (by omega) rfl (.tmp 40) (.tmp 42) rfl (by simp [Act.eval]) (by simp [Act.eval]) (Blk.new (wr.alloc (.cells (I64s [(e1 : Int), (m : Int), (e3 : Int)]).toArray 102)) 102 (I64s [(e1 : Int), (m : Int), (e3 : Int)])) rfl HBS.out _ rfl ?_; intro g6 cap6 w6 hown6 hgrow6 hat6 hlt6)
          have hlo := World.ownsRow.lt HOA.out
          have G1 : Hid (OwnE w6 w.heap.size (.slice (some ⟨g6, 0, none⟩) (P.length + 1) cap6) ((l.take (i + 1)).map (renE F T))) := Lib.hid (by rw [HP1.out]; unfold OwnE; rw [edL_app, List.length_append]; exact hown6)
          have G2 := Lib.hid (HBA.out.grown hgrow6 HBS.out (fun k e => (hlo k e).1))
          clear hlo hown6 hgrow6 hat6 hlt6 HOA HBA HBS
          go_roundw
          case rel => exact ⟨i + 1, _, by omega, by go_num, rfl, G1, G2⟩
          case measure => simp [intOf]; omega

    · obtain rfl : i = n := by omega
      have hO := HO.out
      rw [List.take_of_length_le (by rw [HN.out]; exact Nat.le_refl _)] at hO
      have HO2 := Lib.hid hO
      clear hO HO
      go_wp2_with fail
      go_ret
      exact ⟨_, rfl, HO2.out, HB.out⟩
end Go.Proofs.Ytlooclpfoeakgaa

/- Edges are numbered, in the reference: how it lies. -/
namespace Go.Proofs.Ytlooclpfoeakgaa
open Go.RowKit

/-- the numbering under way -/
structure NumR (w : World) (B gb mb ob oc n k : Nat) (l : List Nat) (g : List (List Int)) (rv : Value) (q : Nat → Prop) : Prop where
  gB : B ≤ gb
  mB : B ≤ mb
  box : Blk w gb 32 [.int .i64 k, rv]
  ord : OwnK w B 3 1 (.slice (some ⟨ob, 0, none⟩) l.length oc) l.length (l.map fun (u : Nat) => (u : Int))
  map : MapI w mb n (fun u => (posOf u l).map fun (m : Nat) => (m : Int))
  rows : RowsAt w B rv g fun b => b ≠ ob ∧ q b
theorem NumR.oB {w : World} {B gb mb ob oc n k : Nat} {l : List Nat} {g : List (List Int)} {rv : Value} {q : Nat → Prop} (h : NumR w B gb mb ob oc n k l g rv q) : B ≤ ob ∧ ob < w.heap.size := World.ownsRow.lt h.ord ob rfl
theorem NumR.congr {w w2 : World} {B gb mb ob oc n k : Nat} {l : List Nat} {g : List (List Int)} {rv : Value} {q : Nat → Prop} (h : NumR w B gb mb ob oc n k l g rv q) (he : ∀ i, B ≤ i → i < w.heap.size → w2.heap[i]? = w.heap[i]?) : NumR w2 B gb mb ob oc n k l g rv q :=
  ⟨h.gB, h.mB, (he gb h.gB h.box.lt).trans h.box, row_congr h.ord fun i hi => he i (World.ownsRow.lt h.ord i hi).1 (World.ownsRow.lt h.ord i hi).2, h.map.congr (he mb h.mB h.map.lt), h.rows.congr (fun i h1 h2 _ => he i h1 h2) (fun _ _ h => h)⟩
theorem NumR.kept {w w2 : World} {B gb mb ob oc n k : Nat} {l : List Nat} {g : List (List Int)} {rv : Value} {q q2 : Nat → Prop} (h : NumR w B gb mb ob oc n k l g rv q) (hq : ∀ b, b < w.heap.size → q b → q2 b) (he : ∀ i, B ≤ i → i < w.heap.size → w2.heap[i]? = w.heap[i]?) : NumR w2 B gb mb ob oc n k l g rv q2 :=
  have h1 := h.congr he
  ⟨h1.gB, h1.mB, h1.box, h1.ord, h1.map, h.rows.congr (fun i h1 h2 _ => he i h1 h2) (fun b hb h => ⟨h.1, hq b hb h.2⟩)⟩
section
variable {w w2 : World} {B gb mb ob oc n k : Nat} {l : List Nat} {g : List (List Int)} {rv : Value} {q : Nat → Prop}
/-- the number of what is met is put in -/
theorem NumR.mapped (h : NumR w B gb mb ob oc n k l g rv q) (hg : w.grownBy w2 (some mb)) : Blk w2 gb 32 [.int .i64 k, rv] ∧ OwnK w2 B 3 1 (.slice (some ⟨ob, 0, none⟩) l.length oc) l.length (l.map fun (u : Nat) => (u : Int)) ∧ RowsAt w2 B rv g fun b => b < w.heap.size ∧ b ≠ ob ∧ q b := by
  obtain ⟨vs, r1, r2⟩ := id h.rows
  refine ⟨(hg.block gb h.box.lt (fun e => map_nb h.map h.box (Option.some.inj e))).trans h.box, World.ownsRow.kept h.ord hg (.inr (fun e => map_ne h.ord h.map rfl (Option.some.inj e))), vs, World.ownsRow.kept r1 hg ?_, fun i r hr => ?_⟩
  · cases hrv : rv.ownBlock with
    | none => exact .inl rfl
    | some b => exact .inr (fun e => map_ne r1 h.map hrv (Option.some.inj e))
  · obtain ⟨u, u1, u2, u3⟩ := r2 i r hr
    refine ⟨u, u1, World.ownsRow.kept u2 hg ?_, fun b hb => ⟨(World.ownsRow.lt u2 b hb).2, u3 b hb⟩⟩
    cases huv : u.ownBlock with
    | none => exact .inl rfl
    | some b => exact .inr (fun e => map_ne u2 h.map huv (Option.some.inj e))
end
section
variable {w w2 w3 : World} {B gb mb ob oc n k : Nat} {l : List Nat} {g : List (List Int)} {rv : Value} {q : Nat → Prop}
/-- what is met is put behind -/
theorem NumR.more (h : NumR w B gb mb ob oc n k l g rv q) {u : Nat} {n2 : Nat} {f : Nat → Option Int} (hm : MapI w2 mb n2 f) (hf : ∀ x, f x = (posOf x (l ++ [u])).map fun (m : Nat) => (m : Int)) (hg : w.grownBy w2 (some mb)) {g6 cap : Nat}
    (ho : OwnK w3 B 3 1 (.slice (some ⟨g6, 0, none⟩) (l.length + 1) cap) (l.length + 1) ((l.map fun (u : Nat) => (u : Int)) ++ [(u : Int)])) (hg3 : w2.grownBy w3 (some ob)) (hat : ob = g6 ∨ w2.heap.size ≤ g6) :
    NumR w3 B gb mb g6 cap n2 k (l ++ [u]) g rv q := by
  obtain ⟨m1, m2, vs, r1, r2⟩ := h.mapped hg
  have hbo : some gb ≠ some ob := row_blk m2 m1 (by decide)
  have hmo : mb ≠ ob := fun e => map_ne m2 hm rfl e.symm
  have hw := hg.size
  refine ⟨h.gB, h.mB, m1.grown hg3 hbo, by simpa using ho, ?_, vs, World.ownsRow.kept r1 hg3 ?_, fun i r hr => ?_⟩
  · have h1 := hm.congr (hg3.block mb hm.lt (fun e => hmo (Option.some.inj e)))
    obtain ⟨D, d1, d2⟩ := h1
    exact ⟨D, d1, fun j hj => by dsimp only; rw [← hf j]; exact d2 j hj⟩
  · exact row_ne r1 m2 (by decide)
  · obtain ⟨v, u1, u2, u3⟩ := r2 i r hr
    refine ⟨v, u1, World.ownsRow.kept u2 hg3 ?_, fun b hb => ?_⟩
    · cases huv : v.ownBlock with
      | none => exact .inl rfl
      | some b => exact .inr (fun e => (u3 b huv).2.1 (Option.some.inj e))
    · obtain ⟨b1, b2, b3⟩ := u3 b hb
      exact ⟨by rcases hat with e | e <;> omega, b3⟩
/-- a row is put behind -/
theorem NumR.rowed {rb : Nat} {r : List Int} (h : NumR w B gb mb ob oc n k l g rv fun b => b ≠ rb) (hr : Blk w rb 3 (I64s r)) (hrB : B ≤ rb) (hrl : r.length ≤ 1000000000) (hro : rb ≠ ob) {vs : List Value} (hv : ∀ (i : Nat) (s : List Int), g[i]? = some s → ∃ u, vs[i]? = some u ∧ OwnK w B 3 1 u s.length s ∧ ∀ b, u.ownBlock = some b → b ≠ ob ∧ b ≠ rb)
    (hvo : w.ownsRow B 54 1 rv g.length vs) {g6 cap : Nat} (ho : w2.ownsRow B 54 1 (.slice (some ⟨g6, 0, none⟩) (g.length + 1) cap) (g.length + 1) (vs ++ [.slice (some ⟨rb, 0, none⟩) r.length r.length])) (hg : w.grownBy w2 rv.ownBlock) :
    NumR (w2.setCell ⟨gb, 1, none⟩ (.slice (some ⟨g6, 0, none⟩) (g.length + 1) cap)) B gb mb ob oc n k l (g ++ [r]) (.slice (some ⟨g6, 0, none⟩) (g.length + 1) cap) fun _ => True := by
  have b1 := h.box.grown hg (fun e => row_blk hvo h.box (by decide) e)
  have o1 := World.ownsRow.kept h.ord hg (row_ne h.ord hvo (by decide))
  have m1 := h.map.congr (hg.block mb h.map.lt (fun e => map_ne hvo h.map e.symm rfl))
  have hvl : vs.length = g.length := by have := hvo.1; omega
  have hmg : mb ≠ gb := fun e => map_nb h.map h.box e.symm
  refine ⟨h.gB, h.mB, by have := b1.set 1 (.slice (some ⟨g6, 0, none⟩) (g.length + 1) cap); exact this, row_other o1 b1 (by decide) _ _, m1.congr (Below.heap_setCell _ _ _ _ hmg), vs ++ [.slice (some ⟨rb, 0, none⟩) r.length r.length], ?_, fun i s hs => ?_⟩
  · rw [List.length_append, List.length_singleton]
    exact row_other ho b1 (by decide) _ _
  · by_cases hi : i < g.length
    · rw [List.getElem?_append_left hi] at hs
      obtain ⟨u, u1, u2, u3⟩ := hv i s hs
      refine ⟨u, by rw [List.getElem?_append_left (by omega)]; exact u1, row_other (World.ownsRow.kept u2 hg (row_ne u2 hvo (by decide))) b1 (by decide) _ _, fun b hb => ⟨(u3 b hb).1, trivial⟩⟩
    · have hi2 : i = g.length := by
        have := (List.getElem?_eq_some_iff.1 hs).1
        simp at this; omega
      subst hi2
      rw [List.getElem?_append_right (Nat.le_refl _), Nat.sub_self] at hs
      simp at hs; subst hs
      refine ⟨_, by rw [List.getElem?_append_right (by omega), hvl, Nat.sub_self]; rfl, row_other (World.ownsRow.kept (hr.own hrB hrl) hg (row_ne (hr.own hrB hrl) hvo (by decide))) b1 (by decide) _ _, fun b hb => ?_⟩
      cases hb
      exact ⟨hro, trivial⟩
end
/-- the row under way is written -/
theorem NumR.setR {w : World} {B gb mb ob oc n k rb : Nat} {l : List Nat} {g : List (List Int)} {rv : Value} {vs : List Value} (h : NumR w B gb mb ob oc n k l g rv fun b => b ≠ rb) (hr : Blk w rb 3 vs) (hro : rb ≠ ob) (p : Nat) (x : Value) : NumR (w.setCell ⟨rb, p, none⟩ x) B gb mb ob oc n k l g rv fun b => b ≠ rb := by
  have e1 : gb ≠ rb := by
    rintro rfl
    have h1 := h.box
    rw [Blk] at h1 hr
    rw [hr] at h1
    simp at h1
  have e2 : mb ≠ rb := fun e => map_nb h.map hr e.symm
  have hh : ∀ i, i ≠ rb → (w.setCell ⟨rb, p, none⟩ x).heap[i]? = w.heap[i]? := fun i hi => Below.heap_setCell _ _ _ i hi
  refine ⟨h.gB, h.mB, h.box.other e1 _, row_congr h.ord fun i hi => hh i ?_, h.map.congr (hh mb e2), ?_⟩
  · have hi : some ob = some i := hi
    cases hi
    exact fun e => hro e.symm
  · obtain ⟨us, r1, r2⟩ := h.rows
    refine ⟨us, row_congr r1 fun i hi => hh i ?_, fun i r hr2 => ?_⟩
    · rintro rfl
      exact row_blk r1 hr (by decide) hi.symm
    · obtain ⟨u, u1, u2, u3⟩ := r2 i r hr2
      exact ⟨u, u1, row_congr u2 fun j hj => hh j (u3 j hj).2, u3⟩
end Go.Proofs.Ytlooclpfoeakgaa
