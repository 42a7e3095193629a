/- Laws on worlds for seat Ymbrcx: slices of items that are read ('Sl'), a block of our own that holds items ('Own'), what a call may turn ('Fr'); make, copy; Less. -/
import Derived.Test.YmbrcxRows
import Derived.Test.YmbrcxPlain
import Derived.WalkKit
import Derived.WalkSpells
import Derived.WalkLawsBesides
import Derived.Lib.QuietBelow
import Derived.BigQuiet
import Derived.Deep.OwnRows
import Derived.Laws.CopyOwn
namespace Go.Proofs.Ymbrcx
open Go.RowKit Go.Sort

/-! ### a slice of items that is read -/
/-- a slice value's address, its length, and what the items are -/
def Sl (w : World) (a : Option Addr) (n : Nat) (d : Nat → It) : Prop :=
  ∃ b off, (1 ≤ n → a = some ⟨b, off, none⟩ ∧ b < w.heap.size) ∧
    ∀ k, k < n → w.cell? ⟨b, off + k * 2, none⟩ = some (.int .i64 (d k).1) ∧ w.cell? ⟨b, off + k * 2 + 1, none⟩ = some (.int .u32 (d k).2)

theorem Sl.below {B : Nat} {w w' : World} {a : Option Addr} {n : Nat} {d : Nat → It} (h : Sl w a n d) (hb : Below B w w') (hB : w.heap.size ≤ B) : Sl w' a n d := by
  obtain ⟨b, off, h1, h2⟩ := h
  refine ⟨b, off, fun hn => ⟨(h1 hn).1, Nat.lt_of_lt_of_le (h1 hn).2 hb.size⟩, fun k hk => ?_⟩
  have hlt : b < B := Nat.lt_of_lt_of_le (h1 (by omega)).2 hB
  exact ⟨(hb.cell hlt).trans (h2 k hk).1, (hb.cell hlt).trans (h2 k hk).2⟩
theorem Sl.congr {w : World} {a : Option Addr} {n : Nat} {d e : Nat → It} (h : Sl w a n d) (he : ∀ k, k < n → d k = e k) : Sl w a n e := by
  obtain ⟨b, off, h1, h2⟩ := h
  exact ⟨b, off, h1, fun k hk => by rw [← he k hk]; exact h2 k hk⟩

/-! ### a block of our own -/
def fc (d : Nat → It) (j : Nat) : Value := if j % 2 = 0 then .int .i64 (d (j / 2)).1 else .int .u32 (d (j / 2)).2
/-- block b holds just m items, none frozen -/
def Own (w : World) (b m : Nat) (d : Nat → It) : Prop := w.rowIs b 25 (m * 2) (fc d)

theorem fc_even (d : Nat → It) (k : Nat) : fc d (k * 2) = .int .i64 (d k).1 := by
  unfold fc
  rw [if_pos (by omega), (by omega : k * 2 / 2 = k)]
theorem fc_odd (d : Nat → It) (k : Nat) : fc d (k * 2 + 1) = .int .u32 (d k).2 := by
  unfold fc
  rw [if_neg (by omega), (by omega : (k * 2 + 1) / 2 = k)]
theorem Own.c0 {w : World} {b m : Nat} {d : Nat → It} (h : Own w b m d) {k : Nat} (hk : k < m) : w.cell? ⟨b, k * 2, none⟩ = some (.int .i64 (d k).1) := by
  rw [← fc_even]; exact World.rowIs.cell h (by omega)
theorem Own.c1 {w : World} {b m : Nat} {d : Nat → It} (h : Own w b m d) {k : Nat} (hk : k < m) : w.cell? ⟨b, k * 2 + 1, none⟩ = some (.int .u32 (d k).2) := by
  rw [← fc_odd]; exact World.rowIs.cell h (by omega)
theorem Own.fz {w : World} {b m : Nat} {d : Nat → It} (h : Own w b m d) (j : Nat) : w.frozen? ⟨b, j, none⟩ = false := World.rowIs.frozen h j
theorem Own.lt {w : World} {b m : Nat} {d : Nat → It} (h : Own w b m d) : b < w.heap.size := World.rowIs.lt h
theorem Own.of_block {w w' : World} {b m : Nat} {d : Nat → It} (h : Own w b m d) (e : w'.heap[b]? = w.heap[b]?) : Own w' b m d := World.rowIs.of_block h e
theorem Own.below {B : Nat} {w w' : World} {b m : Nat} {d : Nat → It} (h : Own w b m d) (hb : Below B w w') (hB : b < B) : Own w' b m d := h.of_block (hb.block b hB)
theorem Own.congr {w : World} {b m : Nat} {d e : Nat → It} (h : Own w b m d) (he : ∀ k, k < m → d k = e k) : Own w b m e :=
  World.rowIs.congr h fun j hj => by unfold fc; rw [he (j / 2) (by omega)]
theorem Own.sl {w : World} {b m : Nat} {d : Nat → It} (h : Own w b m d) {n : Nat} (hn : n ≤ m) : Sl w (some ⟨b, 0, none⟩) n d :=
  ⟨b, 0, fun _ => ⟨rfl, h.lt⟩, fun k hk => ⟨by rw [Nat.zero_add]; exact h.c0 (by omega), by rw [Nat.zero_add]; exact h.c1 (by omega)⟩⟩
/-- one item stored -/
theorem Own.set {w : World} {b m : Nat} {d : Nat → It} (h : Own w b m d) (i : Nat) (x : It) :
    Own ((w.setCell ⟨b, i * 2, none⟩ (.int .i64 x.1)).setCell ⟨b, i * 2 + 1, none⟩ (.int .u32 x.2)) b m (upd d i x) := by
  refine World.rowIs.congr ((World.rowIs.set h (i * 2) _).set (i * 2 + 1) _) fun j hj => ?_
  unfold fc upd
  by_cases h1 : j = i * 2 + 1
  · rw [if_pos h1, if_neg (by omega), if_pos (by omega)]
  · rw [if_neg h1]
    by_cases h2 : j = i * 2
    · rw [if_pos h2, if_pos (by omega), if_pos (by omega)]
    · rw [if_neg h2, if_neg (by omega : ¬ j / 2 = i)]
/-- a priority stored -/
theorem Own.setPrio {w : World} {b m : Nat} {d : Nat → It} (h : Own w b m d) (i : Nat) (p : Int) :
    Own (w.setCell ⟨b, i * 2, none⟩ (.int .i64 p)) b m (upd d i (p, (d i).2)) := by
  refine World.rowIs.congr (World.rowIs.set h (i * 2) _) fun j hj => ?_
  unfold fc upd
  by_cases h2 : j = i * 2
  · rw [if_pos h2, if_pos (by omega), if_pos (by omega)]
  · rw [if_neg h2]
    by_cases h3 : j / 2 = i
    · rw [if_neg (by omega), if_pos h3, h3, if_neg (by omega)]
    · rw [if_neg h3]
theorem Own.drew {w : World} {b m : Nat} {d : Nat → It} (h : Own w b m d) : Own w.drew b m d := h
theorem Own.alloc {w : World} {b m : Nat} {d : Nat → It} (h : Own w b m d) (o : Obj) : Own (w.alloc o) b m d := World.rowIs.alloc h o
theorem Own.setOther {w : World} {b m : Nat} {d : Nat → It} (h : Own w b m d) {a : Addr} (ha : b ≠ a.block) (v : Value) : Own (w.setCell a v) b m d := World.rowIs.setOther h ha v

/-! ### what a call may turn: the blocks of S, and new ones -/
structure Fr (S : Nat → Prop) (w w' : World) : Prop where
  os : w'.os = w.os
  tape : w'.tape = w.tape
  output : w'.output = w.output
  size : w.heap.size ≤ w'.heap.size
  block : ∀ k, k < w.heap.size → ¬ S k → w'.heap[k]? = w.heap[k]?
theorem Fr.refl (S : Nat → Prop) (w : World) : Fr S w w := ⟨rfl, rfl, rfl, Nat.le_refl _, fun _ _ _ => rfl⟩
theorem Fr.trans {S : Nat → Prop} {a b c : World} (h : Fr S a b) (k : Fr S b c) : Fr S a c :=
  ⟨k.os.trans h.os, k.tape.trans h.tape, k.output.trans h.output, Nat.le_trans h.size k.size, fun i hi hs => (k.block i (Nat.lt_of_lt_of_le hi h.size) hs).trans (h.block i hi hs)⟩
theorem Fr.mono {S T : Nat → Prop} {a b : World} (h : Fr S a b) (hst : ∀ k, k < a.heap.size → S k → T k) : Fr T a b :=
  ⟨h.os, h.tape, h.output, h.size, fun k hk hs => h.block k hk (fun hh => hs (hst k hk hh))⟩
theorem Fr.of_below {S : Nat → Prop} {B : Nat} {w w' : World} (h : Below B w w') (hB : w.heap.size ≤ B) : Fr S w w' :=
  ⟨h.os, h.tape, h.output, h.size, fun k hk _ => h.block k (Nat.lt_of_lt_of_le hk hB)⟩
/-- what turned lies from B on -/
theorem Fr.to_below {S : Nat → Prop} {w w' : World} (h : Fr S w w') {B : Nat} (hB : B ≤ w.heap.size) (hS : ∀ k, S k → B ≤ k) : Below B w w' :=
  ⟨h.os, h.tape, h.output, h.size, fun k hk => h.block k (by omega) (fun hs => by have := hS k hs; omega)⟩
theorem Fr.drew {S : Nat → Prop} {a w : World} (h : Fr S a w) : Fr S a w.drew := ⟨h.os, h.tape, h.output, h.size, h.block⟩
theorem Fr.setCell {S : Nat → Prop} {a w : World} (h : Fr S a w) {p : Addr} (hp : S p.block) (u : Value) : Fr S a (w.setCell p u) :=
  h.trans ⟨rfl, rfl, rfl, by simp [World.setCell], fun k _ hs => Below.heap_setCell _ _ _ _ (fun e => hs (e ▸ hp))⟩
theorem Fr.alloc {S : Nat → Prop} {a w : World} (h : Fr S a w) (o : Obj) : Fr S a (w.alloc o) :=
  h.trans ⟨rfl, rfl, rfl, by simp, fun k hk _ => Below.heap_alloc _ _ _ hk⟩
theorem Fr.own {S : Nat → Prop} {w w' : World} {b m : Nat} {d : Nat → It} (h : Fr S w w') (ho : Own w b m d) (hs : ¬ S b) : Own w' b m d := ho.of_block (h.block b ho.lt hs)
theorem Fr.cell {S : Nat → Prop} {w w' : World} (h : Fr S w w') {p : Addr} (hp : p.block < w.heap.size) (hs : ¬ S p.block) : w'.cell? p = w.cell? p := World.cell?_of_block (w := w) (h.block p.block hp hs)
theorem Fr.frozen {S : Nat → Prop} {w w' : World} (h : Fr S w w') {p : Addr} (hp : p.block < w.heap.size) (hs : ¬ S p.block) : w'.frozen? p = w.frozen? p := World.frozen?_of_block (w := w) (h.block p.block hp hs)
theorem Fr.sl {S : Nat → Prop} {w w' : World} (h : Fr S w w') {a : Option Addr} {n : Nat} {d : Nat → It} (hs : Sl w a n d) (hS : ∀ k, S k → ∀ b off, a = some ⟨b, off, none⟩ → b ≠ k) : Sl w' a n d := by
  obtain ⟨b, off, h1, h2⟩ := hs
  refine ⟨b, off, fun hn => ⟨(h1 hn).1, Nat.lt_of_lt_of_le (h1 hn).2 h.size⟩, fun k hk => ?_⟩
  have hn := h1 (by omega)
  have hns : ¬ S b := fun hh => hS b hh b off hn.1 rfl
  exact ⟨(h.cell (p := ⟨b, off + k * 2, none⟩) hn.2 hns).trans (h2 k hk).1, (h.cell (p := ⟨b, off + k * 2 + 1, none⟩) hn.2 hns).trans (h2 k hk).2⟩

/-! ### a region that draws, reads, and calls what lays new blocks alone -/
theorem wp_region_below {P : Program} {id : Nat} {Q : Exit → Act → World → Prop} {a : Act} {w : World} {l : List Oper} (hm : P.follows .mixedOrders = true) (hB : Region.lexB .any l.toArray = true)
    (h : wpQuiet P l.toArray (fun w' => ∃ p : Regrown, w' = grow (redrawn w p.d) p.os) (fun a' => ∀ w', Below w.heap.size w w' → Q .normal a' w') l a) : (Code.region id l.toArray true).wp P Q a w := by
  refine wp_region_quiet (C := fun w' => ∃ p : Regrown, w' = grow (redrawn w p.d) p.os) hm hB ⟨⟨w.drawn + 1, #[]⟩, by rw [grow_empty]; rfl⟩ ?_
  have mono : ∀ (ops : Array Oper) (l : List Oper) (a : Act) (Q1 Q2 : Act → Prop), (∀ a, Q1 a → Q2 a) → wpQuiet P ops (fun w' => ∃ p : Regrown, w' = grow (redrawn w p.d) p.os) Q1 l a → wpQuiet P ops (fun w' => ∃ p : Regrown, w' = grow (redrawn w p.d) p.os) Q2 l a := by
    intro ops l
    induction l with
    | nil => intro a Q1 Q2 hq hh; exact hq _ hh
    | cons o rest ih =>
      intro a Q1 Q2 hq hh
      unfold wpQuiet at hh ⊢
      split
      · rename_i hw
        rw [if_pos hw] at hh
        exact Oper.quiet_mono (fun a' => ih a' Q1 Q2 hq) hh
      · rename_i hw
        rw [if_neg hw] at hh
        exact ih _ Q1 Q2 hq hh
  exact mono _ _ _ _ _ (fun a' hq w' ⟨p, hp⟩ => hq w' (hp ▸ below_regrown w p.d p.os)) h

/-! ### Less -/
set_option maxHeartbeats 400000 in
theorem less_a (p i q j : Int) (w : World) (h : (p != q) = true) :
    Calls Ycxm.prog 15 #[.agg #[.int .i64 p, .int .u32 i], .agg #[.int .i64 q, .int .u32 j]] w fun e w' => e = .returned (.bool (decide (p < q))) ∧ Below w.heap.size w w' := by
  go_enter Ycxm.func15, Ycxm.ntmps15
  go_wp2
  go_ret
  exact ⟨rfl, ((Below.refl _ _).alloc (Nat.le_refl _) _).alloc (by simp) _⟩
set_option maxHeartbeats 400000 in
theorem less_b (p i q j : Int) (w : World) (h : (p != q) = false) :
    Calls Ycxm.prog 15 #[.agg #[.int .i64 p, .int .u32 i], .agg #[.int .i64 q, .int .u32 j]] w fun e w' => e = .returned (.bool (decide (i < j))) ∧ Below w.heap.size w w' := by
  go_enter Ycxm.func15, Ycxm.ntmps15
  go_wp2
  go_ret
  exact ⟨rfl, ((Below.refl _ _).alloc (Nat.le_refl _) _).alloc (by simp) _⟩
theorem less_any (a b : It) (w : World) :
    Calls Ycxm.prog 15 #[.agg #[.int .i64 a.1, .int .u32 a.2], .agg #[.int .i64 b.1, .int .u32 b.2]] w fun e w' => e = .returned (.bool (lt a b)) ∧ Below w.heap.size w w' := by
  unfold lt
  by_cases h : (a.1 != b.1) = true
  · rw [if_pos h]; exact less_a _ _ _ _ _ h
  · rw [if_neg h]; exact less_b _ _ _ _ _ (by simpa using h)

/-! ### make -/
theorem Ycxm.info25 : (Ycxm.prog.info? 25).map (fun i => (i.zero, i.size, i.bytes)) = some (some (.agg #[.int .i64 0, .int .u32 0]), 2, 16) := by kernel_rfl
theorem run_mk (n : Nat) (hn : n ≤ 17592186044416) (w : World) :
    (Instr.makeSlice 29 (.int .i64 (n : Int)) (.int .i64 (n : Int))).run Ycxm.prog w = .ok (.slice (some ⟨w.heap.size, 0, none⟩) n n) (w.alloc (.cells (madeCells #[.int .i64 0, .int .u32 0] (n * 2)) 25)) := by
  obtain ⟨i, hi, hz0, hz1, hz2⟩ := info_parts Ycxm.info25
  have hr := run_make (P := Ycxm.prog) w 29 25 i _ Ycxm.underlying29 hi hz0 .i64 .i64 n n (by omega) (Int.le_refl _) (by rw [hz2]; omega) (by omega)
  simp only [Int.toNat_natCast, hz1] at hr
  exact hr
theorem own_made (w : World) (n : Nat) : Own (w.alloc (.cells (madeCells #[.int .i64 0, .int .u32 0] (n * 2)) 25)) w.heap.size n (fun _ => (0, 0)) := by
  refine ⟨_, Go.Deep.blk_alloc_new _ _, size_madeCells _ _, fun j hj => ?_⟩
  unfold fc
  by_cases h : j % 2 = 0
  · simp [madeCells, hj, h]
  · have h1 : j % 2 = 1 := by omega
    simp [madeCells, hj, h1]

/-! ### copy -/
/-- the cells of the first n items -/
def fcs (d : Nat → It) (n : Nat) : List Value := (List.range (n * 2)).map (fc d)
theorem fcs_len (d : Nat → It) (n : Nat) : (fcs d n).length = n * 2 := by simp [fcs]
theorem run_cp (n cap1 cap2 : Nat) (ty : TypeId) (b : Nat) (a : Option Addr) (w : World) (d e : Nat → It) (ho : Own w b n e) (hs : Sl w a n d) :
    ∃ w', (Builtin.copy_ #[29, 29] ty #[.slice (some ⟨b, 0, none⟩) n cap1, .slice a n cap2]).run Ycxm.prog w = .ok (goInt n) w' ∧ Own w' b n d ∧ Fr (· = b) w w' := by
  obtain ⟨i, hi, hz0, hz1, hz2⟩ := info_parts Ycxm.info25
  have hu := run_underlying (P := Ycxm.prog) Ycxm.underlying29
  obtain ⟨cur, hg, hsz, hc⟩ := ho
  by_cases h0 : n = 0
  · subst h0
    refine ⟨w, ?_, ⟨cur, hg, hsz, fun j hj => by omega⟩, Fr.refl _ _⟩
    cases a <;> simp [Builtin.copy_, hu, Builtin.lenOf, Builtin.firstCells, sizeOf, typeInfo, hi, storeCells, loadCells, loadCellsFrom]
  · obtain ⟨sb, off, h1, h2⟩ := hs
    obtain ⟨rfl, hlt⟩ := h1 (by omega)
    have hl := run_loadCells_list (P := Ycxm.prog) w ⟨sb, off, none⟩ (fcs d n) (fun j v hv => by
      have hj : j < n * 2 := by have := (List.getElem?_eq_some_iff.1 hv).1; rw [fcs_len] at this; exact this
      have e1 : v = fc d j := by
        rw [fcs, List.getElem?_map, List.getElem?_range hj] at hv
        simpa using hv.symm
      subst e1
      rw [Go.WideShapes.add_plain]
      have hk := h2 (j / 2) (by omega)
      unfold fc
      by_cases hp : j % 2 = 0
      · rw [if_pos hp]
        have : off + j / 2 * 2 = off + j := by omega
        rw [this] at hk
        exact hk.1
      · rw [if_neg hp]
        have : off + j / 2 * 2 + 1 = off + j := by omega
        rw [this] at hk
        exact hk.2)
    have hst := run_storeCells_at Ycxm.prog b 0 25 (fcs d n) 0 cur w hg (by simp [fcs_len, hsz]) (fun v hv => by
      simp only [fcs, List.mem_map, List.mem_range] at hv
      obtain ⟨j, _, rfl⟩ := hv
      unfold fc
      split <;> rfl)
    rw [fcs_len] at hl
    have hd : List.drop (0 + 0 + (fcs d n).length) cur.toList = [] := List.drop_eq_nil_of_le (by simp [fcs_len, hsz])
    rw [hd, Nat.add_zero, List.take_zero, List.nil_append, List.append_nil] at hst
    refine ⟨w.setRow b (fcs d n).toArray, ?_, ?_, ?_⟩
    · simp [Builtin.copy_, hu, Builtin.lenOf, Builtin.firstCells, sizeOf, typeInfo, hi, hz1, hl, hst]
    · exact ⟨_, setRow_heap w b _ _ 25 _ hg, by simp [fcs_len], fun j hj => by simp [fcs, hj]⟩
    · exact ⟨rfl, rfl, rfl, by simp [World.setRow], fun k _ hs => setRow_other w b k _ (fun e => hs e)⟩

/-! ### what fits a kind, as bounds -/
theorem bd_u8 {n : Int} (h : (Lit.int .u8 n).wf = true) : 0 ≤ n ∧ n ≤ 255 := by
  simp [Lit.wf, IntKind.min, IntKind.max, IntKind.signed, IntKind.bits] at h
  omega
theorem bd_u16 {n : Int} (h : (Lit.int .u16 n).wf = true) : 0 ≤ n ∧ n ≤ 65535 := by
  simp [Lit.wf, IntKind.min, IntKind.max, IntKind.signed, IntKind.bits] at h
  omega
theorem bd_u32 {n : Int} (h : (Lit.int .u32 n).wf = true) : 0 ≤ n ∧ n ≤ 4294967295 := by
  simp [Lit.wf, IntKind.min, IntKind.max, IntKind.signed, IntKind.bits] at h
  omega
theorem bd_i32 {n : Int} (h : (Lit.int .i32 n).wf = true) : -2147483648 ≤ n ∧ n ≤ 2147483647 := by
  simp [Lit.wf, IntKind.min, IntKind.max, IntKind.signed, IntKind.bits] at h
  omega
theorem bd_u64 {n : Int} (h : (Lit.int .u64 n).wf = true) : 0 ≤ n ∧ n ≤ 18446744073709551615 := by
  simp [Lit.wf, IntKind.min, IntKind.max, IntKind.signed, IntKind.bits] at h
  omega
theorem bd_i64 {n : Int} (h : (Lit.int .i64 n).wf = true) : -9223372036854775808 ≤ n ∧ n ≤ 9223372036854775807 := by
  simp [Lit.wf, IntKind.min, IntKind.max, IntKind.signed, IntKind.bits] at h
  omega

end Go.Proofs.Ymbrcx
