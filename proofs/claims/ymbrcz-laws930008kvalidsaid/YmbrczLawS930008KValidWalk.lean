/- The walk of LawS930008KValid (seat Ymbrcz): the Go text returns true, and writes nothing that was there. -/
import Derived.Test.YmbrczBase
import Derived.Test.YmbrczKplain
import Derived.Test.YmbrczKheap
import Derived.Test.YmbrczFrom
namespace Go.Proofs.Ymbrcz.lawS930008KValid
open Go.RowKit Go.Sort
set_option linter.unusedVariables false

theorem walk_long (a : Option Addr) (n cap : Nat) (id : Int) (pick : Bool) (prio : Int) (w : World) (hn : ¬ n ≤ 1024) (hm : n ≤ maxLen) :
    Calls Yczm.prog 10 #[.slice a n cap, .int .u32 id, .bool pick, .int .i64 prio] w fun e w' => e = .returned (.bool true) ∧ Below w.heap.size w w' := by
  unfold maxLen at hm
  go_enter Yczm.func10, Yczm.ntmps10
  go_wp2
  go_ret
  exact ⟨rfl, Below.refl _ _⟩

set_option maxHeartbeats 2000000 in
theorem walk_main (a : Option Addr) (n cap : Nat) (d : Nat → It) (id : Int) (pick : Bool) (prio : Int) (w : World) (h : Sl w a n d) (hn : n ≤ 1024) (h0 : 0 ≤ id) (h1 : id ≤ 4294967295) :
    Calls Yczm.prog 10 #[.slice a n cap, .int .u32 id, .bool pick, .int .i64 prio] w fun e w' => e = .returned (.bool true) ∧ Below w.heap.size w w' := by
  go_enter Yczm.func10, Yczm.ntmps10
  go_wp2_with fail
  refine (kid_any a n cap d id pick _ h hn h0 h1).mono ?_
  rintro e w0 ⟨rfl, hw⟩
  subst hw
  obtain ⟨key, hkey⟩ : ∃ key, key = kk d n id pick := ⟨_, rfl⟩
  rw [← hkey]
  clear hkey
  go_wp2_with fail
  refine (fromItems_any a n cap d _ h (by omega)).mono ?_
  rintro e w1 ⟨rfl, how1, hb1⟩
  have hbz := how1.lt
  obtain ⟨b, hb⟩ : ∃ b, b = w.heap.size + 1 := ⟨_, rfl⟩
  rw [← hb] at how1 hbz ⊢
  have HB : Hid (w.heap.size ≤ b) := by show _ ≤ b; omega
  clear hb
  have hbl1 := hb1.alloc hb1.size (.cells #[.slice (some ⟨b, 0, none⟩) n n] 27)
  have hH1 : Hp (w1.alloc (.cells #[.slice (some ⟨b, 0, none⟩) n n] 27)) w1.heap.size b n n (mk n d) :=
    ⟨by go_simp, by go_simp, by simp, by omega, how1.alloc _, Nat.le_refl _, by omega⟩
  have hsm := ix_same (mk_same n d) key
  rcases ix_cases (mk n d) key n with ⟨r, hix, hr, _⟩ | hix
  · have hk1 : kf (ix d key n 0) = ((ix d key n 0).1 : Int) := by unfold kf; rw [if_pos (by rw [← hsm, hix])]
    obtain ⟨r2, hr2⟩ : ∃ r2 : Nat, kf (ix d key n 0) = (r2 : Int) := ⟨_, hk1⟩
    have K1 := fun w hs => kfirst_any a n cap d key w hs hn
    rw [hr2] at K1
    have HK1 : Hid (∀ w, Sl w a n d → Calls Yczm.prog 22 #[.slice a n cap, .int .u32 key] w fun e w' => e = .returned (.int .i64 (r2 : Int)) ∧ w = w') := K1
    have HD : Hid (HeapFrom n 0 (fx n (upd (mk n d) r (prio, (mk n d r).2)) r).1) := fx_heap _ hr (mk_heap n d)
    have HIX : Hid (ix (mk n d) key n 0 = (r, true)) := hix
    clear hk1 hr2 K1 hsm hix
    go_wp2_with fail
    refine (update_in w1.heap.size b n n r (mk n d) key prio _ hH1 HIX.out hr hn).mono ?_
    rintro e w2 ⟨rfl, how2, hf2⟩
    have hH2 := hH1.fr hf2 hH1.ne how2
    have hbl2 := hbl1.trans (hf2.to_below hbl1.size (fun x hx => by have := HB.out; omega))
    have g0 := hH2.cell
    have hz2 := hH2.lt
    clear hH1 hbl1 how1 hf2
    go_wp2_with fail
    refine (HK1.out _ (h.below hbl2 (Nat.le_refl _))).mono ?_
    rintro e w3 ⟨rfl, hw⟩
    subst hw
    go_wp2_with fail
    refine (kheap_ok _ n n _ _ (hH2.own.sl (Nat.le_refl _)) hn HD.out).mono ?_
    rintro e w4 ⟨rfl, hb4⟩
    have hbl4 := hbl2.trans (hb4.mono hbl2.size)
    go_wp2
    go_ret
    exact ⟨rfl, hbl4⟩
  · have hk1 : kf (ix d key n 0) = -1 := by unfold kf; rw [if_neg (by rw [← hsm, hix]; exact Bool.false_ne_true)]
    have K1 := fun w hs => kfirst_any a n cap d key w hs hn
    rw [hk1] at K1
    have HK1 : Hid (∀ w, Sl w a n d → Calls Yczm.prog 22 #[.slice a n cap, .int .u32 key] w fun e w' => e = .returned (.int .i64 (-1)) ∧ w = w') := K1
    have HD : Hid (HeapFrom n 0 (mk n d)) := mk_heap n d
    have HIX : Hid (ix (mk n d) key n 0 = (0, false)) := hix
    clear hk1 K1 hsm hix
    go_wp2_with fail
    refine (update_out w1.heap.size b n n (mk n d) key prio _ hH1 HIX.out hn).mono ?_
    rintro e w2 ⟨rfl, hw⟩
    subst hw
    have g0 := hH1.cell
    have hz2 := hH1.lt
    go_wp2_with fail
    refine (HK1.out _ (h.below hbl1 (Nat.le_refl _))).mono ?_
    rintro e w3 ⟨rfl, hw⟩
    subst hw
    go_wp2_with fail
    refine (kheap_ok _ n n _ _ (hH1.own.sl (Nat.le_refl _)) hn HD.out).mono ?_
    rintro e w4 ⟨rfl, hb4⟩
    have hbl4 := hbl1.trans (hb4.mono hbl1.size)
    go_wp2
    go_ret
    exact ⟨rfl, hbl4⟩

theorem walk (a : Option Addr) (n cap : Nat) (d : Nat → It) (id : Int) (pick : Bool) (prio : Int) (w : World) (h : Sl w a n d) (hn : n ≤ maxLen) (w1 : (Lit.int .u32 id).wf = true) (w3 : (Lit.int .i64 prio).wf = true) :
    Calls Yczm.prog 10 #[.slice a n cap, .int .u32 id, .bool pick, .int .i64 prio] w fun e w' => e = .returned (.bool true) ∧ Below w.heap.size w w' := by
  have hb := bd_u32 w1
  by_cases hs : n ≤ 1024
  · exact walk_main a n cap d id pick prio w h hs hb.1 hb.2
  · exact walk_long a n cap id pick prio w hs hn
end Go.Proofs.Ymbrcz.lawS930008KValid
