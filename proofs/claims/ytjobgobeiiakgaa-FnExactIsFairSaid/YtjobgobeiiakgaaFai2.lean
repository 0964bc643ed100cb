/- Channels that are fair: the program's IsFair. -/
import Derived.Test.YtjobgobeiiakgaaFai
import Derived.Deep.RegionHeld3
import Derived.Deep.Cut
namespace Go.Proofs.Ytjobgobeiiakgaa
set_option linter.unusedSimpArgs false
set_option linter.unusedVariables false
open Go.RowKit
open Ieee

theorem rows_ch {xs : List Nat} {a m : Nat} (hl : xs.length = a * m) (m1 : 1 ≤ m) (h : ∀ k, k < a → rowB (rowOf xs m k) = true) : ∀ x ∈ xs, Ch x := by
  intro x hx
  obtain ⟨t, ht, rfl⟩ := List.mem_iff_getElem.1 hx
  have hk : t / m < a := Nat.div_lt_of_lt_mul (by rw [Nat.mul_comm]; omega)
  have hg := rowOf_getElem? (xs := xs) (m := m) (k := t / m) (l := t % m) (Nat.mod_lt _ m1)
  rw [Nat.div_add_mod', List.getElem?_eq_getElem ht] at hg
  exact oneB_ch (rowB_one (h _ hk)).2.2 _ (List.mem_iff_getElem?.2 ⟨_, hg⟩)
theorem alAll_congr {f g : Nat → List Nat} {n : Nat} (h : ∀ k, k < n → f k = g k) : alAll f n = alAll g n := by
  unfold alAll
  rw [Bool.eq_iff_iff, List.all_eq_true, List.all_eq_true]
  constructor
  · intro hh k hk
    have := hh k hk
    rw [List.mem_range] at hk
    rw [← h k hk, ← h 0 (by omega)]; exact this
  · intro hh k hk
    have := hh k hk
    rw [List.mem_range] at hk
    rw [h k hk, h 0 (by omega)]; exact this

set_option maxRecDepth 4000 in
set_option maxHeartbeats 4000000 in
theorem impl_IsFair (w : World) (i j : Int) (hi : I64 i) (hj : I64 j) (v : Value) (xs : List Nat) (hv : SlR w v (xs.map (Value.float .f32))) (hx : ∀ x ∈ xs, x < 4294967296) (_ : xs.length ≤ 1048576) :
    Calls Try.prog 23 #[.agg #[.int .i64 i, .int .i64 j, v]] w fun e w' => e = .returned (.tuple #[.bool (out_IsFair i j xs).1, .bool (out_IsFair i j xs).2]) ∧ Below w.heap.size w w' := by
  obtain ⟨ad, n, c, rfl, -⟩ := SlR.opened 0 hv
  have HVC : Hid (∀ W, Below w.heap.size w W → Calls Try.prog 64 #[.agg #[.int .i64 i, .int .i64 j, .slice ad n c]] W fun e w' => e = .returned (.bool (validCh i j xs)) ∧ Below W.heap.size W w') := Lib.hid fun W hW => implValidChannel_any i j _ xs W (hv.below hW) hx hi hj
  have hb0 : Below w.heap.size w (w.alloc (.cells #[.int .i64 i, .int .i64 j, .slice ad n c] 43)) := by go_grown
  cases hd : validCh i j xs
  · rw [show out_IsFair i j xs = (false, false) by unfold out_IsFair; rw [hd]; rfl]
    rw [hd] at HVC
    clear hd
    go_enter Try.func23, Try.ntmps23
    go_wp2_with (go_at_call 64; refine (HVC.out _ hb0).mono ?_; rintro e w1 ⟨rfl, hb1⟩)
    go_ret2
    exact ⟨rfl, hb0.trans (hb1.mono hb0.size)⟩
  · obtain ⟨a, m, rfl, rfl, a1, a2, m1, m2, hl, hrow⟩ := validCh_nat hd
    rw [hd] at HVC
    have hch := rows_ch hl m1 hrow
    have htl : (turnOf xs m a m).length = m * a := turnOf_length xs m a m
    obtain ⟨r1, hr1⟩ : ∃ r, r = alAll (fun k => rowOf xs m k) a := ⟨_, rfl⟩
    obtain ⟨r2, hr2⟩ : ∃ r, r = alAll (fun k => colOf xs m k a) m := ⟨_, rfl⟩
    rw [show out_IsFair a m xs = (r1 && r2, true) by unfold out_IsFair; rw [hd, hr1, hr2]; rfl]
    have hr3 : alAll (fun k => rowOf (turnOf xs m a m) a k) m = r2 := by rw [hr2]; exact alAll_congr (fun k hk => rowOf_turn xs m a k hk)
    have HT : Hid (∀ W, Below w.heap.size w W → Calls Try.prog 65 #[.agg #[.int .i64 (a : Int), .int .i64 (m : Int), .slice ad n c]] W (RetSt W m a (turnOf xs m a m))) := Lib.hid fun W hW => turned_any a m _ xs W (hv.below hW) a1 a2 m1 m2 hl
    have HA1 : Hid (∀ W, Below w.heap.size w W → Calls Try.prog 66 #[.int .i64 (a : Int), .int .i64 (m : Int), .func (.func 67) #[.agg #[.int .i64 (a : Int), .int .i64 (m : Int), .slice ad n c]] #[]] W fun e w' => e = .returned (.bool r1) ∧ Below W.heap.size W w') := Lib.hid fun W hW => by
      rw [hr1]; exact areAlikeCh_any a a m _ xs W (hv.below hW) a1 a2 m1 m2 hl hch
    have HA2 : Hid (∀ W u, SlR W u ((turnOf xs m a m).map (Value.float .f32)) → Calls Try.prog 66 #[.int .i64 (m : Int), .int .i64 (a : Int), .func (.func 68) #[.agg #[.int .i64 (m : Int), .int .i64 (a : Int), u]] #[]] W fun e w' => e = .returned (.bool r2) ∧ Below W.heap.size W w') := Lib.hid fun W u hu => by
      rw [← hr3]; exact areAlikeTb_any m m a u _ W hu m1 m2 a1 a2 htl (fun x hx => hch x (turnOf_mem (by omega) (Nat.le_refl _) hx))
    have K0 : Hid (∀ W, Below (w.alloc (.cells #[.int .i64 (a : Int), .int .i64 (m : Int), .slice ad n c] 43)).heap.size (w.alloc (.cells #[.int .i64 (a : Int), .int .i64 (m : Int), .slice ad n c] 43)) W → (W.cell? ⟨w.heap.size, 0, none⟩ = some (.int .i64 (a : Int)) ∧ W.cell? ⟨w.heap.size, 1, none⟩ = some (.int .i64 (m : Int)) ∧ W.cell? ⟨w.heap.size, 2, none⟩ = some (.slice ad n c)) ∧ Below w.heap.size w W) := Lib.hid fun W hW => by
      refine ⟨⟨cell_step ?_ hW, cell_step ?_ hW, cell_step ?_ hW⟩, hb0.trans (hW.mono (by simp))⟩ <;> go_cell
    have hbA : Below (w.alloc (.cells #[.int .i64 (a : Int), .int .i64 (m : Int), .slice ad n c] 43)).heap.size (w.alloc (.cells #[.int .i64 (a : Int), .int .i64 (m : Int), .slice ad n c] 43)) (w.alloc (.cells #[.int .i64 (a : Int), .int .i64 (m : Int), .slice ad n c] 43)) := Below.refl _ _
    clear hd hl hrow hch hr1 hr2 hr3 hx hv
    generalize turnOf xs m a m = ts at *
    go_enter Try.func23, Try.ntmps23
    go_upto_region 4 with (first
      | (go_at_call 65; refine (HT.out _ (K0.out _ hb1).2).mono ?_; rintro e w2 ⟨a3, c3, rfl, hO3, hb2⟩; have hb2' := hb1.trans (hb2.mono hb1.size); obtain ⟨⟨g0, g1, g2⟩, hbw2⟩ := K0.out _ hb2')
      | (go_at_call 64; refine (HVC.out _ hb0).mono ?_; rintro e w1 ⟨rfl, hb1⟩; obtain ⟨⟨e0, e1, e2⟩, hbw⟩ := K0.out _ hb1))
    have hbx : Below w2.heap.size w2 (w2.alloc (.cells #[.int .i64 (m : Int), .int .i64 (a : Int), .slice a3 (m * a) c3] 85)) := by go_grown
    have h0 : (w2.alloc (.cells #[.int .i64 (m : Int), .int .i64 (a : Int), .slice a3 (m * a) c3] 85)).cell? ⟨w2.heap.size, 0, none⟩ = some (.int .i64 (m : Int)) := by go_cell
    have h1 : (w2.alloc (.cells #[.int .i64 (m : Int), .int .i64 (a : Int), .slice a3 (m * a) c3] 85)).cell? ⟨w2.heap.size, 1, none⟩ = some (.int .i64 (a : Int)) := by go_cell
    have h2 : (w2.alloc (.cells #[.int .i64 (m : Int), .int .i64 (a : Int), .slice a3 (m * a) c3] 85)).cell? ⟨w2.heap.size, 2, none⟩ = some (.slice a3 (m * a) c3) := by go_cell
    have hs3 := (SlR.own hO3).below hbx
    rw [htl] at hs3
    replace g0 := cell_step g0 hbx
    replace g1 := cell_step g1 hbx
    replace g2 := cell_step g2 hbx
    have hbw3 := hbw2.trans (hbx.mono hbw2.size)
    clear hO3 hb2' hbw2 hb2 hbx HT HVC hbw e0 e1 e2 hb1
    generalize (w2.alloc (.cells #[.int .i64 (m : Int), .int .i64 (a : Int), .slice a3 (m * a) c3] 85)) = w3 at *
    have HA3 := Lib.hid (HA1.out w3 hbw3)
    have HK : Hid (∀ W, Below w3.heap.size w3 W → (W.cell? ⟨w.heap.size, 0, none⟩ = some (.int .i64 (a : Int)) ∧ W.cell? ⟨w.heap.size, 1, none⟩ = some (.int .i64 (m : Int)) ∧ W.cell? ⟨w.heap.size, 2, none⟩ = some (.slice ad n c)) ∧ (W.cell? ⟨w2.heap.size, 0, none⟩ = some (.int .i64 (m : Int)) ∧ W.cell? ⟨w2.heap.size, 1, none⟩ = some (.int .i64 (a : Int)) ∧ W.cell? ⟨w2.heap.size, 2, none⟩ = some (.slice a3 (m * a) c3))) := Lib.hid fun W hW =>
      ⟨⟨cell_step g0 hW, cell_step g1 hW, cell_step g2 hW⟩, cell_step h0 hW, cell_step h1 hW, cell_step h2 hW⟩
    clear HA1 K0
    cases r1
    · go_wp2_with (go_at_call 66; refine HA3.out.mono ?_; rintro e w4 ⟨rfl, hb4⟩)
      go_ret2
      exact ⟨rfl, hbw3.trans (hb4.mono hbw3.size)⟩
    · clear h0 h1 h2
      go_wp2_with (first
        | (go_at_call 66; refine (HA2.out _ _ (hs3.below hb4)).mono ?_; rintro e w5 ⟨rfl, hb5⟩)
        | (go_at_call 66; refine HA3.out.mono ?_; rintro e w4 ⟨rfl, hb4⟩; obtain ⟨⟨e0, e1, e2⟩, f0, f1, f2⟩ := HK.out _ hb4))
      go_ret2
      exact ⟨rfl, hbw3.trans ((hb4.trans (hb5.mono hb4.size)).mono hbw3.size)⟩

end Go.Proofs.Ytjobgobeiiakgaa
