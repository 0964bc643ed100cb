/- Channels that lose letters, flip them, or make the next ones of them: the program's contracts. -/
import Derived.Test.YtlahmdnlamifnaaLfn
namespace Go.Proofs.Ytlahmdnlamifnaa
set_option linter.unusedSimpArgs false
set_option linter.unusedVariables false
open Go.RowKit

set_option maxHeartbeats 4000000 in
theorem impl_LoseChannel (w : World) (l : Int) (hl : I64 l) (x : Nat) (hx : x < 4294967296) :
    Calls Try.prog 12 #[.int .i64 l, .float .f32 x] w (RetSl w 22 (out_LoseChannel l x).2.2.1.length ((out_LoseChannel l x).2.2.1.map (Value.float .f32)) (fun v => .tuple #[.agg #[.int .i64 (out_LoseChannel l x).1, .int .i64 (out_LoseChannel l x).2.1, v], .bool (out_LoseChannel l x).2.2.2])) := by
  obtain ⟨res, hres⟩ : ∃ res, res = out_LoseChannel l x := ⟨_, rfl⟩
  rw [← hres]
  have hmf : ∀ (fn : Fn) (first cap : Array Value) (w : World), (Instr.makeFunc fn first cap).run Try.prog w = .ok (.func fn first cap) w := fun _ _ _ _ => rfl
  obtain ⟨W3, hW3⟩ : ∃ W3, W3 = ((w.alloc (.cells #[.int .i64 l] 2)).alloc (.cells #[.float .f32 x] 22)).alloc (.cells #[.int .i64 0, .int .i64 0, .slice none 0 0] 25) := ⟨_, rfl⟩
  have hsz : W3.heap.size = w.heap.size + 3 := by rw [hW3]; simp
  have hbw : Below w.heap.size w W3 := by rw [hW3]; go_grown
  have c0 : World.cell? W3 ⟨w.heap.size, 0, none⟩ = some (.int .i64 l) := by rw [hW3]; go_cell
  have c1 : World.cell? W3 ⟨w.heap.size + 1, 0, none⟩ = some (.float .f32 x) := by rw [hW3]; go_cell
  have d0 : World.cell? W3 ⟨w.heap.size + 1 + 1, 0, none⟩ = some (.int .i64 0) := by rw [hW3]; go_cell
  have d1 : World.cell? W3 ⟨w.heap.size + 1 + 1, 1, none⟩ = some (.int .i64 0) := by rw [hW3]; go_cell
  have d2 : World.cell? W3 ⟨w.heap.size + 1 + 1, 2, none⟩ = some (.slice none 0 0) := by rw [hW3]; go_cell
  have z0 : World.frozen? W3 ⟨w.heap.size + 1 + 1, 0, none⟩ = false := by rw [hW3, World.frozen?_alloc_at]; simp
  have z1 : World.frozen? W3 ⟨w.heap.size + 1 + 1, 1, none⟩ = false := by rw [hW3, World.frozen?_alloc_at]; simp
  have z2 : World.frozen? W3 ⟨w.heap.size + 1 + 1, 2, none⟩ = false := by rw [hW3, World.frozen?_alloc_at]; simp
  cases hin : inB l 1 7
  · have HR : Hid (res = (0, 0, [], false)) := by show res = _; rw [hres]; unfold out_LoseChannel; rw [hin]; rfl
    have HI := Lib.hid hin
    clear hin hres
    go_enter Try.func12, Try.ntmps12
    go_wp2_with fail
    rw [← hW3]
    clear hW3
    go_wp2_with (go_at_call 47; refine (within_any _ _ _ _).mono ?_; rw [HI.out]; rintro e w' ⟨rfl, rfl⟩)
    refine bodyPost_ret (v := .tuple #[.agg #[.int .i64 0, .int .i64 0, .slice none 0 0], .bool false]) (by simp [results, Try.results12, go_sem, *]) rfl ?_
    rw [HR.out]
    exact RetSl.nul (f := fun v => .tuple #[.agg #[.int .i64 0, .int .i64 0, v], .bool false]) (((hbw.setCell (p := ⟨w.heap.size + 1 + 1, 0, none⟩) (show w.heap.size ≤ w.heap.size + 1 + 1 by omega) _).setCell (p := ⟨w.heap.size + 1 + 1, 1, none⟩) (show w.heap.size ≤ w.heap.size + 1 + 1 by omega) _).setCell (p := ⟨w.heap.size + 1 + 1, 2, none⟩) (show w.heap.size ≤ w.heap.size + 1 + 1 by omega) _)
  · have hb := inB_true hin
    obtain ⟨n, rfl⟩ : ∃ n : Nat, l = n := ⟨l.toNat, by omega⟩
    cases hs : shB x
    · have HR : Hid (res = (0, 0, [], false)) := by show res = _; rw [hres]; unfold out_LoseChannel; rw [hin, hs]; rfl
      have HI := Lib.hid hin
      have HS := Lib.hid hs
      clear hin hres hs
      go_enter Try.func12, Try.ntmps12
      go_wp2_with fail
      rw [← hW3]
      clear hW3
      go_wp2_with (first | (go_at_call 47; refine (within_any _ _ _ _).mono ?_; rw [HI.out]; rintro e w' ⟨rfl, rfl⟩) | (go_at_call 48; refine (isShare_any _ _ hx).mono ?_; rw [show decide (x ≤ 1065353216 ∨ x = 2147483648) = false from HS.out]; rintro e w' ⟨rfl, rfl⟩))
      refine bodyPost_ret (v := .tuple #[.agg #[.int .i64 0, .int .i64 0, .slice none 0 0], .bool false]) (by simp [results, Try.results12, go_sem, *]) rfl ?_
      rw [HR.out]
      exact RetSl.nul (f := fun v => .tuple #[.agg #[.int .i64 0, .int .i64 0, v], .bool false]) (((hbw.setCell (p := ⟨w.heap.size + 1 + 1, 0, none⟩) (show w.heap.size ≤ w.heap.size + 1 + 1 by omega) _).setCell (p := ⟨w.heap.size + 1 + 1, 1, none⟩) (show w.heap.size ≤ w.heap.size + 1 + 1 by omega) _).setCell (p := ⟨w.heap.size + 1 + 1, 2, none⟩) (show w.heap.size ≤ w.heap.size + 1 + 1 by omega) _)
    · have hR : res = outCh (n : Int) ((n : Int) + 1) (chA (fLose x n) (n + 1) n) := by rw [hres]; unfold out_LoseChannel; rw [hin, hs, Int.toNat_natCast]; rfl
      have HS := Lib.hid hs
      have HI := Lib.hid hin
      have HMD : Hid (Calls Try.prog 49 #[.int .i64 (n : Int), .int .i64 ((n : Int) + 1), .func (.func 50) #[] #[.pointer (some ⟨w.heap.size + 1, 0, none⟩), .pointer (some ⟨w.heap.size, 0, none⟩)]] W3 (RetSl W3 22 res.2.2.1.length (res.2.2.1.map (Value.float .f32)) (fun v => .tuple #[.agg #[.int .i64 res.1, .int .i64 res.2.1, v], .bool res.2.2.2]))) := by
        show Calls _ _ _ _ _
        rw [hR]
        exact madeLose_any _ _ n (n + 1) (fLose x n) W3 (by omega) (by omega) (by omega) (by omega) (fun i k hi hk => fLose_lt HS.out n i k) (fun W i k hW hi hk => clLose_any x n i k _ _ HS.out W ((hW.cell (p := ⟨w.heap.size + 1, 0, none⟩) (show w.heap.size + 1 < W3.heap.size by omega)).trans c1) ((hW.cell (p := ⟨w.heap.size, 0, none⟩) (show w.heap.size < W3.heap.size by omega)).trans c0))
      clear hin hres hs hR
      go_enter Try.func12, Try.ntmps12
      go_wp2_with fail
      rw [← hW3]
      clear hW3
      go_wp2_with (first | (go_at_call 47; refine (within_any _ _ _ _).mono ?_; rw [HI.out]; rintro e w' ⟨rfl, rfl⟩) | (go_at_call 48; refine (isShare_any _ _ hx).mono ?_; rw [show decide (x ≤ 1065353216 ∨ x = 2147483648) = true from HS.out]; rintro e w' ⟨rfl, rfl⟩) | (go_at_call 49; refine HMD.out.mono ?_; rintro e w4 ⟨a4, c4, rfl, ho4, hb4⟩; have d0 := cell_step d0 hb4; have d1 := cell_step d1 hb4; have d2 := cell_step d2 hb4; have z0 := (hb4.frozen (p := ⟨w.heap.size + 1 + 1, 0, none⟩) (show w.heap.size + 1 + 1 < W3.heap.size by omega)).trans z0; have z1 := (hb4.frozen (p := ⟨w.heap.size + 1 + 1, 1, none⟩) (show w.heap.size + 1 + 1 < W3.heap.size by omega)).trans z1; have z2 := (hb4.frozen (p := ⟨w.heap.size + 1 + 1, 2, none⟩) (show w.heap.size + 1 + 1 < W3.heap.size by omega)).trans z2))
      refine bodyPost_ret (v := .tuple #[.agg #[.int .i64 res.1, .int .i64 res.2.1, .slice a4 res.2.2.1.length c4], .bool res.2.2.2]) (by simp [results, Try.results12, go_sem, *]) rfl ?_
      have o1 := ownsRow_setCell_below (a := ⟨w.heap.size + 1 + 1, 0, none⟩) ho4 (show w.heap.size + 1 + 1 < W3.heap.size by omega) (.int .i64 res.1)
      have o2 := ownsRow_setCell_below (a := ⟨w.heap.size + 1 + 1, 1, none⟩) o1 (show w.heap.size + 1 + 1 < W3.heap.size by omega) (.int .i64 res.2.1)
      have o3 := ownsRow_setCell_below (a := ⟨w.heap.size + 1 + 1, 2, none⟩) o2 (show w.heap.size + 1 + 1 < W3.heap.size by omega) (.slice a4 res.2.2.1.length c4)
      have hb5 := hbw.trans (hb4.mono hbw.size)
      exact RetSl.mk (f := fun v => .tuple #[.agg #[.int .i64 res.1, .int .i64 res.2.1, v], .bool res.2.2.2]) (ownsRow_base o3 (by omega)) (((hb5.setCell (p := ⟨w.heap.size + 1 + 1, 0, none⟩) (show w.heap.size ≤ w.heap.size + 1 + 1 by omega) _).setCell (p := ⟨w.heap.size + 1 + 1, 1, none⟩) (show w.heap.size ≤ w.heap.size + 1 + 1 by omega) _).setCell (p := ⟨w.heap.size + 1 + 1, 2, none⟩) (show w.heap.size ≤ w.heap.size + 1 + 1 by omega) _)

set_option maxHeartbeats 4000000 in
theorem impl_NextChannel (w : World) (l : Int) (hl : I64 l) (x : Nat) (hx : x < 4294967296) :
    Calls Try.prog 17 #[.int .i64 l, .float .f32 x] w (RetSl w 22 (out_NextChannel l x).2.2.1.length ((out_NextChannel l x).2.2.1.map (Value.float .f32)) (fun v => .tuple #[.agg #[.int .i64 (out_NextChannel l x).1, .int .i64 (out_NextChannel l x).2.1, v], .bool (out_NextChannel l x).2.2.2])) := by
  obtain ⟨res, hres⟩ : ∃ res, res = out_NextChannel l x := ⟨_, rfl⟩
  rw [← hres]
  have hmf : ∀ (fn : Fn) (first cap : Array Value) (w : World), (Instr.makeFunc fn first cap).run Try.prog w = .ok (.func fn first cap) w := fun _ _ _ _ => rfl
  obtain ⟨W3, hW3⟩ : ∃ W3, W3 = ((w.alloc (.cells #[.int .i64 l] 2)).alloc (.cells #[.float .f32 x] 22)).alloc (.cells #[.int .i64 0, .int .i64 0, .slice none 0 0] 25) := ⟨_, rfl⟩
  have hsz : W3.heap.size = w.heap.size + 3 := by rw [hW3]; simp
  have hbw : Below w.heap.size w W3 := by rw [hW3]; go_grown
  have c0 : World.cell? W3 ⟨w.heap.size, 0, none⟩ = some (.int .i64 l) := by rw [hW3]; go_cell
  have c1 : World.cell? W3 ⟨w.heap.size + 1, 0, none⟩ = some (.float .f32 x) := by rw [hW3]; go_cell
  have d0 : World.cell? W3 ⟨w.heap.size + 1 + 1, 0, none⟩ = some (.int .i64 0) := by rw [hW3]; go_cell
  have d1 : World.cell? W3 ⟨w.heap.size + 1 + 1, 1, none⟩ = some (.int .i64 0) := by rw [hW3]; go_cell
  have d2 : World.cell? W3 ⟨w.heap.size + 1 + 1, 2, none⟩ = some (.slice none 0 0) := by rw [hW3]; go_cell
  have z0 : World.frozen? W3 ⟨w.heap.size + 1 + 1, 0, none⟩ = false := by rw [hW3, World.frozen?_alloc_at]; simp
  have z1 : World.frozen? W3 ⟨w.heap.size + 1 + 1, 1, none⟩ = false := by rw [hW3, World.frozen?_alloc_at]; simp
  have z2 : World.frozen? W3 ⟨w.heap.size + 1 + 1, 2, none⟩ = false := by rw [hW3, World.frozen?_alloc_at]; simp
  cases hin : inB l 2 8
  · have HR : Hid (res = (0, 0, [], false)) := by show res = _; rw [hres]; unfold out_NextChannel; rw [hin]; rfl
    have HI := Lib.hid hin
    clear hin hres
    go_enter Try.func17, Try.ntmps17
    go_wp2_with fail
    rw [← hW3]
    clear hW3
    go_wp2_with (go_at_call 47; refine (within_any _ _ _ _).mono ?_; rw [HI.out]; rintro e w' ⟨rfl, rfl⟩)
    refine bodyPost_ret (v := .tuple #[.agg #[.int .i64 0, .int .i64 0, .slice none 0 0], .bool false]) (by simp [results, Try.results17, go_sem, *]) rfl ?_
    rw [HR.out]
    exact RetSl.nul (f := fun v => .tuple #[.agg #[.int .i64 0, .int .i64 0, v], .bool false]) (((hbw.setCell (p := ⟨w.heap.size + 1 + 1, 0, none⟩) (show w.heap.size ≤ w.heap.size + 1 + 1 by omega) _).setCell (p := ⟨w.heap.size + 1 + 1, 1, none⟩) (show w.heap.size ≤ w.heap.size + 1 + 1 by omega) _).setCell (p := ⟨w.heap.size + 1 + 1, 2, none⟩) (show w.heap.size ≤ w.heap.size + 1 + 1 by omega) _)
  · have hb := inB_true hin
    obtain ⟨n, rfl⟩ : ∃ n : Nat, l = n := ⟨l.toNat, by omega⟩
    cases hs : shB x
    · have HR : Hid (res = (0, 0, [], false)) := by show res = _; rw [hres]; unfold out_NextChannel; rw [hin, hs]; rfl
      have HI := Lib.hid hin
      have HS := Lib.hid hs
      clear hin hres hs
      go_enter Try.func17, Try.ntmps17
      go_wp2_with fail
      rw [← hW3]
      clear hW3
      go_wp2_with (first | (go_at_call 47; refine (within_any _ _ _ _).mono ?_; rw [HI.out]; rintro e w' ⟨rfl, rfl⟩) | (go_at_call 48; refine (isShare_any _ _ hx).mono ?_; rw [show decide (x ≤ 1065353216 ∨ x = 2147483648) = false from HS.out]; rintro e w' ⟨rfl, rfl⟩))
      refine bodyPost_ret (v := .tuple #[.agg #[.int .i64 0, .int .i64 0, .slice none 0 0], .bool false]) (by simp [results, Try.results17, go_sem, *]) rfl ?_
      rw [HR.out]
      exact RetSl.nul (f := fun v => .tuple #[.agg #[.int .i64 0, .int .i64 0, v], .bool false]) (((hbw.setCell (p := ⟨w.heap.size + 1 + 1, 0, none⟩) (show w.heap.size ≤ w.heap.size + 1 + 1 by omega) _).setCell (p := ⟨w.heap.size + 1 + 1, 1, none⟩) (show w.heap.size ≤ w.heap.size + 1 + 1 by omega) _).setCell (p := ⟨w.heap.size + 1 + 1, 2, none⟩) (show w.heap.size ≤ w.heap.size + 1 + 1 by omega) _)
    · have hR : res = outCh (n : Int) (n : Int) (chA (fNext x n) n n) := by rw [hres]; unfold out_NextChannel; rw [hin, hs, Int.toNat_natCast]; rfl
      have HS := Lib.hid hs
      have HI := Lib.hid hin
      have HMD : Hid (Calls Try.prog 49 #[.int .i64 (n : Int), .int .i64 (n : Int), .func (.func 51) #[] #[.pointer (some ⟨w.heap.size + 1, 0, none⟩), .pointer (some ⟨w.heap.size, 0, none⟩)]] W3 (RetSl W3 22 res.2.2.1.length (res.2.2.1.map (Value.float .f32)) (fun v => .tuple #[.agg #[.int .i64 res.1, .int .i64 res.2.1, v], .bool res.2.2.2]))) := by
        show Calls _ _ _ _ _
        rw [hR]
        exact madeNext_any _ _ n n (fNext x n) W3 (by omega) (by omega) (by omega) (by omega) (fun i k hi hk => fNext_lt HS.out n i k) (fun W i k hW hi hk => clNext_any x n i k _ _ HS.out (by omega) (by omega) hi W ((hW.cell (p := ⟨w.heap.size + 1, 0, none⟩) (show w.heap.size + 1 < W3.heap.size by omega)).trans c1) ((hW.cell (p := ⟨w.heap.size, 0, none⟩) (show w.heap.size < W3.heap.size by omega)).trans c0))
      clear hin hres hs hR
      go_enter Try.func17, Try.ntmps17
      go_wp2_with fail
      rw [← hW3]
      clear hW3
      go_wp2_with (first | (go_at_call 47; refine (within_any _ _ _ _).mono ?_; rw [HI.out]; rintro e w' ⟨rfl, rfl⟩) | (go_at_call 48; refine (isShare_any _ _ hx).mono ?_; rw [show decide (x ≤ 1065353216 ∨ x = 2147483648) = true from HS.out]; rintro e w' ⟨rfl, rfl⟩) | (go_at_call 49; refine HMD.out.mono ?_; rintro e w4 ⟨a4, c4, rfl, ho4, hb4⟩; have d0 := cell_step d0 hb4; have d1 := cell_step d1 hb4; have d2 := cell_step d2 hb4; have z0 := (hb4.frozen (p := ⟨w.heap.size + 1 + 1, 0, none⟩) (show w.heap.size + 1 + 1 < W3.heap.size by omega)).trans z0; have z1 := (hb4.frozen (p := ⟨w.heap.size + 1 + 1, 1, none⟩) (show w.heap.size + 1 + 1 < W3.heap.size by omega)).trans z1; have z2 := (hb4.frozen (p := ⟨w.heap.size + 1 + 1, 2, none⟩) (show w.heap.size + 1 + 1 < W3.heap.size by omega)).trans z2))
      refine bodyPost_ret (v := .tuple #[.agg #[.int .i64 res.1, .int .i64 res.2.1, .slice a4 res.2.2.1.length c4], .bool res.2.2.2]) (by simp [results, Try.results17, go_sem, *]) rfl ?_
      have o1 := ownsRow_setCell_below (a := ⟨w.heap.size + 1 + 1, 0, none⟩) ho4 (show w.heap.size + 1 + 1 < W3.heap.size by omega) (.int .i64 res.1)
      have o2 := ownsRow_setCell_below (a := ⟨w.heap.size + 1 + 1, 1, none⟩) o1 (show w.heap.size + 1 + 1 < W3.heap.size by omega) (.int .i64 res.2.1)
      have o3 := ownsRow_setCell_below (a := ⟨w.heap.size + 1 + 1, 2, none⟩) o2 (show w.heap.size + 1 + 1 < W3.heap.size by omega) (.slice a4 res.2.2.1.length c4)
      have hb5 := hbw.trans (hb4.mono hbw.size)
      exact RetSl.mk (f := fun v => .tuple #[.agg #[.int .i64 res.1, .int .i64 res.2.1, v], .bool res.2.2.2]) (ownsRow_base o3 (by omega)) (((hb5.setCell (p := ⟨w.heap.size + 1 + 1, 0, none⟩) (show w.heap.size ≤ w.heap.size + 1 + 1 by omega) _).setCell (p := ⟨w.heap.size + 1 + 1, 1, none⟩) (show w.heap.size ≤ w.heap.size + 1 + 1 by omega) _).setCell (p := ⟨w.heap.size + 1 + 1, 2, none⟩) (show w.heap.size ≤ w.heap.size + 1 + 1 by omega) _)

set_option maxHeartbeats 4000000 in
theorem impl_FlipChannel (w : World) (l : Int) (hl : I64 l) (x : Nat) (hx : x < 4294967296) :
    Calls Try.prog 19 #[.int .i64 l, .float .f32 x] w (RetSl w 22 (out_FlipChannel l x).2.2.1.length ((out_FlipChannel l x).2.2.1.map (Value.float .f32)) (fun v => .tuple #[.agg #[.int .i64 (out_FlipChannel l x).1, .int .i64 (out_FlipChannel l x).2.1, v], .bool (out_FlipChannel l x).2.2.2])) := by
  obtain ⟨res, hres⟩ : ∃ res, res = out_FlipChannel l x := ⟨_, rfl⟩
  rw [← hres]
  have hmf : ∀ (fn : Fn) (first cap : Array Value) (w : World), (Instr.makeFunc fn first cap).run Try.prog w = .ok (.func fn first cap) w := fun _ _ _ _ => rfl
  obtain ⟨W3, hW3⟩ : ∃ W3, W3 = ((w.alloc (.cells #[.int .i64 l] 2)).alloc (.cells #[.float .f32 x] 22)).alloc (.cells #[.int .i64 0, .int .i64 0, .slice none 0 0] 25) := ⟨_, rfl⟩
  have hsz : W3.heap.size = w.heap.size + 3 := by rw [hW3]; simp
  have hbw : Below w.heap.size w W3 := by rw [hW3]; go_grown
  have c0 : World.cell? W3 ⟨w.heap.size, 0, none⟩ = some (.int .i64 l) := by rw [hW3]; go_cell
  have c1 : World.cell? W3 ⟨w.heap.size + 1, 0, none⟩ = some (.float .f32 x) := by rw [hW3]; go_cell
  have d0 : World.cell? W3 ⟨w.heap.size + 1 + 1, 0, none⟩ = some (.int .i64 0) := by rw [hW3]; go_cell
  have d1 : World.cell? W3 ⟨w.heap.size + 1 + 1, 1, none⟩ = some (.int .i64 0) := by rw [hW3]; go_cell
  have d2 : World.cell? W3 ⟨w.heap.size + 1 + 1, 2, none⟩ = some (.slice none 0 0) := by rw [hW3]; go_cell
  have z0 : World.frozen? W3 ⟨w.heap.size + 1 + 1, 0, none⟩ = false := by rw [hW3, World.frozen?_alloc_at]; simp
  have z1 : World.frozen? W3 ⟨w.heap.size + 1 + 1, 1, none⟩ = false := by rw [hW3, World.frozen?_alloc_at]; simp
  have z2 : World.frozen? W3 ⟨w.heap.size + 1 + 1, 2, none⟩ = false := by rw [hW3, World.frozen?_alloc_at]; simp
  cases hin : inB l 2 8
  · have HR : Hid (res = (0, 0, [], false)) := by show res = _; rw [hres]; unfold out_FlipChannel; rw [hin]; rfl
    have HI := Lib.hid hin
    clear hin hres
    go_enter Try.func19, Try.ntmps19
    go_wp2_with fail
    rw [← hW3]
    clear hW3
    go_wp2_with (go_at_call 47; refine (within_any _ _ _ _).mono ?_; rw [HI.out]; rintro e w' ⟨rfl, rfl⟩)
    refine bodyPost_ret (v := .tuple #[.agg #[.int .i64 0, .int .i64 0, .slice none 0 0], .bool false]) (by simp [results, Try.results19, go_sem, *]) rfl ?_
    rw [HR.out]
    exact RetSl.nul (f := fun v => .tuple #[.agg #[.int .i64 0, .int .i64 0, v], .bool false]) (((hbw.setCell (p := ⟨w.heap.size + 1 + 1, 0, none⟩) (show w.heap.size ≤ w.heap.size + 1 + 1 by omega) _).setCell (p := ⟨w.heap.size + 1 + 1, 1, none⟩) (show w.heap.size ≤ w.heap.size + 1 + 1 by omega) _).setCell (p := ⟨w.heap.size + 1 + 1, 2, none⟩) (show w.heap.size ≤ w.heap.size + 1 + 1 by omega) _)
  · have hb := inB_true hin
    obtain ⟨n, rfl⟩ : ∃ n : Nat, l = n := ⟨l.toNat, by omega⟩
    cases hs : shB x
    · have HR : Hid (res = (0, 0, [], false)) := by show res = _; rw [hres]; unfold out_FlipChannel; rw [hin, hs]; rfl
      have HI := Lib.hid hin
      have HS := Lib.hid hs
      clear hin hres hs
      go_enter Try.func19, Try.ntmps19
      go_wp2_with fail
      rw [← hW3]
      clear hW3
      go_wp2_with (first | (go_at_call 47; refine (within_any _ _ _ _).mono ?_; rw [HI.out]; rintro e w' ⟨rfl, rfl⟩) | (go_at_call 48; refine (isShare_any _ _ hx).mono ?_; rw [show decide (x ≤ 1065353216 ∨ x = 2147483648) = false from HS.out]; rintro e w' ⟨rfl, rfl⟩))
      refine bodyPost_ret (v := .tuple #[.agg #[.int .i64 0, .int .i64 0, .slice none 0 0], .bool false]) (by simp [results, Try.results19, go_sem, *]) rfl ?_
      rw [HR.out]
      exact RetSl.nul (f := fun v => .tuple #[.agg #[.int .i64 0, .int .i64 0, v], .bool false]) (((hbw.setCell (p := ⟨w.heap.size + 1 + 1, 0, none⟩) (show w.heap.size ≤ w.heap.size + 1 + 1 by omega) _).setCell (p := ⟨w.heap.size + 1 + 1, 1, none⟩) (show w.heap.size ≤ w.heap.size + 1 + 1 by omega) _).setCell (p := ⟨w.heap.size + 1 + 1, 2, none⟩) (show w.heap.size ≤ w.heap.size + 1 + 1 by omega) _)
    · have hR : res = outCh (n : Int) (n : Int) (chA (fFlip x n) n n) := by rw [hres]; unfold out_FlipChannel; rw [hin, hs, Int.toNat_natCast]; rfl
      have HS := Lib.hid hs
      have HI := Lib.hid hin
      have HMD : Hid (Calls Try.prog 49 #[.int .i64 (n : Int), .int .i64 (n : Int), .func (.func 52) #[] #[.pointer (some ⟨w.heap.size + 1, 0, none⟩), .pointer (some ⟨w.heap.size, 0, none⟩)]] W3 (RetSl W3 22 res.2.2.1.length (res.2.2.1.map (Value.float .f32)) (fun v => .tuple #[.agg #[.int .i64 res.1, .int .i64 res.2.1, v], .bool res.2.2.2]))) := by
        show Calls _ _ _ _ _
        rw [hR]
        exact madeFlip_any _ _ n n (fFlip x n) W3 (by omega) (by omega) (by omega) (by omega) (fun i k hi hk => fFlip_lt HS.out (by omega) (by omega) i k) (fun W i k hW hi hk => clFlip_any x n i k _ _ HS.out (by omega) (by omega) W ((hW.cell (p := ⟨w.heap.size + 1, 0, none⟩) (show w.heap.size + 1 < W3.heap.size by omega)).trans c1) ((hW.cell (p := ⟨w.heap.size, 0, none⟩) (show w.heap.size < W3.heap.size by omega)).trans c0))
      clear hin hres hs hR
      go_enter Try.func19, Try.ntmps19
      go_wp2_with fail
      rw [← hW3]
      clear hW3
      go_wp2_with (first | (go_at_call 47; refine (within_any _ _ _ _).mono ?_; rw [HI.out]; rintro e w' ⟨rfl, rfl⟩) | (go_at_call 48; refine (isShare_any _ _ hx).mono ?_; rw [show decide (x ≤ 1065353216 ∨ x = 2147483648) = true from HS.out]; rintro e w' ⟨rfl, rfl⟩) | (go_at_call 49; refine HMD.out.mono ?_; rintro e w4 ⟨a4, c4, rfl, ho4, hb4⟩; have d0 := cell_step d0 hb4; have d1 := cell_step d1 hb4; have d2 := cell_step d2 hb4; have z0 := (hb4.frozen (p := ⟨w.heap.size + 1 + 1, 0, none⟩) (show w.heap.size + 1 + 1 < W3.heap.size by omega)).trans z0; have z1 := (hb4.frozen (p := ⟨w.heap.size + 1 + 1, 1, none⟩) (show w.heap.size + 1 + 1 < W3.heap.size by omega)).trans z1; have z2 := (hb4.frozen (p := ⟨w.heap.size + 1 + 1, 2, none⟩) (show w.heap.size + 1 + 1 < W3.heap.size by omega)).trans z2))
      refine bodyPost_ret (v := .tuple #[.agg #[.int .i64 res.1, .int .i64 res.2.1, .slice a4 res.2.2.1.length c4], .bool res.2.2.2]) (by simp [results, Try.results19, go_sem, *]) rfl ?_
      have o1 := ownsRow_setCell_below (a := ⟨w.heap.size + 1 + 1, 0, none⟩) ho4 (show w.heap.size + 1 + 1 < W3.heap.size by omega) (.int .i64 res.1)
      have o2 := ownsRow_setCell_below (a := ⟨w.heap.size + 1 + 1, 1, none⟩) o1 (show w.heap.size + 1 + 1 < W3.heap.size by omega) (.int .i64 res.2.1)
      have o3 := ownsRow_setCell_below (a := ⟨w.heap.size + 1 + 1, 2, none⟩) o2 (show w.heap.size + 1 + 1 < W3.heap.size by omega) (.slice a4 res.2.2.1.length c4)
      have hb5 := hbw.trans (hb4.mono hbw.size)
      exact RetSl.mk (f := fun v => .tuple #[.agg #[.int .i64 res.1, .int .i64 res.2.1, v], .bool res.2.2.2]) (ownsRow_base o3 (by omega)) (((hb5.setCell (p := ⟨w.heap.size + 1 + 1, 0, none⟩) (show w.heap.size ≤ w.heap.size + 1 + 1 by omega) _).setCell (p := ⟨w.heap.size + 1 + 1, 1, none⟩) (show w.heap.size ≤ w.heap.size + 1 + 1 by omega) _).setCell (p := ⟨w.heap.size + 1 + 1, 2, none⟩) (show w.heap.size ≤ w.heap.size + 1 + 1 by omega) _)

end Go.Proofs.Ytlahmdnlamifnaa
