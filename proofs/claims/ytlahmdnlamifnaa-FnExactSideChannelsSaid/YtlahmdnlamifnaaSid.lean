/- Channels side by side: the program's part. -/
import Derived.Test.YtlahmdnlamifnaaLfi
import Derived.Deep.RegionHeld3
namespace Go.Proofs.Ytlahmdnlamifnaa
set_option linter.unusedSimpArgs false
set_option linter.unusedVariables false
open Go.RowKit

/-- An entry of the channel of pairs. -/
def fSide (xs ys : List Nat) (a2 m1 m2 i k : Nat) : Nat := fA .mul .f32 (xs[(i / a2) * m1 + k / m2]?.getD 0) (ys[(i % a2) * m2 + k % m2]?.getD 0)
def sideOk (i j : Int) (xs : List Nat) (i2 j2 : Int) (ys : List Nat) : Bool := validCh i j xs && validCh i2 j2 ys && decide (i * i2 ≤ 8) && decide (j * j2 ≤ 8)
def out_SideChannels (i j : Int) (xs : List Nat) (i2 j2 : Int) (ys : List Nat) : Int × Int × List Nat × Bool :=
  if sideOk i j xs i2 j2 ys then outCh (i * i2) (j * j2) (chA (fSide xs ys i2.toNat j.toNat j2.toNat) (j * j2).toNat (i * i2).toNat) else (0, 0, [], false)
theorem ch_el {a m : Nat} {xs : List Nat} (hl : xs.length = a * m) (hr : ∀ k, k < a → rowB (rowOf xs m k) = true) {r c : Nat} (h1 : r < a) (h2 : c < m) : Ch (xs[r * m + c]?.getD 0) := by
  have hle : (r + 1) * m ≤ xs.length := by rw [hl]; exact row_le h1
  rw [← rowOf_getElem? (xs := xs) h2]
  exact get_pn (oneB_ch (rowB_one (hr r h1)).2.2) (by rw [rowOf_length hle]; exact h2)
theorem side_nat {i j : Int} {xs : List Nat} {i2 j2 : Int} {ys : List Nat} (h : sideOk i j xs i2 j2 ys = true) : validCh i j xs = true ∧ validCh i2 j2 ys = true ∧ i * i2 ≤ 8 ∧ j * j2 ≤ 8 := by
  unfold sideOk at h
  simp only [Bool.and_eq_true, decide_eq_true_eq] at h
  exact ⟨h.1.1.1, h.1.1.2, h.1.2, h.2⟩
theorem len_SideChannels (i j : Int) (_ : I64 i) (_ : I64 j) (xs : List Nat) (_ : ∀ x ∈ xs, x < 4294967296) (_ : xs.length ≤ 1048576) (i2 j2 : Int) (_ : I64 i2) (_ : I64 j2) (ys : List Nat) (_ : ∀ x ∈ ys, x < 4294967296) (_ : ys.length ≤ 1048576) : (out_SideChannels i j xs i2 j2 ys).2.2.1.length ≤ 1048576 := by
  unfold out_SideChannels
  split
  · rename_i h
    obtain ⟨h1, h2, h3, h4⟩ := side_nat h
    refine outCh_len _ _ _ ?_
    rw [chA_length]
    have : (i * i2).toNat * (j * j2).toNat ≤ 8 * 8 := Nat.mul_le_mul (by omega) (by omega)
    omega
  · exact Nat.zero_le _
theorem fSide_lt {a1 m1 a2 m2 : Nat} {xs ys : List Nat} (hl : xs.length = a1 * m1) (hr : ∀ k, k < a1 → rowB (rowOf xs m1 k) = true) (hl2 : ys.length = a2 * m2) (hr2 : ∀ k, k < a2 → rowB (rowOf ys m2 k) = true) {i k : Nat} (hi : i < a1 * a2) (hk : k < m1 * m2) :
    Ch (xs[(i / a2) * m1 + k / m2]?.getD 0) ∧ Ch (ys[(i % a2) * m2 + k % m2]?.getD 0) ∧ fSide xs ys a2 m1 m2 i k < 4294967296 := by
  have p2 : 0 < a2 := by rcases Nat.eq_zero_or_pos a2 with h | h
                         · subst h; simp at hi
                         · exact h
  have p3 : 0 < m2 := by rcases Nat.eq_zero_or_pos m2 with h | h
                         · subst h; simp at hk
                         · exact h
  have c1 := ch_el hl hr (r := i / a2) (c := k / m2) (Nat.div_lt_of_lt_mul (by rw [Nat.mul_comm]; exact hi)) (Nat.div_lt_of_lt_mul (by rw [Nat.mul_comm]; exact hk))
  have c2 := ch_el hl2 hr2 (r := i % a2) (c := k % m2) (Nat.mod_lt _ p2) (Nat.mod_lt _ p3)
  exact ⟨c1, c2, fA_lt (mul_ch c1 c2).1⟩
theorem chRow_bl (i : Int) (m k p b off n c : Nat) (w : World) (hp : p = k * m) (h1 : 1 ≤ m) (h2 : m ≤ 64) (h3 : k ≤ 64) (hk : p + m ≤ n) (hnc : n ≤ c) (hcm : c ≤ maxLen) :
    Calls Try.prog 57 #[.agg #[.int .i64 i, .int .i64 m, .slice (some ⟨b, off, none⟩) n c], .int .i64 k] w fun e w' => e = .returned (.slice (some ⟨b, off + p, none⟩) m m) ∧ Below w.heap.size w w' :=
  (chRow_at i m k p b off n c w hp h1 h2 h3 hk hnc hcm).mono (by rintro e w' ⟨rfl, rfl⟩; exact ⟨rfl, by go_grown⟩)

set_option maxHeartbeats 4000000 in
theorem clSide_any (g1 g2 a1 m1 a2 m2 b1 o1 n1 c1 b2 o2 n2 c2 : Nat) (xs ys : List Nat) (i k : Nat) (W : World) (ha1 : a1 ≤ 8) (hm1 : m1 ≤ 8) (ha2 : a2 ≤ 8) (hm2 : m2 ≤ 8)
    (d0 : W.cell? ⟨g1, 0, none⟩ = some (.int .i64 a1)) (d1 : W.cell? ⟨g1, 1, none⟩ = some (.int .i64 m1)) (d2 : W.cell? ⟨g1, 2, none⟩ = some (.slice (some ⟨b1, o1, none⟩) n1 c1))
    (e0 : W.cell? ⟨g2, 0, none⟩ = some (.int .i64 a2)) (e1 : W.cell? ⟨g2, 1, none⟩ = some (.int .i64 m2)) (e2 : W.cell? ⟨g2, 2, none⟩ = some (.slice (some ⟨b2, o2, none⟩) n2 c2))
    (hx : ∀ k, k < n1 → W.cell? ⟨b1, o1 + k, none⟩ = some (.float .f32 (xs[k]?.getD 0))) (hy : ∀ k, k < n2 → W.cell? ⟨b2, o2 + k, none⟩ = some (.float .f32 (ys[k]?.getD 0)))
    (hn1 : n1 = a1 * m1) (hn2 : n2 = a2 * m2) (hc1 : n1 ≤ c1) (hc2 : n2 ≤ c2) (hcm1 : c1 ≤ maxLen) (hcm2 : c2 ≤ maxLen) (hi : i < a1 * a2) (hk : k < m1 * m2) (hch1 : Ch (xs[(i / a2) * m1 + k / m2]?.getD 0)) (hch2 : Ch (ys[(i % a2) * m2 + k % m2]?.getD 0)) :
    Calls Try.prog 56 #[.int .i64 (i : Int), .int .i64 (k : Int), .pointer (some ⟨g1, 0, none⟩), .pointer (some ⟨g2, 0, none⟩)] W fun e w' => e = .returned (.float .f32 (fSide xs ys a2 m1 m2 i k)) ∧ Below W.heap.size W w' := by
  have p2 : 0 < a2 := by
    rcases Nat.eq_zero_or_pos a2 with h | h
    · subst h; simp at hi
    · exact h
  have p3 : 0 < m2 := by
    rcases Nat.eq_zero_or_pos m2 with h | h
    · subst h; simp at hk
    · exact h
  have l1 : i / a2 < a1 := Nat.div_lt_of_lt_mul (by rw [Nat.mul_comm]; exact hi)
  have l2 : k / m2 < m1 := Nat.div_lt_of_lt_mul (by rw [Nat.mul_comm]; exact hk)
  have l3 : i % a2 < a2 := Nat.mod_lt _ p2
  have l4 : k % m2 < m2 := Nat.mod_lt _ p3
  have hi64 : i < 64 := Nat.lt_of_lt_of_le hi (Nat.mul_le_mul ha1 ha2)
  have hk64 : k < 64 := Nat.lt_of_lt_of_le hk (Nat.mul_le_mul hm1 hm2)
  have hsome := (mul_ch hch1 hch2).1
  have hF : fSide xs ys a2 m1 m2 i k = fA .mul .f32 (xs[(i / a2) * m1 + k / m2]?.getD 0) (ys[(i % a2) * m2 + k % m2]?.getD 0) := rfl
  obtain ⟨res, hres⟩ : ∃ res, res = fSide xs ys a2 m1 m2 i k := ⟨_, rfl⟩
  rw [← hres] at hF ⊢
  have d63 : i / a2 ≤ 63 := Nat.le_trans (Nat.div_le_self i a2) (by omega)
  have e63 : k / m2 ≤ 63 := Nat.le_trans (Nat.div_le_self k m2) (by omega)
  have t1 : IntKind.i64.wrap ((i : Int) / (a2 : Int)) = IntKind.i64.wrap ((i / a2 : Nat) : Int) := by rw [← Int.natCast_ediv]
  have t2 : (i : Int).tmod (a2 : Int) = ((i % a2 : Nat) : Int) := by rw [Int.tmod_eq_emod_of_nonneg (by omega), ← Int.natCast_emod]
  have t3 : IntKind.i64.wrap ((k : Int) / (m2 : Int)) = IntKind.i64.wrap ((k / m2 : Nat) : Int) := by rw [← Int.natCast_ediv]
  have t4 : (k : Int).tmod (m2 : Int) = ((k % m2 : Nat) : Int) := by rw [Int.tmod_eq_emod_of_nonneg (by omega), ← Int.natCast_emod]
  generalize i / a2 = p at *
  generalize i % a2 = r at *
  generalize k / m2 = s at *
  generalize k % m2 = t at *
  rw [IntWalk.i64_in (p : Int) (by omega)] at t1
  rw [IntWalk.i64_in (s : Int) (by omega)] at t3
  obtain ⟨P, hP⟩ : ∃ P, P = p * m1 := ⟨_, rfl⟩
  obtain ⟨R, hR⟩ : ∃ R, R = r * m2 := ⟨_, rfl⟩
  have hPn : P + m1 ≤ n1 := by rw [hP, hn1]; have := row_le (m := m1) l1; rw [Nat.add_mul, Nat.one_mul] at this; exact this
  have hRn : R + m2 ≤ n2 := by rw [hR, hn2]; have := row_le (m := m2) l3; rw [Nat.add_mul, Nat.one_mul] at this; exact this
  have x0 := hx (P + s) (by omega)
  have y0 := hy (R + t) (by omega)
  rw [← hP, ← hR] at hF hsome
  rw [← Nat.add_assoc] at x0 y0
  generalize xs[P + s]?.getD 0 = z1 at *
  generalize ys[R + t]?.getD 0 = z2 at *
  obtain ⟨y, hyy⟩ : ∃ y, y = fA .mul .f32 z1 z2 := ⟨_, rfl⟩
  have hrun := fun W : World => run_fA (P := Try.prog) (w := W) .mul 22 .f32 _ _ hsome
  rw [← hyy] at hrun hF
  have HF := Lib.hid hF
  have HRA := Lib.hid (fun W => chRow_bl a1 m1 p P b1 o1 n1 c1 W hP (by omega) (by omega) (by omega) hPn hc1 hcm1)
  have HRB := Lib.hid (fun W => chRow_bl a2 m2 r R b2 o2 n2 c2 W hR (by omega) (by omega) (by omega) hRn hc2 hcm2)
  have z0 : ¬ a2 = 0 := by omega
  have z3 : ¬ m2 = 0 := by omega
  have i1 : (0 : Int) ≤ (s : Int) := by omega
  have i2 : (s : Int) < (m1 : Int) := by omega
  have i3 : (0 : Int) ≤ (t : Int) := by omega
  have i4 : (t : Int) < (m2 : Int) := by omega
  clear hF hyy hx hy hP hR hPn hRn hn1 hn2 hc1 hc2 hcm1 hcm2 hi hk hch1 hch2 hsome hres l1 l3 ha1 ha2
  go_enter Try.func56, Try.ntmps56
  go_wp2
  go_region_held3 (fun V => World.cell? V ⟨g1, 0, none⟩ = some (.int .i64 a1) ∧ World.cell? V ⟨g1, 1, none⟩ = some (.int .i64 m1) ∧ World.cell? V ⟨g1, 2, none⟩ = some (.slice (some ⟨b1, o1, none⟩) n1 c1) ∧ World.cell? V ⟨g2, 0, none⟩ = some (.int .i64 a2) ∧ World.cell? V ⟨g2, 1, none⟩ = some (.int .i64 m2) ∧ World.cell? V ⟨g2, 2, none⟩ = some (.slice (some ⟨b2, o2, none⟩) n2 c2) ∧ World.cell? V ⟨b1, o1 + P + s, none⟩ = some (.float .f32 z1) ∧ World.cell? V ⟨b2, o2 + R + t, none⟩ = some (.float .f32 z2) ∧ Fr W V) (first | exact keep8 (by assumption) (by assumption) | exact ⟨d0, d1, d2, e0, e1, e2, x0, y0, (Fr.refl _).drew⟩)
    (first | (go_at_call 57; first | ((with_reducible refine (HRA.out _).mono ?_); rintro e V1 ⟨rfl, hbA⟩) | ((with_reducible refine (HRB.out _).mono ?_); rintro e V2 ⟨rfl, hbB⟩)))
  rename_i hHold
  have hfr := hHold.2.2.2.2.2.2.2.2
  clear hHold
  go_wp2
  go_ret
  exact ⟨ret_float HF.out.symm, hfr⟩

end Go.Proofs.Ytlahmdnlamifnaa
