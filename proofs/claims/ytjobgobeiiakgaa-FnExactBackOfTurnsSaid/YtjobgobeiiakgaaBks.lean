/- Turns of texts: the reference's BackOfTurns. -/
import Derived.Test.YtjobgobeiiakgaaTrs
import Derived.Test.YtjobgobeiiakgaaBkw
namespace Go.Proofs.Ytjobgobeiiakgaa
set_option linter.unusedSimpArgs false
set_option linter.unusedVariables false
open Go.RowKit

set_option maxRecDepth 4000 in
set_option maxHeartbeats 4000000 in
theorem specBack_in (l : List UInt8) (n p : Nat) (hn : l.length = n) (h1 : 1 ≤ n) (h64 : n ≤ 64) (hpn : p < n) (hin : inB (p : Int) 0 ((n : Int) - 1) = true) (t u : List UInt8) (z : Nat) (htl : t.length = n) (hTK : ∀ k, k < n → t.take (k + 1) = t.take k ++ [l[plc (ordB l) p k]?.getD 0])
    (res : ByteArray × Bool) (hres : res = if u = l ∧ z = p then (ByteArray.mk t.toArray, true) else (ByteArray.mk #[], false)) (hu : lastL t (ordT t) = u) (hz : (ordT t).idxOf 0 = z) (w : World) :
    Calls Try.prog 11 #[.string ⟨l.toArray⟩, .int .i64 (p : Int)] w fun e w' => e = .returned (.tuple #[.string res.1, .bool res.2]) ∧ Below w.heap.size w w' := by
  have hsz : (⟨l.toArray⟩ : ByteArray).size = n := by show l.toArray.size = n; simpa using hn
  have hT := ordB_perm l
  rw [hn] at hT
  have HT := Lib.hid hT
  have HN := Lib.hid hn
  have HTK := Lib.hid hTK
  have HTL := Lib.hid htl
  have HRES := Lib.hid hres
  have HIN := Lib.hid hin
  have HC : Hid (∀ W, Calls Try.prog 36 #[.string ⟨t.toArray⟩] W fun e w' => e = .returned (.tuple #[.string ⟨u.toArray⟩, .int .i64 (z : Nat)]) ∧ Below W.heap.size W w') := Lib.hid fun W => by
    have := l04Turns_any t n htl h1 h64 W
    rw [hu, hz] at this
    exact this
  have hplt := plc_lt hT hpn
  obtain ⟨lt, hlt⟩ : ∃ lt, lt = ltB l := ⟨_, rfl⟩
  have HO : Hid (ordB l = ordX lt id n) := by show _ = _; rw [ordB, hn, hlt]
  have HLT : Hid (∀ x y, decide ((l[x]?.getD 0).toNat < (l[y]?.getD 0).toNat) = lt x y) := Lib.hid fun x y => by rw [hlt]; rfl
  obtain ⟨O, hO⟩ : ∃ O, O = ordB l := ⟨_, rfl⟩
  rw [← hO] at HO HT HTK hplt
  obtain ⟨i0, hi0, hz00, hz01, hz02⟩ := info_parts info_intt
  clear hT hlt hn hTK htl hres hu hz hO hin
  go_enter Try.func11, Try.ntmps11
  go_wp2_with (go_at_call 43; refine (l00In_any _ _ _ _).mono ?_; rw [HIN.out]; rintro e w' ⟨rfl, rfl⟩)
  have hown0 : (w.alloc (.cells #[] 3)).ownsRow w.heap.size 3 1 (.slice (some ⟨w.heap.size, 0, none⟩) 0 0) 0 [] := World.ownsRow_made w #[] 0 (Nat.le_refl _) (Nat.zero_le _) rfl
  have hb0 : Below w.heap.size w (w.alloc (.cells #[] 3)) := by go_grown
  go_loopw [6, 7] (fun v i wr => ∃ k : Nat, k ≤ n ∧ i = .int .i64 k ∧ wr.ownsRow w.heap.size 3 1 v k (nats (ordX lt id k)) ∧ Below w.heap.size w wr) (fun _ i _ => n - (intOf i).toNat)
  case atStart => exact ⟨0, Nat.zero_le _, rfl, hown0, hb0⟩
  case round =>
    clear hown0 hb0
    obtain ⟨m, hm, rfl, hown, hb⟩ := hrel
    have hbs := hb.size
    by_cases hmn : m < n
    · have HGOAL : Hid (bub lt 0 (ordX lt id m ++ [m]) m = ordX lt id (m + 1)) := rfl
      have hlen := ordX_length lt id m
      have hmem : ∀ x ∈ ordX lt id m ++ [m], x < n := fun x hx => by
        rcases List.mem_append.1 hx with h | h
        · obtain ⟨i, hi, e⟩ := ordX_mem h
          rw [e]; exact Nat.lt_trans hi hmn
        · simp at h; omega
      obtain ⟨goal, hgoal⟩ : ∃ goal, goal = ordX lt id (m + 1) := ⟨_, rfl⟩
      rw [← hgoal] at HGOAL
      have HGL := Lib.hid hgoal
      clear hgoal
      generalize ordX lt id m = L0 at *
      go_wp2_with (at_builtin; refine wpList_append_own _ rfl _ _ 73 rfl w.heap.size 3 i0 (.int .i64 0) 1 8 Try.underlying73 hi0 hz00 hz01 hz02 rfl (by decide) u6 _ _ rfl (hown.alloc _) ⟨(World.heap wr).size, 0, none⟩ 1 1 [.int .i64 m] rfl rfl (cell_one_new _ _ _) (one_oneCell rfl) (by unfold maxLen; omega) (by omega) (by simp only [World.size_alloc]; have := hb.size; omega) ?_; intro v1 w1 hown1 hgx _; have hb1 := app_below hb (by have := hb.size; omega) _ hgx hown (by omega))
      rw [show nats L0 ++ [.int .i64 (m : Int)] = nats (L0 ++ [m]) by simp] at hown1
      obtain ⟨a1, c1, rfl⟩ := ownsRow_shape hown1
      obtain ⟨g, rfl, hgB, hgl⟩ := own_some hown1 (by omega)
      clear hown hb hbs
      go_loopw [8] (fun q wr => ∃ (j : Nat) (L : List Nat), q = .int .i64 (j : Int) ∧ j ≤ m ∧ L.length = m + 1 ∧ wr.ownsRow w.heap.size 3 1 (.slice (some ⟨g, 0, none⟩) (m + 1) c1) (m + 1) (nats L) ∧ (∀ x ∈ L, x < n) ∧ bub lt 0 L j = goal ∧ Below w.heap.size w wr) (fun q _ => (intOf q).toNat)
      case atStart => exact ⟨m, _, rfl, Nat.le_refl _, by simp [hlen], hown1, hmem, HGOAL.out, hb1⟩
      case round =>
        clear hown1 hmem hb1 hlen HGOAL
        obtain ⟨j, L, rfl, hjm, hlen, hown, hmem, hbub, hb⟩ := hrel
        by_cases haj : 0 < j
        · obtain ⟨p1, hp1⟩ : ∃ p1, j = p1 + 1 := ⟨j - 1, by omega⟩
          have k1 := hown.cellAt j (by omega)
          have k2 := hown.cellAt p1 (by omega)
          rw [nats_get L _ (by omega)] at k1 k2
          have f1 := hown.frozenAt j
          have f2 := hown.frozenAt p1
          have hx := getNat hmem j (by omega)
          have hy := getNat hmem p1 (by omega)
          have HS : Hid (nats (swp L p1) = ((nats L).set j (.int .i64 ((L[p1]?.getD 0 : Nat) : Int))).set p1 (.int .i64 ((L[j]?.getD 0 : Nat) : Int))) := by show _ = _; rw [hp1]; simp [swp, List.map_set]
          have HB1 : Hid (lt (L[j]?.getD 0) (L[p1]?.getD 0) = true → bub lt 0 (swp L p1) p1 = goal) := fun h => by rw [← hbub, hp1, bub, if_pos ⟨by omega, by rw [← hp1]; exact h⟩]
          have HB2 : Hid (lt (L[j]?.getD 0) (L[p1]?.getD 0) = false → L = goal) := fun h => by rw [← hbub, hp1, bub, if_neg (fun x => by rw [← hp1, h] at x; cases x.2)]
          have HSM := Lib.hid (swp_mem hmem (j := p1) (by omega))
          clear hbub
          have hi1 := run_index_at l (L[j]?.getD 0) (by rw [HN.out]; exact hx)
          have hi2 := run_index_at l (L[p1]?.getD 0) (by rw [HN.out]; exact hy)
          have hk2 := HLT.out (L[j]?.getD 0) (L[p1]?.getD 0)
          have HLEN := Lib.hid hlen
          generalize L[j]?.getD 0 = x at *
          generalize L[p1]?.getD 0 = y at *
          generalize (l[x]?.getD 0).toNat = rx at *
          generalize (l[y]?.getD 0).toNat = ry at *
          clear hlen
          have hg1 : decide (0 < j) = true := decide_eq_true haj
          have hj1 : (j : Int) - 1 = (p1 : Int) := by omega
          have HP := Lib.hid hp1
          have hpn : p1 < m + 1 := by omega
          have hj0 : (1 : Int) ≤ (j : Int) := by omega
          have hjm' : (j : Int) < ((m + 1 : Nat) : Int) := by omega
          clear hp1
          cases hlt2 : lt x y
          · rw [hlt2] at hk2
            have HE : Hid (L = goal) := HB2.out hlt2
            clear hlt2 f1 f2
            go_wp2
            go_quiet (fail)
            go_wp2
            go_roundw
            case rel => exact ⟨m + 1, by omega, by go_num, by rw [← HGL.out, ← HE.out]; exact own_drewN hown _, below_drewN hb _⟩
            case measure => simp [intOf]; omega
          · rw [hlt2] at hk2
            have HE : Hid (bub lt 0 (swp L p1) p1 = goal) := HB1.out hlt2
            clear hlt2
            go_wp2
            go_quiet (fail)
            go_wp2
            go_roundw
            case rel => exact ⟨p1, swp L p1, rfl, by omega, by rw [swp_length]; exact HLEN.out, by rw [HS.out]; exact ((own_drewN hown _).stored j _).1.stored p1 _ |>.1, HSM.out, HE.out, ((below_drewN hb _).setCell (by omega) _).setCell (by omega) _⟩
            case measure => simp [intOf]; omega
        · obtain rfl : j = 0 := by omega
          have HE : Hid (L = goal) := hbub
          clear hbub
          go_wp2
          go_quiet (fail)
          go_wp2
          go_roundw
          case rel => exact ⟨m + 1, by omega, by go_num, by rw [← HGL.out, ← HE.out]; exact own_drewN hown _, below_drewN hb _⟩
          case measure => simp [intOf]; omega
    · obtain rfl : m = n := by omega
      rw [← HO.out] at hown
      obtain ⟨a1, c1, rfl⟩ := ownsRow_shape hown
      obtain ⟨g, rfl, hgB, hgl⟩ := own_some hown (by omega)
      have hlenO : O.length = m := perm_len HT.out
      have HCELL : Hid (∀ k, wr.cell? ⟨g, plc O p k, none⟩ = some (.int .i64 ((plc O p (k + 1) : Nat) : Int))) := Lib.hid fun k => by
        have h := hown.cellAt (plc O p k) (by have := hplt k; omega)
        rw [nats_get O _ (by have := hplt k; omega)] at h
        exact h
      have hc0 : wr.cell? ⟨g, p, none⟩ = some (.int .i64 ((plc O p 0 : Nat) : Int)) := by
        have h := hown.cellAt p (by omega)
        rw [nats_get O _ (by omega)] at h
        exact h
      have HPL := Lib.hid hplt
      have hmn' : decide ((m : Int) < (m : Int)) = false := by simp
      clear hown hplt hlenO
      go_wp2
      go_loopw [10, 11, 12] (fun s q i W => ∃ k : Nat, k ≤ m ∧ i = .int .i64 (k : Int) ∧ s = .string ⟨(t.take k).toArray⟩ ∧ q = .int .i64 ((plc O p k : Nat) : Int) ∧ wr = W) (fun _ _ i _ => m - (intOf i).toNat)
      case atStart => exact ⟨0, Nat.zero_le _, rfl, rfl, rfl, rfl⟩
      case round =>
        clear hc0
        obtain ⟨k, hk, rfl, rfl, rfl, rfl⟩ := hrel
        by_cases hkm : k < m
        · have hx := HPL.out k
          have hcell := HCELL.out k
          have HLK := Lib.hid (HTK.out k hkm)
          obtain ⟨y, hy⟩ : ∃ y, y = plc O p (k + 1) := ⟨_, rfl⟩
          rw [← hy] at hcell
          have HY := Lib.hid hy
          clear hy
          generalize plc O p k = x at *
          have HCAT : Hid ((⟨(t.take k).toArray⟩ ++ (⟨l.toArray⟩ : ByteArray).extract x (x + 1) : ByteArray) = ⟨(t.take (k + 1)).toArray⟩) := Lib.hid (by rw [HLK.out]; exact cat_at _ _ _ (by rw [HN.out]; exact hx))
          go_wp2
          go_roundw
          case rel => exact ⟨k + 1, by omega, by go_num, by rw [HCAT.out], by rw [HY.out], trivial⟩
          case measure => simp [intOf]; omega
        · obtain rfl : k = m := by omega
          have HTT : Hid (t.take k = t) := Lib.hid (List.take_of_length_le (by rw [HTL.out]; exact Nat.le_refl _))
          rw [HTT.out]
          by_cases hu1 : u = l
          · by_cases hz1 : z = p
            · have HR : Hid (res = (ByteArray.mk t.toArray, true)) := Lib.hid (by rw [HRES.out, if_pos ⟨hu1, hz1⟩])
              subst hu1 hz1
              go_wp2_with (go_at_call 36; refine (HC.out _).mono ?_; rintro e w3 ⟨rfl, hb3⟩)
              go_ret2
              exact ⟨by rw [HR.out]; rfl, hb.trans (hb3.mono hb.size)⟩
            · have HR : Hid (res = (ByteArray.mk #[], false)) := Lib.hid (by rw [HRES.out, if_neg (fun h => hz1 h.2)])
              have hzp : ((z : Int) != (p : Int)) = true := by rw [bne_iff_ne]; omega
              subst hu1
              clear hz1
              go_wp2_with (go_at_call 36; refine (HC.out _).mono ?_; rintro e w3 ⟨rfl, hb3⟩)
              go_ret2
              exact ⟨by rw [HR.out]; rfl, hb.trans (hb3.mono hb.size)⟩
          · have HR : Hid (res = (ByteArray.mk #[], false)) := Lib.hid (by rw [HRES.out, if_neg (fun h => hu1 h.1)])
            have hul : (u != l) = true := by rw [bne_iff_ne]; exact hu1
            go_wp2_with (go_at_call 36; refine (HC.out _).mono ?_; rintro e w3 ⟨rfl, hb3⟩)
            go_ret2
            exact ⟨by rw [HR.out]; rfl, hb.trans (hb3.mono hb.size)⟩

set_option maxHeartbeats 1000000 in
theorem spec_BackOfTurns (w : World) (s : ByteArray) (hs : s.size ≤ 9223372036854775807) (hl : s.size ≤ 1048576) (a : Int) (ha : I64 a) :
    Calls Try.prog 11 #[.string s, .int .i64 a] w fun e w' => e = .returned (.tuple #[.string (out_BackOfTurns s a).1, .bool (out_BackOfTurns s a).2]) ∧ Below w.heap.size w w' := by
  obtain ⟨l, hle, hln⟩ : ∃ l : List UInt8, s = (⟨l.toArray⟩ : ByteArray) ∧ l.length = s.size := ⟨s.data.toList, (ba_et s).symm, ba_lt s⟩
  obtain ⟨n, hn⟩ : ∃ n : Nat, n = s.size := ⟨_, rfl⟩
  have hsz : (⟨l.toArray⟩ : ByteArray).size = n := by rw [← hle, hn]
  have hsl : s.data.toList = l := by rw [hle]
  by_cases hr : 1 ≤ n ∧ n ≤ 64
  · obtain ⟨hr1, hr2⟩ := hr
    by_cases hin : inB a 0 ((n : Int) - 1) = true
    · obtain ⟨ha0, ha1⟩ := inB_true hin
      obtain ⟨p, rfl⟩ : ∃ p : Nat, a = (p : Int) := ⟨a.toNat, by omega⟩
      have ho : out_BackOfTurns s (p : Int) = if lastL (bakT l p) (ordT (bakT l p)) = l ∧ (ordT (bakT l p)).idxOf 0 = p then (ByteArray.mk (bakT l p).toArray, true) else (ByteArray.mk #[], false) := by
        unfold out_BackOfTurns
        rw [if_pos ⟨by omega, by omega, by omega⟩, hsl, Int.toNat_natCast]
      have := specBack_in l n p (by omega) hr1 hr2 (by omega) hin (bakT l p) _ _ (by rw [bakT_length]; omega) (fun k hk => bakT_take l p k (by omega)) _ ho rfl rfl w
      rw [← hle] at this
      exact this
    · have hin' : inB a 0 ((n : Int) - 1) = false := by simpa using hin
      have ho : out_BackOfTurns s a = (ByteArray.mk #[], false) := by
        unfold out_BackOfTurns
        rw [if_neg (fun h => hin (by unfold inB; exact decide_eq_true (by omega)))]
      rw [ho]
      have HIN := Lib.hid hin'
      subst hle
      clear ho hl hln hn hs hin hin' hsl
      go_enter Try.func11, Try.ntmps11
      go_wp2_with (go_at_call 43; refine (l00In_any _ _ _ _).mono ?_; rw [HIN.out]; rintro e w' ⟨rfl, rfl⟩)
      go_ret2
      exact ⟨rfl, Below.refl _ _⟩
  · have ho : out_BackOfTurns s a = (ByteArray.mk #[], false) := by
      unfold out_BackOfTurns
      rw [if_neg (fun h => hr (by omega))]
    rw [ho]
    subst hle
    have hr' : n < 1 ∨ 64 < n := by omega
    clear ho hl hln hn hr hs hsl
    by_cases h0 : n < 1
    · clear hr'
      go_enter Try.func11, Try.ntmps11
      go_wp2
      go_ret2
      exact ⟨rfl, Below.refl _ _⟩
    · have h64 : 64 < n := by omega
      clear hr'
      go_enter Try.func11, Try.ntmps11
      go_wp2
      go_ret2
      exact ⟨rfl, Below.refl _ _⟩

end Go.Proofs.Ytjobgobeiiakgaa
