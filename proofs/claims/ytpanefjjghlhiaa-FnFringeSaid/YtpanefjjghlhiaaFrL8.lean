/-
  The law on channels of fringes.
-/
import Derived.Test.YtpanefjjghlhiaaFrDrawF
import Derived.Test.YtpanefjjghlhiaaFrL3
import Derived.Test.YtpanefjjghlhiaaFrR10
import Derived.Test.YtpanefjjghlhiaaFrDrawC
import Derived.Deep.DeepCutAuto
import Derived.Deep.RegionHeldLaw
namespace Go.Proofs.Ytpanefjjghlhiaa
open Go.RowKit

theorem fvB_less {n m : Nat} {L : Nat → Nat} {f : Nat → Nat → Int} (h : fvB n L f = true) (h1 : 1 ≤ m) (hm : m ≤ n) : fvB m L f = true := by
  obtain ⟨⟨n1, n8⟩, ⟨l1, l8⟩, hr⟩ := fvB_true h
  exact fvB_mk ⟨h1, by omega⟩ ⟨l1, l8⟩ fun r hr' => hr r (by omega)
theorem fvB_lenr {n : Nat} {L : Nat → Nat} {f : Nat → Nat → Int} {r : Nat} (hr : r < n) (h : L r ≠ L 0) : fvB n L f = false := by
  cases e : fvB n L f with
  | false => rfl
  | true => exact absurd ((fvB_true e).2.2 r hr).1 h
theorem Own.rdd {w : World} {B n c : Nat} {t : TypeId} {A : Option Addr} {f : Nat → Value} (h : Own w B t (.slice A n c) n f) : Rd w w.heap.size A n f := by
  obtain ⟨A', c', e, hm⟩ := h.made
  injection e with e1 e2 e3
  subst e1
  exact hm.rd
/-- The lists with a row that is longer by a 0. -/
theorem rdr_more {w w' : World} {a A : Option Addr} {N l c c6 : Nat} {V : Nat → Value} {L : Nat → Nat} {F : Nat → Nat → Int} {A6 : Option Addr} {B : Nat} (R : RdR w w.heap.size a N V L F) (hb : Below w.heap.size w w')
    (h6 : Own w' B 26 (.slice A6 (N + 1) c6) (N + 1) (fun r => if r = N then .slice A (l + 1) c else V r)) (h5 : Own w' B 3 (.slice A (l + 1) c) (l + 1) (fun i => .int .i64 (if i = l then 0 else F 0 i))) :
    RdR w' w'.heap.size A6 (N + 1) (fun r => if r = N then .slice A (l + 1) c else V r) (fun r => if r = N then l + 1 else L r) (fun r i => if r = N then (if i = l then 0 else F 0 i) else F r i) := by
  refine ⟨h6.rdd, fun r hr => ?_⟩
  by_cases e : r = N
  · subst e
    refine ⟨A, c, by simp, ?_⟩
    simpa using h5.rdd
  · obtain ⟨A', c', e1, h1⟩ := R.row r (by omega)
    refine ⟨A', c', by simp [e, e1], ?_⟩
    have := Rd.step h1 hb
    simpa [e] using this
theorem rdr_first {w w' : World} {a A : Option Addr} {N l c c7 : Nat} {V : Nat → Value} {L : Nat → Nat} {F : Nat → Nat → Int} {A7 : Option Addr} {B : Nat} (R : RdR w w.heap.size a N V L F) (hb : Below w.heap.size w w')
    (h7 : Own w' B 26 (.slice A7 N c7) N (fun r => if r = 0 then .slice A l c else V r)) (h5 : Own w' B 3 (.slice A l c) l (fun i => .int .i64 (if i = 0 then 4 else F 0 i))) :
    RdR w' w'.heap.size A7 N (fun r => if r = 0 then .slice A l c else V r) (fun r => if r = 0 then l else L r) (fun r i => if r = 0 then (if i = 0 then 4 else F 0 i) else F r i) := by
  refine ⟨h7.rdd, fun r hr => ?_⟩
  by_cases e : r = 0
  · subst e
    refine ⟨A, c, by simp, ?_⟩
    simpa using h5.rdd
  · obtain ⟨A', c', e1, h1⟩ := R.row r hr
    refine ⟨A', c', by simp [e, e1], ?_⟩
    have := Rd.step h1 hb
    simpa [e] using this
theorem fvB_num {n : Nat} {L : Nat → Nat} {f : Nat → Nat → Int} {r i : Nat} (hr : r < n) (hi : i < L 0) (h : 3 < f r i) : fvB n L f = false := by
  cases e : fvB n L f with
  | false => rfl
  | true => exact absurd (((fvB_true e).2.2 r hr).2 i hi).2 (by omega)
set_option maxRecDepth 100000 in
set_option maxHeartbeats 8000000 in
theorem l_FnFringe (A : Option Addr) (n c : Nat) (f : Nat → Int) (A' : Option Addr) (n' c' : Nat) (f' : Nat → Int) (w : World) (h0 : Rd w w.heap.size A n (fun k => .int .u8 (f k))) (hb : ∀ i, 0 ≤ f i ∧ f i ≤ 255) (hnc : n ≤ c) (_h0' : Rd w w.heap.size A' n' (fun k => .int .u8 (f' k))) (_hb' : ∀ i, 0 ≤ f' i ∧ f' i ≤ 255) (_hnc' : n' ≤ c') :
    Calls Try.prog 3 #[.slice A n c, .slice A' n' c'] w fun e w' => e = .returned (.bool true) ∧ Below w.heap.size w w' := by
  clear _h0' _hb' _hnc'
  by_cases hn : n ≤ 1048576
  · by_cases hn' : n' ≤ 1048576
    · have h : Code8 w w.heap.size A n f := ⟨h0, hb⟩
      clear h0 hb
      go_enter Try.func3, Try.ntmps3
      go_wp2_with fail
      refine (c_DrawFringeValidC A n c f _ hn hnc h).mono ?_
      rintro e w1 ⟨a, N, cc, V, L, F, rfl, hN, hcap, hL, hrc, R1, B1⟩
      clear h hL
      have CV := Lib.hid (c_FringeValid a N cc V L F w1 (by omega) R1)
      have CS := Lib.hid (c_sFringeValid a N cc V L F w1 (by omega) R1)
      by_cases hv : fvB N L F = true
      · have HV := Lib.hid hv
        obtain ⟨⟨n1, n8⟩, ⟨l1, l8⟩, hrow⟩ := fvB_true hv
        rw [hv] at CV CS
        clear hrow hv
        go_wp2_with fail
        refine CV.out.mono ?_
        rintro e w' ⟨rfl, rfl⟩
        go_wp2_with fail
        refine CS.out.mono ?_
        rintro e w2 ⟨rfl, m2, rfl⟩
        have R2 : RdR (w1.drewN m2) (w1.drewN m2).heap.size a N V L F := R1.drewN m2
        have B2 := below_drewN B1 m2
        clear CV CS R1 B1
        generalize w1.drewN m2 = w2 at R2 B2 ⊢
        obtain ⟨m3, e3, h3⟩ : ∃ m3 : Nat, (n' : Int) % (N : Int) = (m3 : Int) ∧ m3 < N := ⟨n' % N, by simp, Nat.mod_lt _ (by omega)⟩
        obtain ⟨ad, A0, c0, rfl, hab, hV0, hc0, hA0⟩ := R2.cell (r := 0) (by omega)
        have hcap0 := hrc 0 (by omega) _ _ hV0
        clear hrc
        obtain ⟨a0, rfl, ha0, hr0⟩ := hA0 (by omega)
        obtain ⟨ad', ead, _, hdr⟩ := R2.hd (by omega)
        injection ead with ead
        subst ead
        have honeV : ∀ k, k < N → (V k).oneCell' = true := fun k hk => by
          obtain ⟨A', c', e1, _⟩ := R2.row k hk
          rw [e1]
          rfl
        obtain ⟨l, el⟩ : ∃ l, L 0 = l := ⟨_, rfl⟩
        have EL := Lib.hid el
        rw [el] at l1 l8 hV0 hc0 hr0 hcap0
        clear el
        have hc0' : w2.cell? ad = some (.slice (some a0) l c0) := by have h9 := hc0; rwa [add_zero] at h9
        have hv0 := hV0
        go_upto_region 9 with fail
        clear e3
        go_cut [9] from 41 to 52 (fun v wx => ∃ A6 c6 V', v = .slice A6 (N + 1) c6 ∧ Below w2.heap.size w2 wx ∧ RdR wx wx.heap.size A6 (N + 1) V' (fun r => if r = N then l + 1 else L r) (fun r i => if r = N then (if i = l then 0 else F 0 i) else F r i))
        case first =>
          refine wp_region_inv (by kernel_rfl) (by kernel_rfl) (fun listed a w => ∃ b u, listed = #[b 0, b 1, b 2, b 3, b 4, b 5, b 6, b 7, b 8, b 9, b 10, b 11, b 12] ∧ a = { tmps := #[.slice A n c, .slice A' n' c', undef, undef, .bool false, .slice (some ad) N cc, .bool true, .bool true, .int .i64 (1 + (m3 : Int)), u 9, undef, .slice A n c, .int .i64 (n : Int), .bool (decide (1048576 < (n : Int))), .bool (decide (1048576 < (n : Int))), .slice A' n' c', .int .i64 (n' : Int), .bool (decide (1048576 < (n' : Int))), .bool (decide (1048576 < (n : Int)) || decide (1048576 < (n' : Int))), .slice A n c, .slice (some ad) N cc, .slice (some ad) N cc, .bool true, .slice (some ad) N cc, .bool true, .bool true, .bool true, .bool false, .bool false, .bool true, .bool false, .bool false, undef, undef, undef, .slice A' n' c', .int .i64 (n' : Int), .slice (some ad) N cc, .int .i64 (N : Int), .int .i64 ((n' : Int) % (N : Int)), .int .i64 (1 + (m3 : Int)), u 41, u 42, u 43, u 44, u 45, u 46, u 47, u 48, u 49, u 50, u 51, u 52, undef, undef, undef, undef, undef, undef, undef, undef, undef, undef, undef, undef, undef, undef, undef, undef, undef, undef, undef, undef, undef, undef, undef, undef], defers := [] } ∧ St9 w2 ad a0 N cc l c0 V (fun i => .int .i64 (F 0 i)) (fun i => .int .i64 (if i = l then 0 else F 0 i)) (.int .i64 0) b u w) ?start ?step ?endd
          case start => exact ⟨fun _ => false, fun k => undef, rfl, rfl, St9.start _⟩
          case step =>
            rintro i o ho listed a w ⟨b, u, rfl, rfl, H⟩ h1 h2 K hK
            have hi : i < 13 := (Array.getElem?_eq_some_iff.1 ho).1
            rcases (by omega : i = 0 ∨ i = 1 ∨ i = 2 ∨ i = 3 ∨ i = 4 ∨ i = 5 ∨ i = 6 ∨ i = 7 ∨ i = 8 ∨ i = 9 ∨ i = 10 ∨ i = 11 ∨ i = 12) with rfl | rfl | rfl | rfl | rfl | rfl | rfl | rfl | rfl | rfl | rfl | rfl | rfl
            · cases ho
              go_simp
              refine hK _ _ ⟨_, _, ?_, ?_, H.s41⟩ <;> rfl
            · cases ho
              go_simp
              refine hK _ _ ⟨_, _, ?_, ?_, H.s42⟩ <;> rfl
            · cases ho
              have p0 : b 0 = true := h2 ⟨0, .data⟩ (by simp) rfl
              have p1 : b 1 = true := h2 ⟨1, .data⟩ (by simp) rfl
              obtain ⟨e, e1, e2, e3⟩ := H.f41 p0 h1
              refine step_appM w rfl (.tmp 41) (.tmp 42) 23 rfl w2.heap.size 26 (.slice none 0 0) 24 Try.underlying23 info_ints rfl (by omega) (u 41) 0 (fun _ => .slice none 0 0) V (by rfl) (by rw [e1]; exact Own.at_ e3 e2) ad N cc (by exact H.f42 p1) (fun k hk => (H.bl.cell (by rw [block_add]; exact hab)).trans (hdr k hk)) (fun k hk => honeV k hk) (by omega) (by omega) H.bl.size ?_
              intro gb cap w' hO hg
              rw [Nat.zero_add] at hO ⊢
              refine hK _ _ ⟨_, _, ?_, ?_, H.s43 p0 h1 hg (hO.congr fun i _ => by simp [joinF])⟩ <;> rfl
            · cases ho
              go_simp
              refine hK _ _ ⟨_, _, ?_, ?_, H.s44⟩ <;> rfl
            · cases ho
              go_simp
              refine hK _ _ ⟨_, _, ?_, ?_, H.s45⟩ <;> rfl
            · cases ho
              have p4 : b 4 = true := h2 ⟨4, .data⟩ (by simp) rfl
              have e45 := H.f45 p4
              have nN : 0 < N := by omega
              go_simp
              refine hK _ _ ⟨_, _, ?_, ?_, H.s46⟩ <;> first | rfl | simp [setF, e45]
            · cases ho
              have p5 : b 5 = true := h2 ⟨5, .data⟩ (by simp) rfl
              have e46 := H.f46 p5
              have hc : w.cell? (ad.add 0) = some (.slice (some a0) l c0) := (H.bl.cell (by rw [block_add]; exact hab)).trans hc0
              have hc' : w.cell? ad = some (.slice (some a0) l c0) := (H.bl.cell hab).trans hc0'
              go_simp
              refine hK _ _ ⟨_, _, ?_, ?_, H.s47⟩ <;> first | rfl | simp [setF, e46]
            · cases ho
              have p3 : b 3 = true := h2 ⟨3, .data⟩ (by simp) rfl
              have p6 : b 6 = true := h2 ⟨6, .data⟩ (by simp) rfl
              have p2 : b 2 = true := h2 ⟨2, .chain⟩ (by simp) rfl
              obtain ⟨e, e1, e2, e3⟩ := H.f44 p3 h1
              refine step_appM w rfl (.tmp 44) (.tmp 47) 26 rfl w2.heap.size 3 (.int .i64 0) 8 Try.underlying26 info_int rfl (by omega) (u 44) 0 (fun _ => .int .i64 0) (fun i => .int .i64 (F 0 i)) (by rfl) (by rw [e1]; exact Own.at_ e3 e2) a0 l c0 (by exact H.f47 p6) (fun k hk => (H.bl.cell (by rw [block_add]; exact ha0)).trans (hr0 k hk)) (fun _ _ => rfl) (by omega) (by omega) H.bl.size ?_
              intro gb cap w' hO hg
              rw [Nat.zero_add] at hO ⊢
              refine hK _ _ ⟨_, _, ?_, ?_, H.s48 p2 p3 h1 hg (hO.congr fun i _ => by simp [joinF])⟩ <;> rfl
            · cases ho
              go_simp
              refine hK _ _ ⟨_, _, ?_, ?_, H.s49⟩ <;> rfl
            · cases ho
              have p7 : b 7 = true := h2 ⟨7, .data⟩ (by simp) rfl
              have p8 : b 8 = true := h2 ⟨8, .data⟩ (by simp) rfl
              obtain ⟨e, e1, e2, e3⟩ := H.f49 p8 h1
              refine step_app1 w e (.int .i64 0) rfl (.tmp 48) (.tmp 49) 26 rfl w2.heap.size 3 (.int .i64 0) 8 Try.underlying26 info_int rfl (by omega) (u 48) l (fun i => .int .i64 (if i = l then 0 else F 0 i)) (by rfl) ((H.f48 p7 h1).congr fun i hi => by rw [if_neg (by omega)]) (by exact e1) (At.one e3) (by simp) rfl (by omega) H.bl.size ?_
              intro A5 c5 w' hO _ hg _
              refine hK _ _ ⟨_, _, ?_, ?_, H.s50 p7 h1 hg hO⟩ <;> rfl
            · cases ho
              have p9 : b 9 = true := h2 ⟨9, .data⟩ (by simp) rfl
              obtain ⟨A5, c5, e5⟩ := (H.f50 p9).slice
              have S := H.s51 p9
              rw [e5] at S
              go_simp
              refine hK _ _ ⟨_, _, ?_, ?_, S⟩ <;> first | rfl | simp [setF, e5]
            · cases ho
              have p2 : b 2 = true := h2 ⟨2, .data⟩ (by simp) rfl
              have p10 : b 10 = true := h2 ⟨10, .data⟩ (by simp) rfl
              have p9 := H.ord.2.2.1 p10
              obtain ⟨e, e1, e2, e3⟩ := H.f51 p10 h1
              obtain ⟨A5, c5, e5⟩ := (H.f50 p9).slice
              refine step_app1 w e (u 50) rfl (.tmp 43) (.tmp 51) 23 rfl w2.heap.size 26 (.slice none 0 0) 24 Try.underlying23 info_ints rfl (by omega) (u 43) N (fun r => if r = N then u 50 else V r) (by rfl) ((H.f43 p2 h1).congr fun i hi => by rw [if_neg (by omega)]) (by exact e1) (At.one e3) (by simp) (by rw [e5]; rfl) (by omega) H.bl.size ?_
              intro A6 c6 w' hO _ hg _
              refine hK _ _ ⟨_, _, ?_, ?_, H.s52 p10 h1 hg hO⟩ <;> rfl
            · cases ho
              have p11 : b 11 = true := h2 ⟨11, .data⟩ (by simp) rfl
              go_simp
              refine hK _ _ ⟨_, _, ?_, ?_, H.s9 p11⟩ <;> rfl
          case endd =>
            rintro listed a w hall ⟨b, u, rfl, rfl, H⟩
            have p9 : b 9 = true := hall 9 (by decide)
            have p11 : b 11 = true := hall 11 (by decide)
            have p12 : b 12 = true := hall 12 (by decide)
            have B6 := H.bl
            have e9 := H.f9 p12
            have h6 := H.f52 p11
            have h56 := H.f50 p9
            clear H hall
            obtain ⟨A6, c6, e6⟩ := h6.slice
            obtain ⟨A5, c5, e5⟩ := h56.slice
            rw [e6, e5] at h6
            rw [e5] at h56
            rw [e6] at e9
            clear e5 e6
            go_wp2
            go_meet
            case rel => exact ⟨_, _, _, e9, B6, rdr_more R2 B6 h6 h56⟩
        case rest =>
          obtain ⟨A6, c6, V6, rfl, B6, R6⟩ := hcut
          have habx : ad.block < wc.heap.size := Nat.lt_of_lt_of_le hab B6.size
          have ha0x : a0.block < wc.heap.size := Nat.lt_of_lt_of_le ha0 B6.size
          have hdrx : ∀ k, k < N → wc.cell? (ad.add k) = some (V k) := fun k hk => (B6.cell (by rw [block_add]; exact hab)).trans (hdr k hk)
          have hr0x : ∀ k, k < l → wc.cell? (a0.add k) = some (.int .i64 (F 0 k)) := fun k hk => (B6.cell (by rw [block_add]; exact ha0)).trans (hr0 k hk)
          have hc0x : wc.cell? ad = some (.slice (some a0) l c0) := (B6.cell hab).trans hc0'
          have R2x : RdR wc wc.heap.size (some ad) N V L F := R2.step B6
          clear hdr hr0 hc0 hc0' R2
          obtain ⟨ad1, had1⟩ : ∃ x : Addr, x = if cc = 1 then ad else ad.add 1 := ⟨_, rfl⟩
          obtain ⟨a1, ha1⟩ : ∃ x : Addr, x = if c0 = 1 then a0 else a0.add 1 := ⟨_, rfl⟩
          have hd1 : ∀ k, k < N - 1 → wc.cell? (ad1.add k) = some (V (k + 1)) := fun k hk => by rw [had1, if_neg (by omega), add_add]; exact hdrx (k + 1) (by omega)
          have hr1 : ∀ k, k < l - 1 → wc.cell? (a1.add k) = some (.int .i64 (F 0 (k + 1))) := fun k hk => by rw [ha1, if_neg (by omega), add_add]; exact hr0x (k + 1) (by omega)
          have hd1b : ad1.block < wc.heap.size := by rw [had1]; split <;> first | exact habx | (rw [block_add]; exact habx)
          have ha1b : a1.block < wc.heap.size := by rw [ha1]; split <;> first | exact ha0x | (rw [block_add]; exact ha0x)
          go_upto_region 10 with fail
          refine wp_region_inv (by kernel_rfl) (by kernel_rfl) (fun listed a w => ∃ b u, listed = #[b 0, b 1, b 2, b 3, b 4, b 5, b 6, b 7, b 8, b 9, b 10] ∧ a = { tmps := #[.slice A n c, .slice A' n' c', undef, undef, .bool false, .slice (some ad) N cc, .bool true, .bool true, .int .i64 (1 + (m3 : Int)), .slice A6 (N + 1) c6, u 10, .slice A n c, .int .i64 (n : Int), .bool (decide (1048576 < (n : Int))), .bool (decide (1048576 < (n : Int))), .slice A' n' c', .int .i64 (n' : Int), .bool (decide (1048576 < (n' : Int))), .bool (decide (1048576 < (n : Int)) || decide (1048576 < (n' : Int))), .slice A n c, .slice (some ad) N cc, .slice (some ad) N cc, .bool true, .slice (some ad) N cc, .bool true, .bool true, .bool true, .bool false, .bool false, .bool true, .bool false, .bool false, undef, undef, undef, .slice A' n' c', .int .i64 (n' : Int), .slice (some ad) N cc, .int .i64 (N : Int), .int .i64 ((n' : Int) % (N : Int)), .int .i64 (1 + (m3 : Int)), u41, u42, u43, u44, u45, u46, u47, u48, u49, u50, u51, u52, u 53, u 54, u 55, u 56, u 57, u 58, u 59, u 60, u 61, u 62, undef, undef, undef, undef, undef, undef, undef, undef, undef, undef, undef, undef, undef, undef], defers := [] } ∧ St10 wc ad a0 ad1 a1 N cc l c0 V (fun i => .int .i64 (if i = 0 then 4 else F 0 i)) (.int .i64 4) b u w) ?start ?step ?endd
          case start => exact ⟨fun _ => false, fun k => undef, rfl, rfl, St10.start _⟩
          case step =>
            rintro i o ho listed a w ⟨b, u, rfl, rfl, H⟩ h1 h2 K hK
            have hi : i < 11 := (Array.getElem?_eq_some_iff.1 ho).1
            rcases (by omega : i = 0 ∨ i = 1 ∨ i = 2 ∨ i = 3 ∨ i = 4 ∨ i = 5 ∨ i = 6 ∨ i = 7 ∨ i = 8 ∨ i = 9 ∨ i = 10) with rfl | rfl | rfl | rfl | rfl | rfl | rfl | rfl | rfl | rfl | rfl
            · cases ho
              go_simp
              refine hK _ _ ⟨_, _, ?_, ?_, H.s53⟩ <;> rfl
            · cases ho
              go_simp
              refine hK _ _ ⟨_, _, ?_, ?_, H.s54⟩ <;> rfl
            · cases ho
              have p1 : b 1 = true := h2 ⟨1, .data⟩ (by simp) rfl
              have e54 := H.f54 p1
              have nN : 0 < N := by omega
              go_simp
              refine hK _ _ ⟨_, _, ?_, ?_, H.s55⟩ <;> first | rfl | simp [setF, e54]
            · cases ho
              have p2 : b 2 = true := h2 ⟨2, .data⟩ (by simp) rfl
              have e55 := H.f55 p2
              have hc' : w.cell? ad = some (.slice (some a0) l c0) := (H.bl.cell habx).trans hc0x
              go_simp
              refine hK _ _ ⟨_, _, ?_, ?_, H.s56⟩ <;> first | rfl | simp [setF, e55]
            · cases ho
              have p3 : b 3 = true := h2 ⟨3, .data⟩ (by simp) rfl
              have e56 := H.f56 p3
              have nl : (1 : Int) ≤ (l : Int) := by omega
              go_simp
              by_cases hcc : c0 = 1
              · refine hK _ _ ⟨_, _, ?_, ?_, H.s57⟩ <;> first | rfl | simp [setF, e56, ha1, hcc]
              · refine hK _ _ ⟨_, _, ?_, ?_, H.s57⟩ <;> first | rfl | simp [setF, e56, ha1, hcc, Addr.add]
            · cases ho
              have p0 : b 0 = true := h2 ⟨0, .data⟩ (by simp) rfl
              have p4 : b 4 = true := h2 ⟨4, .data⟩ (by simp) rfl
              obtain ⟨e, e1, e2, e3⟩ := H.f53 p0 h1
              refine step_appMz w rfl (.tmp 53) (.tmp 57) 26 rfl wc.heap.size 3 (.int .i64 0) 8 Try.underlying26 info_int rfl (by omega) e 1 1 (fun _ => .int .i64 4) (fun i => .int .i64 (F 0 (i + 1))) (by exact e1) (Own.at1 e3 e2) a1 (l - 1) (c0 - 1) (by exact H.f57 p4) (fun k hk => (H.bl.cell (by rw [block_add]; exact ha1b)).trans (hr1 k hk)) (fun _ _ => rfl) (by omega) H.bl.size ?_
              intro gb cap w' hO hg
              rw [← e1] at hg
              rw [show 1 + (l - 1) = l by omega] at hO ⊢
              refine hK _ _ ⟨_, _, ?_, ?_, H.s58 p0 h1 hg (hO.congr fun i _ => by unfold joinF; by_cases h0 : i = 0 <;> simp [h0, show i < 1 ↔ i = 0 by omega]; rw [show i - 1 + 1 = i by omega])⟩ <;> rfl
            · cases ho
              have p5 : b 5 = true := h2 ⟨5, .data⟩ (by simp) rfl
              obtain ⟨A5, c5, e5⟩ := (H.f58 p5).slice
              have S := H.s59 p5
              rw [e5] at S
              go_simp
              refine hK _ _ ⟨_, _, ?_, ?_, S⟩ <;> first | rfl | simp [setF, e5]
            · cases ho
              go_simp
              refine hK _ _ ⟨_, _, ?_, ?_, H.s60⟩ <;> rfl
            · cases ho
              have p7 : b 7 = true := h2 ⟨7, .data⟩ (by simp) rfl
              have e60 := H.f60 p7
              have nl : (1 : Int) ≤ (N : Int) := by omega
              go_simp
              by_cases hcc : cc = 1
              · refine hK _ _ ⟨_, _, ?_, ?_, H.s61⟩ <;> first | rfl | simp [setF, e60, had1, hcc]
              · refine hK _ _ ⟨_, _, ?_, ?_, H.s61⟩ <;> first | rfl | simp [setF, e60, had1, hcc, Addr.add]
            · cases ho
              have p6 : b 6 = true := h2 ⟨6, .data⟩ (by simp) rfl
              have p8 : b 8 = true := h2 ⟨8, .data⟩ (by simp) rfl
              have p5 := H.ord.1 p6
              obtain ⟨e, e1, e2, e3⟩ := H.f59 p6 h1
              obtain ⟨A5, c5, e5⟩ := (H.f58 p5).slice
              refine step_appMz w rfl (.tmp 59) (.tmp 61) 23 rfl wc.heap.size 26 (.slice none 0 0) 24 Try.underlying23 info_ints rfl (by omega) e 1 1 (fun _ => u 58) (fun i => V (i + 1)) (by exact e1) (Own.at1 e3 e2) ad1 (N - 1) (cc - 1) (by exact H.f61 p8) (fun k hk => (H.bl.cell (by rw [block_add]; exact hd1b)).trans (hd1 k hk)) (fun k hk => honeV (k + 1) (by omega)) (by omega) H.bl.size ?_
              intro gb cap w' hO hg
              rw [← e1] at hg
              rw [show 1 + (N - 1) = N by omega] at hO ⊢
              refine hK _ _ ⟨_, _, ?_, ?_, H.s62 p6 h1 hg (hO.congr fun i _ => by unfold joinF; by_cases h0 : i = 0 <;> simp [h0, show i < 1 ↔ i = 0 by omega]; rw [show i - 1 + 1 = i by omega])⟩ <;> rfl
            · cases ho
              have p9 : b 9 = true := h2 ⟨9, .data⟩ (by simp) rfl
              go_simp
              refine hK _ _ ⟨_, _, ?_, ?_, H.s10 p9⟩ <;> rfl
          case endd =>
            rintro listed a wd hall ⟨b, u, rfl, rfl, H⟩
            have p5 : b 5 = true := hall 5 (by decide)
            have p9 : b 9 = true := hall 9 (by decide)
            have p10 : b 10 = true := hall 10 (by decide)
            have B7 := H.bl
            have e10 := H.f10 p10
            have h62 := H.f62 p9
            have h58 := H.f58 p5
            clear H hall p5 p9 p10
            obtain ⟨A7, c7, e7⟩ := h62.slice
            obtain ⟨A8, c8, e8⟩ := h58.slice
            rw [e7, e8] at h62
            rw [e8] at h58
            rw [e7] at e10
            clear e7 e8
            have Rf := R2x.step B7
            have Rx := R6.step B7
            have Ry := rdr_first R2x B7 h62 h58
            have BB := below_seq (below_seq B2 B6) B7
            clear h62 h58 R2x R6 hdrx hr0x hc0x hd1 hr1 hd1b ha1b had1 ha1 habx ha0x B6 B7 B2
            obtain ⟨k, hk, hk1, hk2⟩ : ∃ k : Nat, 1 + (m3 : Int) = (k : Int) ∧ 1 ≤ k ∧ k ≤ N := ⟨1 + m3, by omega, by omega, by omega⟩
            have CF := Lib.hid (c_FringeValid (some ad) k cc V L F wd (by omega) (Rf.less hk2))
            have CX := Lib.hid (c_FringeValid _ (N + 1) c6 _ _ _ wd (by omega) Rx)
            have CY := Lib.hid (c_FringeValid _ N c7 _ _ _ wd (by omega) Ry)
            rw [fvB_less HV.out hk1 hk2] at CF
            rw [fvB_lenr (r := N) (by omega) (by have := EL.out; show (if N = N then l + 1 else L N) ≠ (if 0 = N then l + 1 else L 0); rw [if_pos rfl, if_neg (by omega)]; omega)] at CX
            rw [fvB_num (r := 0) (i := 0) (by omega) (by show 0 < (if 0 = 0 then l else L 0); rw [if_pos rfl]; omega) (by simp)] at CY
            clear Rf Rx Ry
            have ik : (k : Int) ≤ (cc : Int) := by omega
            dsimp only
            rw [hk, e10]
            clear hk e10
            go_wp2_with fail
            refine CF.out.mono ?_
            rintro e w' ⟨rfl, rfl⟩
            go_wp2_with fail
            refine CX.out.mono ?_
            rintro e w' ⟨rfl, rfl⟩
            go_wp2_with fail
            refine CY.out.mono ?_
            rintro e w' ⟨rfl, rfl⟩
            go_wp2
            go_ret
            exact ⟨rfl, BB⟩
      · have hv' : fvB N L F = false := by simpa using hv
        rw [hv'] at CV CS
        clear hv
        go_wp2_with fail
        refine CV.out.mono ?_
        rintro e w' ⟨rfl, rfl⟩
        go_wp2_with fail
        refine CS.out.mono ?_
        rintro e w2 ⟨rfl, m2, rfl⟩
        have B2 := below_drewN B1 m2
        go_wp2
        go_ret
        exact ⟨rfl, B2⟩
    · go_enter Try.func3, Try.ntmps3
      go_wp2
      go_ret
      exact ⟨rfl, Below.refl _ _⟩
  · go_enter Try.func3, Try.ntmps3
    go_wp2
    go_ret
    exact ⟨rfl, Below.refl _ _⟩
end Go.Proofs.Ytpanefjjghlhiaa
