/-
  Contracts: arrays shifted and turned.
-/
import Derived.Test.YtpabcpiiolfakaaHelp
import Derived.Lib.SliceRun
namespace Go.Proofs.Ytpabcpiiolfakaa
open Go.RowKit Go.Deep Go.Shelf

theorem Own2.long {w : World} {B n : Nat} {t : TypeId} {v : Value} {f : Nat → Value} (h : Own2 w B t v n f) : ∃ A c, v = .slice A n c ∧ n ≤ c ∧ Made w B t A (n * 2) f := by
  rcases h.2 with ⟨rfl, rfl⟩ | ⟨b, cap, cur, rfl, hb, hh, hc, _, _, hx⟩
  · exact ⟨_, _, rfl, Nat.le_refl _, fun h => absurd h (by omega)⟩
  · refine ⟨_, _, rfl, hc, fun _ => ⟨b, rfl, hb, cur, hh, fun i hi => ?_⟩⟩
    have h1 : (cur.toList.take (n * 2))[i]? = some (f i) := by rw [hx]; simp [hi]
    rw [List.getElem?_take, if_pos (by omega)] at h1
    simpa using h1
theorem Own2.empty' (w : World) (t : TypeId) (f : Nat → Value) {B : Nat} (hB : B ≤ w.heap.size) : Own2 (w.alloc (.cells #[] t)) B t (.slice (some ⟨w.heap.size, 0, none⟩) 0 0) 0 f := by
  have := World.ownsRow_made (e := t) (size := 2) (base := B) w #[] 0 hB (by simp) (by simp)
  exact this
/-- Several pairs appended onto an empty list. -/
theorem wpList_copy2 {P : Program} {ops : Array Oper} {rest : List Oper} {o : Oper} {a : Act} {Q : Exit → Act → World → Prop} (w : World) (hgd : o.guard = none) (s x : Operand) (t : TypeId)
    (ho : o.op = .call { callee := .builtin .append, args := #[s, x], argTypes := #[t, t] })
    (base : Nat) (e : TypeId) (z : Value) (bytes : Nat) (ht : P.underlying t = some (.slice e)) (hinfo : (P.info? e).map (fun i => (i.zero, i.size, i.bytes)) = some (some z, 2, bytes)) (hzs : z.cells.size = 2) (hby : bytes ≤ 64)
    (v : Value) (f g : Nat → Value) (hs : a.eval s = v) (hown : Own2 w base e v 0 f) (ad : Addr) (m c B : Nat) (hx : a.eval x = .slice (some ad) m c) (hr : Rd w B (some ad) (m * 2) g) (h1 : ∀ k, k < m * 2 → (g k).oneCell' = true)
    (hm : m ≤ 1000000000) (hbase : base ≤ w.heap.size)
    (h : ∀ v' w', Own2 w' base e v' m g → Below base w w' → wpList P ops Q rest (a.put o.dst v') w') : wpList P ops Q (o :: rest) a w := by
  obtain ⟨i, hi, hz0, hz1, hz2⟩ := info_parts hinfo
  refine wpList_append_own _ hgd s x t ho base e i z 2 bytes ht hi hz0 hz1 hz2 hzs (by decide) v 0 _ hs hown ad m c ((List.range (m * 2)).map g) hx (by simp) ?_ ?_
    (by unfold maxLen; omega) ?_ hbase ?_
  · intro j u hj
    have hjm : j < m * 2 := by
      have := (List.getElem?_eq_some_iff.1 hj).1
      simpa using this
    obtain ⟨ad', e', _, hc⟩ := hr (by omega)
    injection e' with e'
    subst e'
    rw [hc j hjm]
    simpa [hjm] using hj
  · intro u hu
    obtain ⟨k, hk, rfl⟩ := List.mem_map.1 hu
    exact h1 k (List.mem_range.1 hk)
  · have : (0 + m) * bytes ≤ 1000000001 * 64 := Nat.mul_le_mul (by omega) hby
    omega
  · intro v' w1 hown' hgrow _
    refine h v' w1 ?_ ((Below.refl _ _).grown hgrow hbase hown.from_)
    unfold Own2
    simpa using hown'
theorem flat_one (X Y : Nat → Int) (k : Nat) : (flat X Y k).oneCell' = true := by unfold flat; split <;> rfl

/-- An array shifted. -/
theorem av_turn {X Y : Nat → Int} {n : Nat} (h : avB X Y n = true) : avB (fun i => -Y i) X n = true := by
  obtain ⟨⟨h2, h7⟩, h3, h4⟩ := avB_true h
  exact avB_mk h2 h7 (fun i hi => by have := h3 i hi; exact ⟨by omega, this.1⟩) (fun i j hi hj hne e => h4 i j hi hj hne ⟨e.2, by omega⟩)
/-- An array after k quarter turns. -/
def tnX (X Y : Nat → Int) : Nat → (Nat → Int) × (Nat → Int)
  | 0 => (X, Y)
  | k + 1 => (fun i => -(tnX X Y k).2 i, (tnX X Y k).1)
theorem av_tn {X Y : Nat → Int} {n : Nat} (h : avB X Y n = true) : ∀ k, avB (tnX X Y k).1 (tnX X Y k).2 n = true
  | 0 => h
  | k + 1 => av_turn (av_tn h k)

theorem c_Clone (ad : Addr) (n c : Nat) (X Y : Nat → Int) (w : World) (hn : n ≤ 1048576) (h1 : 0 < n) (h : RdA w w.heap.size (some ad) n X Y) :
    Calls Try.prog 62 #[.slice (some ad) n c] w fun e w' => ∃ A c', e = .returned (.slice A n c') ∧ n ≤ c' ∧ Below w.heap.size w w' ∧ Made w' w.heap.size 62 A (n * 2) (flat X Y) := by
  have hb : Below w.heap.size w (w.alloc (.cells #[] 62)) := (Below.refl _ _).alloc (Nat.le_refl _) _
  have h' := h.below hb
  have hO := Own2.empty' w 62 (fun _ => .int .i64 0) (Nat.le_refl _)
  have hs := hb.size
  have hq : ∀ (w : World) (a : Option Addr) (n c n' c' : Nat), (binOp .eql 23 (.slice a n c) (.slice none n' c')).run Try.prog w = .ok (.bool a.isNone) w := fun w a n c n' c' => Lib.run_eql_slice_nil w _ _ a n c n' c' Try.underlying23
  clear h
  go_enter Try.func62, Try.ntmps62
  go_wp2_with (at_builtin; refine wpList_copy2 _ rfl _ _ 23 rfl w.heap.size 62 (.agg #[.int .i64 0, .int .i64 0]) 16 Try.underlying23 info_ant rfl (by omega) _ (fun _ => .int .i64 0) (flat X Y) (by rfl) (by exact hO) ad n c w.heap.size (by rfl) (by exact h') (fun k _ => flat_one X Y k) (by omega) (by exact hs) ?_; intro v' w1 hown' hb1)
  obtain ⟨A1, c1, rfl, hc1, hm⟩ := hown'.long
  go_ret
  exact ⟨_, _, rfl, hc1, hb.trans hb1, hm⟩
set_option maxHeartbeats 1000000 in
theorem c_inRange2 (n : Int) (h1 : -2000 ≤ n) (h2 : n ≤ 2000) (w : World) : Calls Try.prog 63 #[.int .i64 n, .int .i64 2000] w fun e w' => e = .returned (.bool true) ∧ w = w' := by
  go_enter Try.func63, Try.ntmps63
  go_wp2
  go_ret
  exact ⟨ret_bool (by simp), rfl⟩
set_option maxHeartbeats 2000000 in
theorem c_ArrayShift (ad : Addr) (n c : Nat) (X Y : Nat → Int) (x y : Int) (w : World) (hnc : n ≤ c) (hv : avB X Y n = true) (hx : -2000 ≤ x ∧ x ≤ 2000) (hy : -2000 ≤ y ∧ y ≤ 2000) (h : RdA w w.heap.size (some ad) n X Y) :
    Calls Try.prog 29 #[.slice (some ad) n c, .int .i64 x, .int .i64 y] w (Rets2 w (lenIf (avB (fun i => X i + x) (fun i => Y i + y) n) n) (fun i => X i + x) (fun i => Y i + y) (avB (fun i => X i + x) (fun i => Y i + y) n)) := by
  obtain ⟨⟨h2, h7⟩, hXY, _⟩ := avB_true hv
  have C1 := Lib.hid (c_ArrayValid (some ad) n c X Y _ (by omega) hnc h)
  rw [hv] at C1
  have HXY := Lib.hid hXY
  have HA := Lib.hid h
  obtain ⟨d, hd⟩ : ∃ d, avB (fun i => X i + x) (fun i => Y i + y) n = d := ⟨_, rfl⟩
  rw [hd]
  have HD := Lib.hid hd
  clear h hXY hd
  obtain ⟨x1, x2⟩ := hx
  obtain ⟨y1, y2⟩ := hy
  go_enter Try.func29, Try.ntmps29
  go_wp2_with (first
    | (go_at_call 54; refine C1.out.mono ?_; rintro e w1 ⟨rfl, hb1⟩)
    | (go_at_call 63; refine (c_inRange2 _ (by omega) (by omega) _).mono ?_; rintro e w' ⟨rfl, rfl⟩))
  have hs1 := hb1.size
  go_loopw [8, 26] (fun v i wr => ∃ k : Nat, k ≤ n ∧ i = .int .i64 k ∧ Below w.heap.size w wr ∧ Own2 wr w.heap.size 62 v k (flat (fun i => X i + x) (fun i => Y i + y))) (fun _ i _ => n - (intOf i).toNat)
  case atStart => exact ⟨0, Nat.zero_le _, rfl, hb1, Own2.nil _ _ _ _⟩
  case round =>
    obtain ⟨k, hk, rfl, hb, hO⟩ := hrel
    by_cases hlt : k < n
    · obtain ⟨ad', e, hab, hc⟩ := HA.out.at_ hlt
      injection e with e
      subst e
      have k1 : wr.cell? (ad.add (k * 2)) = some (.int .i64 (X k)) := (hb.cell (by rw [block_add]; exact hab)).trans (hc k hlt).1
      have k2 : wr.cell? ⟨(ad.add (k * 2)).block, (ad.add (k * 2)).off + 1, none⟩ = some (.int .i64 (Y k)) := (hb.cell (by simp only [block_add]; exact hab)).trans (hc k hlt).2
      have bk := HXY.out k hlt
      obtain ⟨⟨b1, b2⟩, b3, b4⟩ := bk
      have f0 : flat (fun i => X i + x) (fun i => Y i + y) (k * 2) = .int .i64 (X k + x) := flat_even _ _ _
      have f1 : flat (fun i => X i + x) (fun i => Y i + y) (k * 2 + 1) = .int .i64 (Y k + y) := flat_odd _ _ _
      have hsz := hb.size
      have hB2 : Below w.heap.size w (wr.alloc (.cells #[.int .i64 (X k), .int .i64 (Y k)] 62)) := hb.alloc hsz _
      have hO2 := hO.alloc (.cells #[.int .i64 (X k), .int .i64 (Y k)] 62)
      have hs2 := hB2.size
      clear hc hO
      go_wp2_with (at_builtin; refine wpList_app2 (wr.alloc (.cells #[.int .i64 (X k), .int .i64 (Y k)] 62)) (.int .i64 (X k + x)) (.int .i64 (Y k + y)) rfl _ _ 23 rfl w.heap.size 62 (.agg #[.int .i64 0, .int .i64 0]) 16 Try.underlying23 info_ant rfl (by omega) _ k (flat (fun i => X i + x) (fun i => Y i + y)) (by rfl) (by exact hO2) (by rw [World.size_alloc]; rfl) f0 f1 rfl rfl (by omega) hs2 ?_; intro v' w6 hown' hb6)
      go_roundw
      case rel => exact ⟨k + 1, by omega, by go_num, hB2.trans hb6, hown'⟩
      case measure => simp [intOf]; omega
    · obtain rfl : k = n := by omega
      obtain ⟨A1, c1, rfl, hc1, hm⟩ := hO.long
      obtain ⟨g1, rfl, hg1, R1⟩ := hm (by omega)
      have CV := Lib.hid (c_ArrayValid (some ⟨g1, 0, none⟩) k c1 (fun i => X i + x) (fun i => Y i + y) wr (by omega) hc1 (R1.rd R1.lt))
      rw [HD.out] at CV
      clear hO hv HD
      cases d with
      | true =>
        go_wp2_with (go_at_call 54; refine CV.out.mono ?_; rintro e w3 ⟨rfl, hb3⟩)
        go_ret2
        exact ⟨_, _, rfl, hc1, below_seq hb hb3, fun _ => ⟨g1, rfl, hg1, R1.step hb3⟩⟩
      | false =>
        go_wp2_with (go_at_call 54; refine CV.out.mono ?_; rintro e w3 ⟨rfl, hb3⟩)
        go_ret2
        exact ⟨_, _, rfl, Nat.le_refl _, below_seq hb hb3, fun h => absurd h (by simp [lenIf])⟩
set_option maxHeartbeats 2000000 in
theorem c_ArrayTurn (ad : Addr) (n c : Nat) (X Y : Nat → Int) (k : Nat) (w : World) (hnc : n ≤ c) (hv : avB X Y n = true) (hk : k ≤ 3) (h : RdA w w.heap.size (some ad) n X Y) :
    Calls Try.prog 28 #[.slice (some ad) n c, .int .i64 k] w (Rets2 w n (tnX X Y k).1 (tnX X Y k).2 true) := by
  obtain ⟨⟨h2, h7⟩, hXY, _⟩ := avB_true hv
  have C1 := Lib.hid (c_ArrayValid (some ad) n c X Y _ (by omega) hnc h)
  rw [hv] at C1
  have CC := Lib.hid (fun (w' : World) (hb : Below w.heap.size w w') => c_Clone ad n c X Y w' (by omega) (by omega) (RdA.step h hb))
  have hk3 : (k : Int) ≤ 3 := by omega
  clear h
  go_enter Try.func28, Try.ntmps28
  go_wp2_with (first
    | (go_at_call 54; refine C1.out.mono ?_; rintro e w1 ⟨rfl, hb1⟩)
    | (go_at_call 62; refine (CC.out _ hb1).mono ?_; rintro e w2 ⟨A2, c2, rfl, hc2, hb2, hm2⟩))
  obtain ⟨g1, rfl, hg1, R1⟩ := hm2 (by omega)
  have HB := Lib.hid (fun m => (avB_true (av_tn hv m)).2.1)
  have B2 := below_seq hb1 hb2
  have gw : w.heap.size ≤ g1 := Nat.le_trans hb1.size hg1
  clear hm2 hv hXY hb1 hb2 hg1 C1 CC
  go_loopw [23] (fun p wr => ∃ m : Nat, m ≤ k ∧ p = .int .i64 m ∧ Below w.heap.size w wr ∧ Row wr g1 62 (n * 2) (flat (tnX X Y m).1 (tnX X Y m).2)) (fun p _ => k - (intOf p).toNat)
  case atStart => exact ⟨0, Nat.zero_le _, rfl, B2, R1⟩
  case round =>
    obtain ⟨m, hm, rfl, hb, hr⟩ := hrel
    have HBm := HB.out m
    generalize hU : tnX X Y m = U at hr HBm
    obtain ⟨U, V⟩ := U
    simp only at hr HBm
    have HBm := Lib.hid HBm
    by_cases hlt : m < k
    · go_wp2
      go_loopw [27] (fun q wr => ∃ i : Nat, i ≤ n ∧ q = .int .i64 i ∧ Below w.heap.size w wr ∧ Row wr g1 62 (n * 2) (flat (fun j => if j < i then -V j else U j) (fun j => if j < i then U j else V j))) (fun q _ => n - (intOf q).toNat)
      case atStart => exact ⟨0, Nat.zero_le _, rfl, hb, hr.congr (flat_congr (fun i _ => by simp) (fun i _ => by simp))⟩
      case round =>
        obtain ⟨i, hi, rfl, hbi, hri⟩ := hrel
        clear hb hr
        by_cases hit : i < n
        · have k1 := hri.cell (i := i * 2) (by omega)
          have k2 := hri.cell (i := i * 2 + 1) (by omega)
          rw [flat_even, if_neg (by omega)] at k1
          rw [flat_odd, if_neg (by omega)] at k2
          have z1 := hri.frozen (i * 2)
          have z2 := hri.frozen (i * 2 + 1)
          have bi := HBm.out i hit
          have e1 : IntKind.i64.wrap (-V i) = -V i := IntWalk.i64_in _ (by omega)
          have hz : (i : Int) < (n : Int) := by omega
          have gl := hri.lt
          have RR := row_set2 (k := i) (F' := fun j => if j < i + 1 then -V j else U j) (G' := fun j => if j < i + 1 then U j else V j) hri
            (fun j _ => by by_cases e : j = i <;> simp [e]; by_cases e2 : j < i <;> simp [e2] <;> omega) (fun j _ => by by_cases e : j = i <;> simp [e]; by_cases e2 : j < i <;> simp [e2] <;> omega)
          have hsz := hbi.size
          simp only [show i < i + 1 from by omega, if_true] at RR
          have HRR := Lib.hid (RR.alloc (.cells #[.int .i64 (U i), .int .i64 (V i)] 62))
          obtain ⟨⟨b1, b2⟩, b3, b4⟩ := bi
          clear hri RR HB
          go_wp2
          go_roundw
          case rel =>
            exact ⟨i + 1, by omega, by go_num, ((hbi.setCell (p := ⟨g1, _, none⟩) gw _).setCell (p := ⟨g1, _, none⟩) gw _).alloc (by simpa [World.setCell] using hsz) _, HRR.out⟩
          case measure => simp [intOf]; omega
        · have e : i = n := by omega
          go_wp2
          go_roundw
          case rel =>
            refine ⟨m + 1, by omega, by go_num, hbi, hri.congr ?_⟩
            rw [e]
            refine flat_congr (fun j hj => ?_) (fun j hj => ?_)
            · rw [if_pos hj]; simp only [tnX]; rw [hU]
            · rw [if_pos hj]; simp only [tnX]; rw [hU]
          case measure => simp [intOf]; omega
    · have e : m = k := by omega
      go_wp2
      go_ret2
      refine ⟨_, _, rfl, hc2, hb, fun _ => ⟨g1, rfl, gw, ?_⟩⟩
      rw [← e, hU]
      exact hr
end Go.Proofs.Ytpabcpiiolfakaa
