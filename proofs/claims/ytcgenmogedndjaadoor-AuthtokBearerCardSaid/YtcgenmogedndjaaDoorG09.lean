/- The texts AuthSpec, Same, AuthRead, ByteRow, AuthSmall, Hdr, AuthOpen, AuthBearer, AuthOne, AuthAwake in one. -/
import Derived.Test.YtcgenmogedndjaaDoorG01
import Derived.Test.YtcgenmogedndjaaDoorG04
import Derived.Test.YtcgenmogedndjaaDoorG07
import Derived.Test.YtcgenmogedndjaaDoorG08
import Derived.Lib.SmallJoins
namespace Go.Proofs.YtcgenmogedndjaaDoor
open Go.RowKit Go.Proofs.YtcgenmogedndjaaDoorW.PrintWords
theorem tok_bytes (k : Sec) (c : Clm) : bytesOf (tokS k c) = sp3 (payL k.id c) ++ 46 :: sp3 (mac k.key (payL k.id c)) := by
  unfold tokS
  rw [bytesOf_app, bytesOf_app, bytes_strOf (sp3_Bytes _ (payL_Bytes _ _)), bytes_strOf (sp3_Bytes _ (mac_Bytes _ _)), List.append_assoc]
  rfl
/-- What stands ahead of a text's first point, in letters; what stands behind it. -/
def frontL (s : ByteArray) : Option (List Int) := unRun (bytesOf (frontOf s)) 0 0 []
def backL (s : ByteArray) : Option (List Int) := unRun (bytesOf (backOf s)) 0 0 []
theorem hasDot_lt {s : ByteArray} (h : hasDot s = true) : dotAt (bytesOf s) < s.size := of_decide_eq_true h
theorem front_bytes {s : ByteArray} (h : hasDot s = true) : bytesOf (frontOf s) = (bytesOf s).take (dotAt (bytesOf s)) := by
  unfold frontOf
  rw [if_pos h, bytesOf_extract, List.drop_zero, Nat.sub_zero]
theorem back_bytes {s : ByteArray} (h : hasDot s = true) : bytesOf (backOf s) = (bytesOf s).drop (dotAt (bytesOf s) + 1) := by
  unfold backOf
  rw [if_pos h, bytesOf_extract, List.take_of_length_le (by rw [List.length_drop, bytesOf_length]; exact Nat.le_refl _)]
theorem tok_parts (k : Sec) (c : Clm) : hasDot (tokS k c) = true ∧ frontL (tokS k c) = some (payL k.id c) ∧ backL (tokS k c) = some (mac k.key (payL k.id c)) := by
  have hb := tok_bytes k c
  have hd : dotAt (bytesOf (tokS k c)) = (sp3 (payL k.id c)).length := by rw [hb, dotAt_app _ _ (sp3_no46 _ (payL_Bytes _ _))]
  have h : hasDot (tokS k c) = true := decide_eq_true (by
    rw [hd, ← bytesOf_length, hb]
    simp)
  refine ⟨h, ?_, ?_⟩
  · unfold frontL
    rw [front_bytes h, hd, hb, List.take_left, unRun_spelt _ (payL_Bytes _ _)]
  · unfold backL
    have e : sp3 (payL k.id c) ++ 46 :: sp3 (mac k.key (payL k.id c)) = (sp3 (payL k.id c) ++ [46]) ++ sp3 (mac k.key (payL k.id c)) := by simp
    rw [back_bytes h, hd, hb, e, show (sp3 (payL k.id c)).length + 1 = (sp3 (payL k.id c) ++ [46]).length by simp, List.drop_left, unRun_spelt _ (mac_Bytes _ _)]
theorem tok_of {s : ByteArray} {b m : List Int} (h : hasDot s = true) (hf : frontL s = some b) (hk : backL s = some m) (k : Sec) (c : Clm) (hp : b = payL k.id c) (hm : m = mac k.key b) : tokS k c = s := by
  apply bytesOf_inj
  have h1 := spelt_unRun _ _ (Bytes_bytesOf _) hf
  have h2 := spelt_unRun _ _ (Bytes_bytesOf _) hk
  rw [tok_bytes, ← hp, ← hm, h1.1, h2.1, front_bytes h, back_bytes h]
  exact (drop_dot _ (by rw [bytesOf_length]; exact hasDot_lt h)).symm
theorem tok_inj {k k' : Sec} {c c' : Clm} (h : tokS k c = tokS k' c') (hk : 0 ≤ k.id ∧ k.id ≤ 1099511627776) (hk' : 0 ≤ k'.id ∧ k'.id ≤ 1099511627776) (hc : ClmOk c) (hc' : ClmOk c') : k.id = k'.id ∧ c = c' := by
  have h1 := (tok_parts k c).2.1
  rw [h, (tok_parts k' c').2.1] at h1
  have h2 : payL k.id c = payL k'.id c' := (Option.some.inj h1).symm
  obtain ⟨_, a1, a2⟩ := parse_pay k.id c hk hc
  obtain ⟨_, b1, b2⟩ := parse_pay k'.id c' hk' hc'
  rw [h2] at a1 a2
  exact ⟨a1.symm.trans b1, a2.symm.trans b2⟩
/-! ### IDs rise -/
theorem rise_ids : ∀ (L : List Sec) (last : Int), rise last L = true → ∀ i j, i < j → j < L.length → (L.getD i Sec.none).id < (L.getD j Sec.none).id
  | [], _, _, i, j, _, hj => by simp at hj
  | a :: t, last, h, i, j, hij, hj => by
    rw [rise, Bool.and_eq_true, decide_eq_true_eq] at h
    obtain ⟨j', rfl⟩ : ∃ j', j = j' + 1 := ⟨j - 1, by omega⟩
    simp only [List.length_cons] at hj
    rw [List.getD_cons_succ]
    cases i with
    | zero =>
      rw [List.getD_cons_zero]
      have := rise_all t a.id h.2 (t.getD j' Sec.none) (by rw [List.getD_eq_getElem?_getD, List.getElem?_eq_getElem (by omega)]; exact List.getElem_mem _)
      exact this.1
    | succ i' =>
      rw [List.getD_cons_succ]
      exact rise_ids t a.id h.2 i' j' (by omega) (by omega)
theorem checkB_ids {L : List Sec} (h : checkB L = true) (i j : Nat) (hi : i < L.length) (hj : j < L.length) (he : (L.getD i Sec.none).id = (L.getD j Sec.none).id) : i = j := by
  have h2 := h
  rw [checkB_eq (checkB_len h)] at h2
  rcases Nat.lt_trichotomy i j with hlt | heq | hgt
  · have := rise_ids L _ h2 i j hlt hj; omega
  · exact heq
  · have := rise_ids L _ h2 j i hgt hi; omega
theorem mem_getD {L : List Sec} {k : Sec} (h : k ∈ L) : ∃ i, i < L.length ∧ L.getD i Sec.none = k := by
  obtain ⟨i, hi, rfl⟩ := List.getElem_of_mem h
  exact ⟨i, hi, by rw [List.getD_eq_getElem?_getD, List.getElem?_eq_getElem hi]; rfl⟩
theorem getD_mem {L : List Sec} {i : Nat} (h : i < L.length) : L.getD i Sec.none ∈ L := by
  rw [List.getD_eq_getElem?_getD, List.getElem?_eq_getElem h]
  exact List.getElem_mem _
theorem checkB_same {L : List Sec} (h : checkB L = true) {k k' : Sec} (hk : k ∈ L) (hk' : k' ∈ L) (he : k.id = k'.id) : k = k' := by
  obtain ⟨i, hi, rfl⟩ := mem_getD hk
  obtain ⟨j, hj, rfl⟩ := mem_getD hk'
  rw [checkB_ids h i j hi hj he]
/-- What a text says: why it says nothing, or its claim. -/
def RdSpec (L : List Sec) (now : Int) (s : ByteArray) (x : Clm) (f : Int) : Prop :=
  (checkB L = false ∧ x = Clm.none ∧ f = 102) ∨
  (checkB L = true ∧ (∀ k ∈ L, ∀ c, ClmOk c → tokS k c ≠ s) ∧ x = Clm.none ∧ f = 100) ∨
  (checkB L = true ∧ ∃ k ∈ L, ∃ c, ClmOk c ∧ tokS k c = s ∧ ((c.upto ≤ now ∧ x = Clm.none ∧ f = 101) ∨ (now < c.upto ∧ x = c ∧ f = 0)))
theorem RdSpec.check {L : List Sec} {now : Int} {s : ByteArray} (h : checkB L = false) : RdSpec L now s Clm.none 102 := .inl ⟨h, rfl, rfl⟩
theorem RdSpec.no {L : List Sec} {now : Int} {s : ByteArray} (h : checkB L = true) (hn : ∀ k ∈ L, ∀ c, ClmOk c → tokS k c ≠ s) : RdSpec L now s Clm.none 100 := .inr (.inl ⟨h, hn, rfl, rfl⟩)
theorem RdSpec.over {L : List Sec} {now : Int} {s : ByteArray} (h : checkB L = true) {k : Sec} (hk : k ∈ L) {c : Clm} (hc : ClmOk c) (ht : tokS k c = s) (hn : c.upto ≤ now) : RdSpec L now s Clm.none 101 := .inr (.inr ⟨h, k, hk, c, hc, ht, .inl ⟨hn, rfl, rfl⟩⟩)
theorem RdSpec.yes {L : List Sec} {now : Int} {s : ByteArray} (h : checkB L = true) {k : Sec} (hk : k ∈ L) {c : Clm} (hc : ClmOk c) (ht : tokS k c = s) (hn : now < c.upto) : RdSpec L now s c 0 := .inr (.inr ⟨h, k, hk, c, hc, ht, .inr ⟨hn, rfl, rfl⟩⟩)
theorem RdSpec.unique {L : List Sec} {now : Int} {s : ByteArray} {x y : Clm} {f g : Int} (h : RdSpec L now s x f) (k : RdSpec L now s y g) : x = y ∧ f = g := by
  rcases h with ⟨h1, rfl, rfl⟩ | ⟨h1, h2, rfl, rfl⟩ | ⟨h1, a, ha, c, hc, hs, h3⟩ <;> rcases k with ⟨k1, rfl, rfl⟩ | ⟨k1, k2, rfl, rfl⟩ | ⟨k1, b, hb, d, hd, ht, k3⟩
  · exact ⟨rfl, rfl⟩
  · rw [h1] at k1; cases k1
  · rw [h1] at k1; cases k1
  · rw [h1] at k1; cases k1
  · exact ⟨rfl, rfl⟩
  · exact absurd ht (h2 b hb d hd)
  · rw [h1] at k1; cases k1
  · exact absurd hs (k2 a ha c hc)
  · have ra := checkB_all h1 a ha
    have rb := checkB_all h1 b hb
    obtain ⟨_, rfl⟩ := tok_inj (hs.trans ht.symm) ⟨ra.1, ra.2.1⟩ ⟨rb.1, rb.2.1⟩ hc hd
    rcases h3 with ⟨h4, rfl, rfl⟩ | ⟨h4, rfl, rfl⟩ <;> rcases k3 with ⟨k4, rfl, rfl⟩ | ⟨k4, rfl, rfl⟩
    · exact ⟨rfl, rfl⟩
    · omega
    · omega
    · exact ⟨rfl, rfl⟩
/-- No token: there is no point, or something is spelt wrongly. -/
theorem no_tok_spelt {s : ByteArray} (h : hasDot s = false ∨ frontL s = none ∨ backL s = none) (k : Sec) (c : Clm) : tokS k c ≠ s := by
  rintro rfl
  obtain ⟨a, b, d⟩ := tok_parts k c
  rw [a, b, d] at h
  simp at h
/-- No token: what is spelt is no payload. -/
theorem no_tok_parse {s : ByteArray} {b : List Int} (hf : frontL s = some b) (h : parseB b = false) (k : Sec) (hk : 0 ≤ k.id ∧ k.id ≤ 1099511627776) (c : Clm) (hc : ClmOk c) : tokS k c ≠ s := by
  rintro rfl
  rw [(tok_parts k c).2.1] at hf
  obtain rfl := Option.some.inj hf
  rw [(parse_pay k.id c hk hc).1] at h
  cases h
/-- Whose token it must be. -/
theorem tok_whose {s : ByteArray} {b m : List Int} (hf : frontL s = some b) (hm : backL s = some m) (k : Sec) (hk : 0 ≤ k.id ∧ k.id ≤ 1099511627776) (c : Clm) (hc : ClmOk c) (ht : tokS k c = s) : k.id = idOf b ∧ c = clmOf b ∧ m = mac k.key b := by
  subst ht
  obtain ⟨_, h1, h2⟩ := tok_parts k c
  rw [h1] at hf
  rw [h2] at hm
  obtain rfl := Option.some.inj hf
  obtain rfl := Option.some.inj hm
  obtain ⟨_, a1, a2⟩ := parse_pay k.id c hk hc
  exact ⟨a1.symm, a2.symm, rfl⟩
end Go.Proofs.YtcgenmogedndjaaDoor
namespace Go.Proofs.YtcgenmogedndjaaDoor
open Go.RowKit Go.Proofs.YtcgenmogedndjaaDoorW.PrintWords
theorem take_snoc' (l : List Int) (k : Nat) (h : k < l.length) : l.take (k + 1) = l.take k ++ [rd l k] := by
  rw [List.take_succ_eq_append_getElem h, rd_get l k h]
theorem take_step (l m : List Int) (k : Nat) (h : k < l.length) (h' : k < m.length) : l.take (k + 1) = m.take (k + 1) ↔ l.take k = m.take k ∧ rd l k = rd m k := by
  rw [take_snoc' l k h, take_snoc' m k h']
  constructor
  · intro e
    have e' := List.append_inj e (by rw [List.length_take, List.length_take]; omega)
    exact ⟨e'.1, by simpa using e'.2⟩
  · rintro ⟨e1, e2⟩
    rw [e1, e2]
theorem xor8_zero (a b : Int) (a0 : 0 ≤ a) (a1 : a < 256) (b0 : 0 ≤ b) (b1 : b < 256) : (0 ≤ bits .xor .u8 a b ∧ bits .xor .u8 a b < 256) ∧ (bits .xor .u8 a b = 0 ↔ a = b) := by
  obtain ⟨x, rfl⟩ := Int.eq_ofNat_of_zero_le a0
  obtain ⟨y, rfl⟩ := Int.eq_ofNat_of_zero_le b0
  have h := xor_u8 x y (by omega) (by omega)
  have hl : x ^^^ y < 2 ^ 8 := Nat.xor_lt_two_pow (by omega) (by omega)
  rw [h]
  refine ⟨by omega, ?_⟩
  have hx : x ^^^ y = 0 ↔ x = y := by
    constructor
    · intro h0
      have := congrArg (· ^^^ y) h0
      simpa [Nat.xor_assoc] using this
    · rintro rfl
      exact Nat.xor_self x
  omega
theorem or8_zero (a b : Int) (a0 : 0 ≤ a) (a1 : a < 256) (b0 : 0 ≤ b) (b1 : b < 256) : (0 ≤ bits .or .u8 a b ∧ bits .or .u8 a b < 256) ∧ (bits .or .u8 a b = 0 ↔ a = 0 ∧ b = 0) := by
  obtain ⟨x, rfl⟩ := Int.eq_ofNat_of_zero_le a0
  obtain ⟨y, rfl⟩ := Int.eq_ofNat_of_zero_le b0
  have h := or_u8 x y (by omega) (by omega)
  have hl : x ||| y < 2 ^ 8 := Nat.or_lt_two_pow (by omega) (by omega)
  rw [h]
  refine ⟨by omega, ?_⟩
  rw [show (((x ||| y : Nat) : Int) = 0 ↔ x ||| y = 0) from by omega, Nat.or_eq_zero_iff]
  omega
set_option maxHeartbeats 1600000 in
theorem Same_calls {n m : Nat} (A0 : Option Addr) (c0 : Nat) (l0 : List Int) (A1 : Option Addr) (c1 : Nat) (l1 : List Int) (w : World) (hr0 : Rd w A0 n l0) (hr1 : Rd w A1 m l1) (hb0 : Bytes l0) (hb1 : Bytes l1) :
    Calls Tryd.prog 33 #[.slice A0 n c0, .slice A1 m c1] w fun e w' => e = .returned (.bool (decide (l0 = l1))) ∧ Drawn0 w w' := by
  have hl0 := Kd.C_len hr0
  have hl1 := Kd.C_len hr1
  have hmx := Kd.C_max hr0
  by_cases hnm : n = m
  · subst hnm
    have HR0 := Lib.hid hr0
    have HR1 := Lib.hid hr1
    have HY0 := Lib.hid hb0
    have HY1 := Lib.hid hb1
    have HL0 := Lib.hid hl0
    have HL1 := Lib.hid hl1
    clear hr0 hr1 hb0 hb1 hl0 hl1
    go_enter Tryd.func33, Tryd.ntmps33
    go_wp2
    go_loopw [5, 14] (fun x i wr => ∃ (k : Nat) (y : Int), k ≤ n ∧ i = .int .i64 k ∧ x = .int .u8 y ∧ 0 ≤ y ∧ y < 256 ∧ Hid (y = 0 ↔ l0.take k = l1.take k) ∧ Hid (Drawn0 w wr)) (fun _ i _ => n - (intOf i).toNat)
    case atStart => exact ⟨0, 0, by omega, rfl, rfl, by omega, by omega, Lib.hid (by simp), Lib.hid (Drawn0.refl _)⟩
    case round =>
      obtain ⟨k, y, hk, rfl, rfl, y0, y1, HE, HD⟩ := hrel
      by_cases hkn : k < n
      · have dkn : decide ((k : Int) < n) = true := decide_eq_true (by omega)
        obtain ⟨ad0, rfl, hc0⟩ := Rd.cells (Kd.C_below HR0.out HD.out.below) (by omega)
        obtain ⟨ad1, rfl, hc1⟩ := Rd.cells (Kd.C_below HR1.out HD.out.below) (by omega)
        have x0 := hc0 k hkn
        have x1 := hc1 k hkn
        obtain ⟨p0, p1⟩ := bytes_rd HY0.out k (by rw [HL0.out]; exact hkn)
        obtain ⟨q0, q1⟩ := bytes_rd HY1.out k (by rw [HL1.out]; exact hkn)
        have HT := Lib.hid (take_step l0 l1 k (by rw [HL0.out]; exact hkn) (by rw [HL1.out]; exact hkn))
        obtain ⟨p, hp⟩ : ∃ p, p = rd l0 k := ⟨_, rfl⟩
        obtain ⟨q, hq⟩ : ∃ q, q = rd l1 k := ⟨_, rfl⟩
        rw [← hp] at x0 p0 p1 HT
        rw [← hq] at x1 q0 q1 HT
        have hx := xor8_zero p q p0 p1 q0 q1
        obtain ⟨X, hX⟩ : ∃ X, bits .xor .u8 p q = X := ⟨_, rfl⟩
        rw [hX] at hx
        have ho := or8_zero y X y0 y1 hx.1.1 hx.1.2
        obtain ⟨Z, hZ⟩ : ∃ Z, bits .or .u8 y X = Z := ⟨_, rfl⟩
        rw [hZ] at ho
        have HE2 := Lib.hid (show Z = 0 ↔ l0.take (k + 1) = l1.take (k + 1) by rw [ho.2, hx.2, HT.out, HE.out])
        have hzr := ho.1
        have ik : (k : Int) < n := by omega
        clear hc0 hc1 hp hq hx ho
        go_wp2_with fail
        go_quiet (fail)
        go_wp2
        go_roundw
        case rel => exact ⟨k + 1, Z, by omega, by go_num, rfl, hzr.1, hzr.2, HE2, Lib.hid (HD.out.step _)⟩
        case measure => simp [intOf]; omega
      · obtain rfl : k = n := by omega
        have dkn : decide ((k : Int) < k) = false := decide_eq_false (by omega)
        have hE : y = 0 ↔ l0 = l1 := by
          have := HE.out
          rwa [List.take_of_length_le (by rw [HL0.out]; exact Nat.le_refl _), List.take_of_length_le (by rw [HL1.out]; exact Nat.le_refl _)] at this
        have HQ := Lib.hid (show (y == 0) = decide (l0 = l1) by rw [Bool.eq_iff_iff, beq_iff_eq, decide_eq_true_iff]; exact hE)
        clear hE
        go_wp2
        go_ret
        exact ⟨congrArg (fun b => Ending.returned (Value.bool b)) HQ.out, HD.out⟩
  · have hne : l0 ≠ l1 := fun h => hnm (by rw [← hl0, ← hl1, h])
    have HN := Lib.hid (show decide (l0 = l1) = false from decide_eq_false hne)
    have d1 : ((n : Int) == m) = false := beq_eq_false_iff_ne.2 (by omega)
    have d2 : ((n : Int) != m) = true := by rw [bne, d1]; rfl
    have d3 : (n == m) = false := beq_eq_false_iff_ne.2 hnm
    have d4 : (n != m) = true := by rw [bne, d3]; rfl
    clear hnm hne hl0 hl1
    go_enter Tryd.func33, Tryd.ntmps33
    go_wp2
    go_ret
    exact ⟨by rw [HN.out]; rfl, Drawn0.refl _⟩
end Go.Proofs.YtcgenmogedndjaaDoor
namespace Go.Proofs.YtcgenmogedndjaaDoor
open Go.RowKit Go.Proofs.YtcgenmogedndjaaDoorW.PrintWords
/-- What a call of Read answers. -/
def ReadPost (L : List Sec) (now : Int) (s : ByteArray) (w : World) (e : Ending) (w' : World) : Prop :=
  ∃ (x : Clm) (f : Int), e = .returned (.tuple #[.agg #[.string x.client, .string x.group, .int .i64 x.upto], .int .i64 f]) ∧ RdSpec L now s x f ∧ Below w.heap.size w w'
/-- The blocks of Read's own that stand through all of it. -/
def RdOwn (w : World) (g0 g1 : Nat) : Prop := Whole w g0 24 #[.string ⟨#[]⟩, .string ⟨#[]⟩, .int .i64 0] ∧ Whole w g1 24 #[.string ⟨#[]⟩, .string ⟨#[]⟩, .int .i64 0]
theorem RdOwn.below {w w1 : World} {g0 g1 : Nat} (h : RdOwn w g0 g1) (hb : Below w.heap.size w w1) : RdOwn w1 g0 g1 := ⟨h.1.below hb h.1.lt, h.2.below hb h.2.lt⟩
set_option maxRecDepth 20000 in
set_option maxHeartbeats 6400000 in
theorem AuthRead_calls {n : Nat} (A0 : Option Addr) (c0 : Nat) (L : List Sec) (now : Int) (s : ByteArray) (w : World) (hr0 : RdS w A0 n L) (hok : SecOk L) (hs : s.size ≤ 1073741824) (hG : Laid w) :
    Calls Tryd.prog 13 #[.slice A0 n c0, .int .i64 now, .string s] w (ReadPost L now s w) := by
  have hlen : L.length = n := Kd.C_len hr0
  have hmax := Kd.C_max hr0
  obtain ⟨g0, hg0⟩ : ∃ g, g = w.heap.size := ⟨_, rfl⟩
  obtain ⟨g1, hg1⟩ : ∃ g, g = g0 + 1 := ⟨_, rfl⟩
  obtain ⟨W0, hW0⟩ : ∃ W0, W0 = w.alloc (.cells #[.string ⟨#[]⟩, .string ⟨#[]⟩, .int .i64 0] 24) := ⟨_, rfl⟩
  obtain ⟨W1, hW1⟩ : ∃ W1, W1 = W0.alloc (.cells #[.string ⟨#[]⟩, .string ⟨#[]⟩, .int .i64 0] 24) := ⟨_, rfl⟩
  have hz0 : W0.heap.size = g1 := by rw [hW0, size_alloc, hg1, hg0]
  have hb0 : Below w.heap.size w W0 := by rw [hW0]; exact below_alloc (Below.refl _ _) _
  have hb01 : Below W0.heap.size W0 W1 := by rw [hW1]; exact below_alloc (Below.refl _ _) _
  have hb1 := below_step hb0 hb01
  have hp0 : Whole W0 g0 24 #[.string ⟨#[]⟩, .string ⟨#[]⟩, .int .i64 0] := by rw [hW0, hg0]; exact Whole.new w _ _
  have hown : RdOwn W1 g0 g1 := ⟨hp0.below hb01 hp0.lt, by rw [hW1, ← hz0]; exact Whole.new W0 _ _⟩
  have HS := Lib.hid (show g0 = w.heap.size ∧ W0 = w.alloc _ ∧ W1 = W0.alloc _ ∧ w.heap.size ≤ g0 ∧ g1 = g0 + 1 from ⟨hg0, hW0, hW1, by rw [hg0]; exact Nat.le_refl _, hg1⟩)
  have HI := Lib.hid (show RdS W1 A0 n L ∧ SecOk L ∧ s.size ≤ 1073741824 ∧ Laid W1 ∧ Below w.heap.size w W1 ∧ L.length = n ∧ n ≤ 9223372036854775807 ∧ RdOwn W1 g0 g1 from ⟨Kd.C_below hr0 hb1, hok, hs, hG.below hb1 hG.lt, hb1, hlen, hmax, hown⟩)
  clear hr0 hok hs hG hlen hmax hg0 hg1 hz0 hb0 hb01 hb1 hp0 hown hW0 hW1
  obtain ⟨F, hF⟩ : ∃ F, F = frontOf s := ⟨_, rfl⟩
  obtain ⟨B, hB⟩ : ∃ B, B = backOf s := ⟨_, rfl⟩
  obtain ⟨D, hD⟩ : ∃ D, D = hasDot s := ⟨_, rfl⟩
  have hFs : F.size ≤ s.size := by rw [hF, ← bytesOf_length]; unfold frontOf; split <;> (first | (rw [bytesOf_extract, List.length_take, List.length_drop, bytesOf_length]; omega) | (rw [bytesOf_length]; exact Nat.le_refl _))
  have hBs : B.size ≤ s.size := by rw [hB, ← bytesOf_length]; unfold backOf; split <;> (first | (rw [bytesOf_extract, List.length_take, List.length_drop, bytesOf_length]; omega) | (rw [bytesOf_length]; exact Nat.zero_le _))
  have HF := Lib.hid (show frontOf s = F ∧ backOf s = B ∧ hasDot s = D ∧ F.size ≤ 1073741824 ∧ B.size ≤ 1073741824 ∧ unRun (bytesOf F) 0 0 [] = frontL s ∧ unRun (bytesOf B) 0 0 [] = backL s from ⟨hF.symm, hB.symm, hD.symm, by have := HI.out; omega, by have := HI.out; omega, by rw [hF]; rfl, by rw [hB]; rfl⟩)
  clear hFs hBs hF hB hD
  go_enter Tryd.func13, Tryd.ntmps13
  go_wp2_with fail
  rw [← HS.out.1, ← HS.out.2.1, ← HS.out.2.2.2.2, ← HS.out.2.2.1]
  refine (Check_calls _ _ _ _ HI.out.1).mono ?_
  rintro e w1 ⟨rfl, hb1⟩
  have H1 := Lib.hid (show Below w.heap.size w w1 ∧ RdOwn w1 g0 g1 ∧ Below W1.heap.size W1 w1 from ⟨below_step HI.out.2.2.2.2.1 hb1, HI.out.2.2.2.2.2.2.2.below hb1, hb1⟩)
  clear hb1
  cases hc : checkB L with
  | false =>
    have HC := Lib.hid hc
    rw [checkE_no hc]
    clear hc
    have q0 := H1.out.2.1.2.cell 0 _ rfl
    have q1 := H1.out.2.1.2.cell 1 _ rfl
    have q2 := H1.out.2.1.2.cell 2 _ rfl
    go_wp2_with (refine gate_ (.store 24 (.tmp 6) (.tmp 25)) rfl ?_; refine store_whole rfl rfl rfl rfl rfl H1.out.2.1.1 rfl (by simp [Value.oneCell']) rfl (by kernel_rfl) ?_; intro w9 hk9 hb9 hf9 hg9)
    refine bodyPost_ret (results_ct rfl _ _ g0 _ _ _ _ rfl hk9 Tryd.underlying24 rfl (by kernel_rfl)) rfl ?_
    exact ⟨Clm.none, 102, rfl, RdSpec.check HC.out, hb9 _ _ H1.out.1 HS.out.2.2.2.1⟩
  | true =>
    have HC := Lib.hid hc
    rw [checkE_yes hc]
    clear hc
    go_wp2_with fail
    refine (Cut_calls s _ (by have := HI.out; omega)).mono ?_
    rintro e w2 ⟨rfl, hd2⟩
    rw [HF.out.1, HF.out.2.1, HF.out.2.2.1]
    have hb2 := hd2.below
    have H2 := Lib.hid (show Below w.heap.size w w2 ∧ RdOwn w2 g0 g1 ∧ Below W1.heap.size W1 w2 from ⟨below_step H1.out.1 hb2, H1.out.2.1.below hb2, below_step H1.out.2.2 hb2⟩)
    clear hb2 hd2
    go_wp2_with fail
    refine (Unspell_calls F _ (by have := HF.out; omega)).mono ?_
    rintro e w3 ⟨v3, rfl, ho3, hb3⟩
    rw [HF.out.2.2.2.2.2.1] at ho3 ⊢
    obtain ⟨A3, c3, rfl, hc3, hr3⟩ := ho3.reads
    obtain ⟨P, hP⟩ : ∃ P, P = (frontL s).getD [] := ⟨_, rfl⟩
    rw [← hP] at hr3 ⊢
    have HP := Lib.hid hP
    have H3 := Lib.hid (show Below w.heap.size w w3 ∧ RdOwn w3 g0 g1 ∧ Below W1.heap.size W1 w3 ∧ Rd w3 A3 P.length P from ⟨below_step H2.out.1 hb3, H2.out.2.1.below hb3, below_step H2.out.2.2 hb3, hr3⟩)
    clear ho3 hc3 hr3 hb3 hP
    go_wp2_with fail
    refine (Unspell_calls B _ (by have := HF.out; omega)).mono ?_
    rintro e w4 ⟨v4, rfl, ho4, hb4⟩
    rw [HF.out.2.2.2.2.2.2] at ho4 ⊢
    obtain ⟨A4, c4, rfl, hc4, hr4⟩ := ho4.reads
    obtain ⟨M, hM⟩ : ∃ M, M = (backL s).getD [] := ⟨_, rfl⟩
    rw [← hM] at hr4 ⊢
    have HM := Lib.hid hM
    have H4 := Lib.hid (show Below w.heap.size w w4 ∧ RdOwn w4 g0 g1 ∧ Below W1.heap.size W1 w4 ∧ Rd w4 A3 P.length P ∧ Rd w4 A4 M.length M from ⟨below_step H3.out.1 hb4, H3.out.2.1.below hb4, below_step H3.out.2.2.1 hb4, Kd.C_below H3.out.2.2.2 hb4, hr4⟩)
    clear ho4 hc4 hr4 hb4 hM
    by_cases hbad : hasDot s = false ∨ frontL s = none ∨ backL s = none
    · have HN := Lib.hid (show ∀ k ∈ L, ∀ c, ClmOk c → tokS k c ≠ s from fun k _ c _ => no_tok_spelt hbad k c)
      have hbits : (D = false) ∨ (D = true ∧ (frontL s).isSome = false) ∨ (D = true ∧ (frontL s).isSome = true ∧ (backL s).isSome = false) := by
        rw [← HF.out.2.2.1]
        cases h1 : hasDot s <;> cases h2 : frontL s <;> cases h3 : backL s <;> simp [h1, h2, h3] at hbad ⊢
      obtain ⟨f1, hf1⟩ : ∃ b, b = (frontL s).isSome := ⟨_, rfl⟩
      obtain ⟨f2, hf2⟩ : ∃ b, b = (backL s).isSome := ⟨_, rfl⟩
      rw [← hf1, ← hf2] at hbits
      rw [← hf1, ← hf2]
      have HFF := Lib.hid (And.intro hf1 hf2)
      clear hbad hf1 hf2
      rcases hbits with rfl | ⟨rfl, rfl⟩ | ⟨rfl, rfl, rfl⟩
      · have q0 := H4.out.2.1.2.cell 0 _ rfl
        have q1 := H4.out.2.1.2.cell 1 _ rfl
        have q2 := H4.out.2.1.2.cell 2 _ rfl
        go_wp2_with (refine gate_ (.store 24 (.tmp 6) (.tmp 52)) rfl ?_; refine store_whole rfl rfl rfl rfl rfl H4.out.2.1.1 rfl (by simp [Value.oneCell']) rfl (by kernel_rfl) ?_; intro w9 hk9 hb9 hf9 hg9)
        refine bodyPost_ret (results_ct rfl _ _ g0 _ _ _ _ rfl hk9 Tryd.underlying24 rfl (by kernel_rfl)) rfl ?_
        exact ⟨Clm.none, 100, rfl, RdSpec.no HC.out HN.out, hb9 _ _ H4.out.1 HS.out.2.2.2.1⟩
      · have q0 := H4.out.2.1.2.cell 0 _ rfl
        have q1 := H4.out.2.1.2.cell 1 _ rfl
        have q2 := H4.out.2.1.2.cell 2 _ rfl
        go_wp2_with (refine gate_ (.store 24 (.tmp 6) (.tmp 52)) rfl ?_; refine store_whole rfl rfl rfl rfl rfl H4.out.2.1.1 rfl (by simp [Value.oneCell']) rfl (by kernel_rfl) ?_; intro w9 hk9 hb9 hf9 hg9)
        refine bodyPost_ret (results_ct rfl _ _ g0 _ _ _ _ rfl hk9 Tryd.underlying24 rfl (by kernel_rfl)) rfl ?_
        exact ⟨Clm.none, 100, rfl, RdSpec.no HC.out HN.out, hb9 _ _ H4.out.1 HS.out.2.2.2.1⟩
      · have q0 := H4.out.2.1.2.cell 0 _ rfl
        have q1 := H4.out.2.1.2.cell 1 _ rfl
        have q2 := H4.out.2.1.2.cell 2 _ rfl
        go_wp2_with (refine gate_ (.store 24 (.tmp 6) (.tmp 52)) rfl ?_; refine store_whole rfl rfl rfl rfl rfl H4.out.2.1.1 rfl (by simp [Value.oneCell']) rfl (by kernel_rfl) ?_; intro w9 hk9 hb9 hf9 hg9)
        refine bodyPost_ret (results_ct rfl _ _ g0 _ _ _ _ rfl hk9 Tryd.underlying24 rfl (by kernel_rfl)) rfl ?_
        exact ⟨Clm.none, 100, rfl, RdSpec.no HC.out HN.out, hb9 _ _ H4.out.1 HS.out.2.2.2.1⟩
    · have hgood : D = true ∧ (∃ b, frontL s = some b) ∧ (∃ m, backL s = some m) := by
        rw [← HF.out.2.2.1]
        cases h1 : hasDot s <;> cases h2 : frontL s <;> cases h3 : backL s <;> simp [h1, h2, h3] at hbad ⊢
      obtain ⟨rfl, ⟨b, hb⟩, ⟨m, hm⟩⟩ := hgood
      have hPb : P = b := by rw [HP.out, hb]; rfl
      have hMm : M = m := by rw [HM.out, hm]; rfl
      subst hPb hMm
      rw [hb, hm]
      have HB := Lib.hid hb
      have HMM := Lib.hid hm
      have hY := (spelt_unRun _ _ (Bytes_bytesOf F) (HF.out.2.2.2.2.2.1.trans hb)).2
      have hZ := (spelt_unRun _ _ (Bytes_bytesOf B) (HF.out.2.2.2.2.2.2.trans hm)).2
      have hl1 : P.length ≤ 1073741824 := by have h1 := congrArg List.length (spelt_unRun _ _ (Bytes_bytesOf F) (HF.out.2.2.2.2.2.1.trans hb)).1; rw [sp3_length, bytesOf_length] at h1; have := HF.out; omega
      have HY := Lib.hid (show Bytes P ∧ Bytes M ∧ P.length ≤ 1073741824 from ⟨hY, hZ, hl1⟩)
      clear hb hm hbad hY hZ hl1
      have e1 : (some P).isSome = true := rfl
      have e2 : (some M).isSome = true := rfl
      rw [e1, e2]
      clear e1 e2
      obtain ⟨cl, hcl⟩ : ∃ c, c = clmOf P := ⟨_, rfl⟩
      obtain ⟨pid, hpid⟩ : ∃ i, i = idOf P := ⟨_, rfl⟩
      obtain ⟨pok, hpok⟩ : ∃ i, i = parseB P := ⟨_, rfl⟩
      have HCL := Lib.hid (show clmOf P = cl ∧ idOf P = pid ∧ parseB P = pok from ⟨hcl.symm, hpid.symm, hpok.symm⟩)
      clear hcl hpid hpok
      obtain ⟨ca, cb, cu⟩ := cl
      go_wp2_with fail
      refine (parse_calls _ _ P _ H4.out.2.2.2.1 HY.out.1 (by have := HY.out; omega)).mono ?_
      rintro e w5 ⟨rfl, hb5⟩
      rw [HCL.out.1, HCL.out.2.1, HCL.out.2.2]
      obtain ⟨g5, hg5⟩ : ∃ g, g = w5.heap.size := ⟨_, rfl⟩
      obtain ⟨W6, hW6⟩ : ∃ W, W = w5.alloc (.cells #[.string ca, .string cb, .int .i64 cu] 24) := ⟨_, rfl⟩
      have hb56 : Below w5.heap.size w5 W6 := by rw [hW6]; exact below_alloc (Below.refl _ _) _
      have hb6 := below_step hb5 hb56
      have hwc : Whole W6 g5 24 #[.string ca, .string cb, .int .i64 cu] := by rw [hW6, hg5]; exact Whole.new w5 _ _
      have H6 := Lib.hid (show Below w.heap.size w W6 ∧ RdOwn W6 g0 g1 ∧ Below W1.heap.size W1 W6 ∧ Rd W6 A3 P.length P ∧ Rd W6 A4 M.length M ∧ Whole W6 g5 24 #[.string ca, .string cb, .int .i64 cu] from ⟨below_step H4.out.1 hb6, H4.out.2.1.below hb6, below_step H4.out.2.2.1 hb6, Kd.C_below H4.out.2.2.2.1 hb6, Kd.C_below H4.out.2.2.2.2 hb6, hwc⟩)
      have HS6 := Lib.hid (show g5 = w5.heap.size ∧ W6 = w5.alloc _ from ⟨hg5, hW6⟩)
      clear hb5 hb56 hb6 hwc hg5 hW6
      go_upto_region 10 with (fail)
      rw [← HS6.out.1, ← HS6.out.2]
      cases pok with
      | false =>
        have HN := Lib.hid (show ∀ k ∈ L, ∀ c, ClmOk c → tokS k c ≠ s from fun k hk c hc => no_tok_parse HB.out HCL.out.2.2 k (by have := checkB_all HC.out k hk; omega) c hc)
        have q0 := H6.out.2.1.2.cell 0 _ rfl
        have q1 := H6.out.2.1.2.cell 1 _ rfl
        have q2 := H6.out.2.1.2.cell 2 _ rfl
        go_wp2_with (refine gate_ (.store 24 (.tmp 6) (.tmp 61)) rfl ?_; refine store_whole rfl rfl rfl rfl rfl H6.out.2.1.1 rfl (by simp [Value.oneCell']) rfl (by kernel_rfl) ?_; intro w9 hk9 hb9 hf9 hg9)
        refine bodyPost_ret (results_ct rfl _ _ g0 _ _ _ _ rfl hk9 Tryd.underlying24 rfl (by kernel_rfl)) rfl ?_
        exact ⟨Clm.none, 100, rfl, RdSpec.no HC.out HN.out, hb9 _ _ H6.out.1 HS.out.2.2.2.1⟩
      | true =>
        have hform := parse_form P HY.out.1 HCL.out.2.2
        rw [HCL.out.1, HCL.out.2.1] at hform
        have HFO := Lib.hid hform
        clear hform
        go_wp2
        go_loopw [64] (fun v wi => ∃ k : Nat, v = .int .i64 k ∧ k ≤ n ∧ Hid ((∀ j, j < k → (L.getD j Sec.none).id ≠ pid) ∧ Below W6.heap.size W6 wi)) (fun v _ => n - (intOf v).toNat)
        case atStart => exact ⟨0, rfl, by omega, Lib.hid ⟨fun j hj => by omega, Below.refl _ _⟩⟩
        case round =>
          obtain ⟨k, rfl, hk, HR⟩ := hrel
          have HO := Lib.hid (show Below w.heap.size w wr ∧ RdOwn wr g0 g1 ∧ Rd wr A3 P.length P ∧ Rd wr A4 M.length M ∧ Whole wr g5 24 #[.string ca, .string cb, .int .i64 cu] ∧ Laid wr ∧ RdS wr A0 n L from ⟨below_step H6.out.1 HR.out.2, H6.out.2.1.below HR.out.2, Kd.C_below H6.out.2.2.2.1 HR.out.2, Kd.C_below H6.out.2.2.2.2.1 HR.out.2, H6.out.2.2.2.2.2.below HR.out.2 H6.out.2.2.2.2.2.lt, HI.out.2.2.2.1.below (below_step H6.out.2.2.1 HR.out.2) HI.out.2.2.2.1.lt, Kd.C_below HI.out.1 (below_step H6.out.2.2.1 HR.out.2)⟩)
          by_cases hkn : k < n
          · have dkn : decide ((k : Int) < n) = true := decide_eq_true (by omega)
            have ikn : (k : Int) < n := by omega
            have hmx := HI.out.2.2.2.2.2.2.1
            have wk : IntKind.i64.wrap ((k : Int) + 1) = k + 1 := wrap_id (by omega) (by omega)
            clear hmx
            obtain ⟨ad, Ai, ci, rfl, x0, x1, hci, hrd⟩ := RdS.at HO.out.2.2.2.2.2.2 k hkn
            have hki : k < L.length := by have := HI.out.2.2.2.2.2.1; omega
            have hso := HI.out.2.1.at k hki
            have hsr := checkB_all HC.out _ (getD_mem hki)
            have hsm := getD_mem hki
            obtain ⟨sc, hsc⟩ : ∃ sc, sc = L.getD k Sec.none := ⟨_, rfl⟩
            rw [← hsc] at x0 x1 hci hrd hso hsr hsm
            obtain ⟨sid, sk⟩ := sc
            simp only at x0 x1 hci hrd hso hsr
            have HK := Lib.hid (show L.getD k Sec.none = ⟨sid, sk⟩ ∧ (⟨sid, sk⟩ : Sec) ∈ L ∧ Bytes sk ∧ sk.length ≤ 64 ∧ (0 ≤ sid ∧ sid ≤ 1099511627776) ∧ Rd wr Ai sk.length sk ∧ sk.length ≤ ci ∧ k < n from ⟨hsc.symm, hsm, hso.1, by omega, by omega, hrd, hci, hkn⟩)
            clear hsc hsm hso hsr hrd hci hki hkn
            obtain ⟨g7, hg7⟩ : ∃ g, g = wr.heap.size := ⟨_, rfl⟩
            obtain ⟨W7, hW7⟩ : ∃ W, W = wr.alloc (.cells #[.int .i64 sid, .slice Ai sk.length ci] 42) := ⟨_, rfl⟩
            have hb7 : Below wr.heap.size wr W7 := by rw [hW7]; exact below_alloc (Below.refl _ _) _
            have hws : Whole W7 g7 42 #[.int .i64 sid, .slice Ai sk.length ci] := by rw [hW7, hg7]; exact Whole.new wr _ _
            have H7 := Lib.hid (show Below wr.heap.size wr W7 ∧ Whole W7 g7 42 #[.int .i64 sid, .slice Ai sk.length ci] from ⟨hb7, hws⟩)
            have HS7 := Lib.hid (show g7 = wr.heap.size ∧ W7 = wr.alloc _ from ⟨hg7, hW7⟩)
            have y0 := hws.cell 0 _ rfl
            have y1 := hws.cell 1 _ rfl
            clear hb7 hws hg7 hW7
            go_upto_region 15 with (fail)
            rw [← HS7.out.1, ← HS7.out.2]
            clear x0 x1
            by_cases hid : sid = pid
            · have dne : (sid != pid) = false := bne_eq_false_iff_eq.2 hid
              have dne' : (sid == pid) = true := beq_iff_eq.2 hid
              have HID := Lib.hid hid
              clear hid
              have H8 := Lib.hid (show Rd W7 Ai sk.length sk ∧ Rd W7 A3 P.length P ∧ Laid W7 ∧ Below w.heap.size w W7 ∧ RdOwn W7 g0 g1 ∧ Rd W7 A4 M.length M ∧ Whole W7 g5 24 #[.string ca, .string cb, .int .i64 cu] from ⟨Kd.C_below HK.out.2.2.2.2.2.1 H7.out.1, Kd.C_below HO.out.2.2.1 H7.out.1, HO.out.2.2.2.2.2.1.below H7.out.1 HO.out.2.2.2.2.2.1.lt, below_step HO.out.1 H7.out.1, HO.out.2.1.below H7.out.1, Kd.C_below HO.out.2.2.2.1 H7.out.1, HO.out.2.2.2.2.1.below H7.out.1 HO.out.2.2.2.2.1.lt⟩)
              go_wp2_with fail
              refine (Mac_calls _ _ _ _ _ _ _ H8.out.1 HK.out.2.2.1 HK.out.2.2.2.2.2.2.1 (by have := HK.out; omega) H8.out.2.1 HY.out.1 (by have := HY.out; omega) H8.out.2.2.1).mono ?_
              rintro e w8 ⟨rfl, hb8⟩
              obtain ⟨mc, hmc⟩ : ∃ mc, mc = mac sk P := ⟨_, rfl⟩
              rw [← hmc]
              have HMC := Lib.hid (show mac sk P = mc ∧ mc.length = 32 ∧ Bytes mc from ⟨hmc.symm, by rw [hmc]; exact mac_length _ _, by rw [hmc]; exact mac_Bytes _ _⟩)
              clear hmc
              obtain ⟨g9, hg9⟩ : ∃ g, g = w8.heap.size := ⟨_, rfl⟩
              obtain ⟨W9, hW9⟩ : ∃ W, W = w8.alloc (.cells #[.int .u8 0, .int .u8 0, .int .u8 0, .int .u8 0, .int .u8 0, .int .u8 0, .int .u8 0, .int .u8 0, .int .u8 0, .int .u8 0, .int .u8 0, .int .u8 0, .int .u8 0, .int .u8 0, .int .u8 0, .int .u8 0, .int .u8 0, .int .u8 0, .int .u8 0, .int .u8 0, .int .u8 0, .int .u8 0, .int .u8 0, .int .u8 0, .int .u8 0, .int .u8 0, .int .u8 0, .int .u8 0, .int .u8 0, .int .u8 0, .int .u8 0, .int .u8 0] 66) := ⟨_, rfl⟩
              have hB9 : Below w8.heap.size w8 W9 := by rw [hW9]; exact below_alloc (Below.refl _ _) _
              have hb79 := below_step hb8 hB9
              have HL := Lib.hid (show Blk W9 g9 66 .u8 (List.replicate 32 0) ∧ Below W7.heap.size W7 W9 ∧ W7.heap.size ≤ g9 from ⟨by rw [hW9, hg9]; exact Blk.new w8 66 .u8 (List.replicate 32 0), hb79, by rw [hg9]; exact hb8.size⟩)
              have HS9 := Lib.hid (show g9 = w8.heap.size ∧ W9 = w8.alloc _ from ⟨hg9, hW9⟩)
              clear hB9 hb79 hg9 hW9 hb8 y0 y1
              go_upto_region 17 with (refine gate_ (.store 66 (.tmp 20) (.tmp 75)) rfl ?_; rw [← HS9.out.1, ← HS9.out.2]; refine store_blk2 (m := mc) rfl rfl rfl rfl rfl HL.out.1 (by rw [HMC.out.2.1]; rfl) (by rw [HMC.out.2.1]; kernel_rfl) ?_; intro w10 hk10 hb10 hf10; have HF10 := Lib.hid (show Rd w10 (some ⟨g9, 0, none⟩) 32 mc ∧ Below W7.heap.size W7 w10 from ⟨by have hr := hk10.row (by rw [HMC.out.2.1]; decide); rw [HMC.out.2.1] at hr; exact hr, hb10 _ _ HL.out.2.1 HL.out.2.2⟩); clear hk10 hb10 hf10)
              have H10 := Lib.hid (show Rd w10 A4 M.length M ∧ Below w.heap.size w w10 ∧ RdOwn w10 g0 g1 ∧ Whole w10 g5 24 #[.string ca, .string cb, .int .i64 cu] from ⟨Kd.C_below H8.out.2.2.2.2.2.1 HF10.out.2, below_step H8.out.2.2.2.1 HF10.out.2, H8.out.2.2.2.2.1.below HF10.out.2, H8.out.2.2.2.2.2.2.below HF10.out.2 H8.out.2.2.2.2.2.2.lt⟩)
              go_wp2_with fail
              refine (Same_calls _ _ M _ _ mc _ H10.out.1 HF10.out.1 HY.out.2.1 HMC.out.2.2).mono ?_
              rintro e w11 ⟨rfl, hd11⟩
              have H11 := Lib.hid (show Below w.heap.size w w11 ∧ RdOwn w11 g0 g1 ∧ Whole w11 g5 24 #[.string ca, .string cb, .int .i64 cu] from ⟨below_step H10.out.2.1 hd11.below, H10.out.2.2.1.below hd11.below, H10.out.2.2.2.below hd11.below H10.out.2.2.2.lt⟩)
              clear hd11
              by_cases hsame : M = mc
              · have HT := Lib.hid (show tokS ⟨sid, sk⟩ ⟨ca, cb, cu⟩ = s from tok_of HF.out.2.2.1 HB.out HMM.out _ _ (by rw [HID.out]; exact HFO.out.1) (by rw [hsame]; exact HMC.out.1.symm))
                rw [decide_eq_true hsame]
                clear hsame
                have u2 := H11.out.2.2.cell 2 _ rfl
                by_cases hnow : cu ≤ now
                · have dnow : decide (cu ≤ now) = true := decide_eq_true hnow
                  have HNW := Lib.hid hnow
                  clear hnow
                  have q0 := H11.out.2.1.2.cell 0 _ rfl
                  have q1 := H11.out.2.1.2.cell 1 _ rfl
                  have q2 := H11.out.2.1.2.cell 2 _ rfl
                  go_wp2_with (refine gate_ (.store 24 (.tmp 6) (.tmp 84)) rfl ?_; refine store_whole rfl rfl rfl rfl rfl H11.out.2.1.1 rfl (by simp [Value.oneCell']) rfl (by kernel_rfl) ?_; intro w9 hk9 hb9 hf9 hg9)
                  refine bodyPost_ret (results_ct rfl _ _ g0 _ _ _ _ rfl hk9 Tryd.underlying24 rfl (by kernel_rfl)) rfl ?_
                  exact ⟨Clm.none, 101, rfl, RdSpec.over HC.out HK.out.2.1 HFO.out.2.1 HT.out HNW.out, hb9 _ _ H11.out.1 HS.out.2.2.2.1⟩
                · have dnow : decide (cu ≤ now) = false := decide_eq_false hnow
                  have HNW := Lib.hid hnow
                  clear hnow
                  have u0 := H11.out.2.2.cell 0 _ rfl
                  have u1 := H11.out.2.2.cell 1 _ rfl
                  go_wp2_with (refine gate_ (.store 24 (.tmp 6) (.tmp 85)) rfl ?_; refine store_whole rfl rfl rfl rfl rfl H11.out.2.1.1 rfl (by simp [Value.oneCell']) rfl (by kernel_rfl) ?_; intro w9 hk9 hb9 hf9 hg9)
                  refine bodyPost_ret (results_ct rfl _ _ g0 _ _ _ _ rfl hk9 Tryd.underlying24 rfl (by kernel_rfl)) rfl ?_
                  exact ⟨⟨ca, cb, cu⟩, 0, rfl, RdSpec.yes HC.out HK.out.2.1 HFO.out.2.1 HT.out (by have := HNW.out; omega), hb9 _ _ H11.out.1 HS.out.2.2.2.1⟩
              · have HN := Lib.hid (show ∀ k ∈ L, ∀ c, ClmOk c → tokS k c ≠ s from fun k' hk' c hc ht => by
                  have hw := tok_whose HB.out HMM.out k' (by have := checkB_all HC.out k' hk'; omega) c hc ht
                  have hs' := checkB_same HC.out hk' HK.out.2.1 (by rw [hw.1, HCL.out.2.1]; exact HID.out.symm)
                  rw [hs'] at hw
                  exact hsame (hw.2.2.trans HMC.out.1))
                rw [decide_eq_false hsame]
                clear hsame
                have q0 := H11.out.2.1.2.cell 0 _ rfl
                have q1 := H11.out.2.1.2.cell 1 _ rfl
                have q2 := H11.out.2.1.2.cell 2 _ rfl
                go_wp2_with (refine gate_ (.store 24 (.tmp 6) (.tmp 87)) rfl ?_; refine store_whole rfl rfl rfl rfl rfl H11.out.2.1.1 rfl (by simp [Value.oneCell']) rfl (by kernel_rfl) ?_; intro w9 hk9 hb9 hf9 hg9)
                refine bodyPost_ret (results_ct rfl _ _ g0 _ _ _ _ rfl hk9 Tryd.underlying24 rfl (by kernel_rfl)) rfl ?_
                exact ⟨Clm.none, 100, rfl, RdSpec.no HC.out HN.out, hb9 _ _ H11.out.1 HS.out.2.2.2.1⟩
            · have dne : (sid != pid) = true := bne_iff_ne.2 hid
              have dne' : (sid == pid) = false := beq_eq_false_iff_ne.2 hid
              have HR2 := Lib.hid (show (∀ j, j < k + 1 → (L.getD j Sec.none).id ≠ pid) ∧ Below W6.heap.size W6 W7 from ⟨fun j hj => by
                  rcases Nat.lt_or_ge j k with h | h
                  · exact HR.out.1 j h
                  · obtain rfl : j = k := by omega
                    rw [HK.out.1]; exact hid, below_step HR.out.2 H7.out.1⟩)
              clear hid
              go_wp2
              go_roundw
              case rel => exact ⟨k + 1, by go_num, by have := HK.out; omega, HR2⟩
              case measure => have := HK.out; simp [intOf]; omega
          · obtain rfl : k = n := by omega
            have dkn : decide ((k : Int) < k) = false := decide_eq_false (by omega)
            have HN := Lib.hid (show ∀ k ∈ L, ∀ c, ClmOk c → tokS k c ≠ s from fun k' hk' c hc ht => by
                have hw := tok_whose HB.out HMM.out k' (by have := checkB_all HC.out k' hk'; omega) c hc ht
                obtain ⟨i, hi, rfl⟩ := mem_getD hk'
                exact HR.out.1 i (by have := HI.out.2.2.2.2.2.1; omega) (hw.1.trans HCL.out.2.1))
            have q0 := HO.out.2.1.2.cell 0 _ rfl
            have q1 := HO.out.2.1.2.cell 1 _ rfl
            have q2 := HO.out.2.1.2.cell 2 _ rfl
            go_wp2_with (refine gate_ (.store 24 (.tmp 6) (.tmp 87)) rfl ?_; refine store_whole rfl rfl rfl rfl rfl HO.out.2.1.1 rfl (by simp [Value.oneCell']) rfl (by kernel_rfl) ?_; intro w9 hk9 hb9 hf9 hg9)
            refine bodyPost_ret (results_ct rfl _ _ g0 _ _ _ _ rfl hk9 Tryd.underlying24 rfl (by kernel_rfl)) rfl ?_
            exact ⟨Clm.none, 100, rfl, RdSpec.no HC.out HN.out, hb9 _ _ HO.out.1 HS.out.2.2.2.1⟩
end Go.Proofs.YtcgenmogedndjaaDoor
namespace Go.Proofs.YtcgenmogedndjaaDoor
open Go.RowKit Go.Proofs.YtcgenmogedndjaaDoorW.PrintWords
/-- Block g begins with these bytes, and they may be written. -/
def Bw (w : World) (g : Nat) (l : List Int) : Prop := ∀ j, j < l.length → w.cell? ⟨g, j, none⟩ = some (.int .u8 (rd l (j : Nat))) ∧ w.frozen? ⟨g, j, none⟩ = false
theorem Bw.of_bytes (w : World) (s : ByteArray) : Bw (Lib.bytesWorld w 5 s) w.heap.size (bytesOf s) := by
  intro j hj
  rw [bytesOf_length] at hj
  refine ⟨?_, ?_⟩
  · rw [Lib.bytesWorld_cell w _ s j hj, rd_bytesOf]
    unfold bt
    have h2 : ((j : Nat) : Int).toNat < s.size := by rw [Int.toNat_natCast]; exact hj
    rw [dif_pos h2]
    simp [Int.toNat_natCast, List.getD_eq_getElem?_getD, hj]
    rfl
  · have h := Lib.bytesWorld_at_new w 5 s
    have hs : s.size ≤ (Lib.bytesCells w 5 s).size := by unfold Lib.bytesCells; simp
    simp only [World.frozen?, h]
    simp
    omega
theorem Bw.below {w w1 : World} {g B : Nat} {l : List Int} (h : Bw w g l) (hb : Below B w w1) (hg : g < B) : Bw w1 g l := by
  intro j hj
  have := h j hj
  rw [hb.cell (p := ⟨g, j, none⟩) hg, hb.frozen (p := ⟨g, j, none⟩) hg]
  exact this
theorem Bw.set {w : World} {g : Nat} {l : List Int} (h : Bw w g l) (i : Nat) (hi : i < l.length) (x : Int) : Bw (w.setCell ⟨g, i, none⟩ (.int .u8 x)) g (l.set i x) := by
  intro j hj
  rw [List.length_set] at hj
  refine ⟨?_, by rw [World.frozen?_setCell]; exact (h j hj).2⟩
  by_cases e : i = j
  · subst e
    rw [World.cell?_setCell_same (h := (h i hi).1)]
    simp [rd, hi]
  · rw [World.cell?_setCell_other (h := (by intro h'; injection h' with _ h2; exact e h2)), (h j hj).1]
    simp [rd, List.getD_eq_getElem?_getD, e]
theorem Bw.reads {w : World} {g : Nat} {l : List Int} (h : Bw w g l) (hm : l.length ≤ 9223372036854775807) : Rd w (some ⟨g, 0, none⟩) l.length l :=
  Rd.mk rfl hm fun j hj => by rw [add_plain]; exact (h j hj).1
/-- A letter made small. -/
def low (x : Int) : Int := if 65 ≤ x ∧ x ≤ 90 then x + 32 else x
theorem low_range {x : Int} (h : 0 ≤ x ∧ x < 256) : 0 ≤ low x ∧ low x < 256 := by unfold low; split <;> omega
/-- The first k letters made small. -/
def lowUp (l : List Int) (k : Nat) : List Int := (l.take k).map low ++ l.drop k
theorem lowUp_zero (l : List Int) : lowUp l 0 = l := by simp [lowUp]
theorem lowUp_length (l : List Int) (k : Nat) : (lowUp l k).length = l.length := by simp [lowUp]; omega
theorem lowUp_at (l : List Int) (k : Nat) (hk : k < l.length) : rd (lowUp l k) (k : Nat) = rd l (k : Nat) := by
  have h1 : ((l.take k).map low).length = k := by simp; omega
  unfold rd lowUp
  simp only [Int.toNat_natCast, List.getD_eq_getElem?_getD]
  rw [List.getElem?_append_right (by omega), h1, Nat.sub_self, List.getElem?_drop, Nat.add_zero]
theorem lowUp_set (l : List Int) (k : Nat) (hk : k < l.length) : (lowUp l k).set k (low (rd l (k : Nat))) = lowUp l (k + 1) := by
  have h1 : ((l.take k).map low).length = k := by simp; omega
  unfold lowUp
  rw [List.set_append_right _ _ (by omega), h1, Nat.sub_self, List.drop_eq_getElem_cons hk, List.set_cons_zero, List.take_succ_eq_append_getElem hk, List.map_append, List.append_assoc, rd_get l k hk]
  rfl
theorem lowUp_same (l : List Int) (k : Nat) (hk : k < l.length) (h : low (rd l (k : Nat)) = rd l (k : Nat)) : lowUp l k = lowUp l (k + 1) := by
  unfold lowUp
  rw [List.take_succ_eq_append_getElem hk, List.map_append, List.append_assoc]
  congr 1
  rw [List.drop_eq_getElem_cons hk]
  rw [rd_get l k hk] at h
  rw [List.map_cons, h]
  rfl
theorem lowUp_all (l : List Int) : lowUp l l.length = l.map low := by simp [lowUp]
def smallB (s : ByteArray) : ByteArray := strOfNums ((bytesOf s).map low)
theorem smallB_Bytes (s : ByteArray) : Bytes ((bytesOf s).map low) := by
  intro x hx
  obtain ⟨y, hy, rfl⟩ := List.mem_map.1 hx
  exact low_range (Bytes_bytesOf s y hy)
end Go.Proofs.YtcgenmogedndjaaDoor
namespace Go.Proofs.YtcgenmogedndjaaDoor
open Go.RowKit Go.Proofs.YtcgenmogedndjaaDoorW.PrintWords
set_option maxHeartbeats 1600000 in
theorem small_calls (s : ByteArray) (w : World) (hs : s.size ≤ 35184372088832) :
    Calls Tryd.prog 42 #[.string s] w fun e w' => e = .returned (.string (smallB s)) ∧ Below w.heap.size w w' := by
  have HY := Lib.hid (Bytes_bytesOf s)
  have HL := Lib.hid (bytesOf_length s)
  obtain ⟨R, hR⟩ : ∃ R, R = smallB s := ⟨_, rfl⟩
  rw [← hR]
  have HRR := Lib.hid hR
  clear hR
  have kb := fun W => print_bytes (P := Tryd.prog) 9 34 5 Tryd.underlying9 Tryd.underlying34 Tryd.underlying5 s W
  go_enter Tryd.func42, Tryd.ntmps42
  go_wp2
  have hb0 : Below w.heap.size w (Lib.bytesWorld w 5 s) := bytes_below (Below.refl _ _) (Nat.le_refl _) _ _
  have hw0 := Bw.of_bytes w s
  obtain ⟨c0, hc0⟩ : ∃ c0, c0 = grownCap w s.size 0 5 := ⟨_, rfl⟩
  rw [← hc0]
  obtain ⟨w0, he0⟩ : ∃ w0, w0 = Lib.bytesWorld w 5 s := ⟨_, rfl⟩
  rw [← he0] at hw0 hb0 ⊢
  obtain ⟨g, hg⟩ : ∃ g, g = w.heap.size := ⟨_, rfl⟩
  rw [← hg] at hw0 ⊢
  have HG := Lib.hid (show w.heap.size ≤ g by rw [hg]; exact Nat.le_refl _)
  obtain ⟨ad, had⟩ : ∃ ad : Addr, ad = ⟨g, 0, none⟩ := ⟨_, rfl⟩
  rw [← had]
  have HAD := Lib.hid (show ∀ j, ad.add j = ⟨g, j, none⟩ from fun j => by rw [had, add_plain])
  have HAZ := Lib.hid (show ad = ⟨g, 0, none⟩ from had)
  have HS := Lib.hid (show Bw w0 g (lowUp (bytesOf s) 0) ∧ Below w.heap.size w w0 from ⟨by rw [lowUp_zero]; exact hw0, hb0⟩)
  clear hc0 hw0 hb0 kb he0 hg had
  go_loopw [10] (fun i wr => ∃ k : Nat, i = .int .i64 k ∧ k ≤ s.size ∧ Hid (Bw wr g (lowUp (bytesOf s) k) ∧ Below w.heap.size w wr)) (fun i _ => s.size - (intOf i).toNat)
  case atStart => exact ⟨0, rfl, by omega, HS⟩
  case round =>
    obtain ⟨k, rfl, hk, HA⟩ := hrel
    by_cases hkn : k < s.size
    · have dkn : decide ((k : Int) < s.size) = true := decide_eq_true (by omega)
      have ikn : (k : Int) < s.size := by omega
      have wk : IntKind.i64.wrap ((k : Int) + 1) = k + 1 := wrap_id (by omega) (by omega)
      have hlk : k < (bytesOf s).length := by rw [HL.out]; exact hkn
      obtain ⟨x, hx⟩ : ∃ x, x = rd (bytesOf s) k := ⟨_, rfl⟩
      obtain ⟨x0, x1⟩ := bytes_rd HY.out k hlk
      rw [← hx] at x0 x1
      have hcell := HA.out.1 k (by rw [lowUp_length]; exact hlk)
      rw [lowUp_at _ _ hlk, ← hx, ← HAD.out] at hcell
      obtain ⟨hxc, hxf⟩ := hcell
      have HX := Lib.hid (And.intro hx hlk)
      clear hx hlk
      by_cases hup : 65 ≤ x ∧ x ≤ 90
      · have d1 : decide (65 ≤ x) = true := decide_eq_true hup.1
        have d2 : decide (x ≤ 90) = true := decide_eq_true hup.2
        have wx : IntKind.u8.wrap (x + 32) = x + 32 := by rw [IntKind.wrap_u8]; omega
        have HA2 := Lib.hid (show Bw (wr.setCell (ad.add k) (.int .u8 (x + 32))) g (lowUp (bytesOf s) (k + 1)) ∧ Below w.heap.size w (wr.setCell (ad.add k) (.int .u8 (x + 32))) from by
          have h1 := HA.out.1.set k (by rw [lowUp_length]; exact HX.out.2) (x + 32)
          rw [show x + 32 = low (rd (bytesOf s) (k : Nat)) by rw [← HX.out.1]; unfold low; rw [if_pos hup], lowUp_set _ _ HX.out.2, ← HX.out.1, show low x = x + 32 by unfold low; rw [if_pos hup]] at h1
          rw [HAD.out]
          exact ⟨h1, HA.out.2.setCell HG.out _⟩)
        clear hup
        go_wp2
        go_roundw
        case rel => exact ⟨k + 1, by go_num, by omega, HA2⟩
        case measure => simp [intOf]; omega
      · have HA2 := Lib.hid (show Bw wr g (lowUp (bytesOf s) (k + 1)) ∧ Below w.heap.size w wr from ⟨by rw [← lowUp_same _ _ HX.out.2 (by rw [← HX.out.1]; unfold low; rw [if_neg hup])]; exact HA.out.1, HA.out.2⟩)
        by_cases h65 : 65 ≤ x
        · have d1 : decide (65 ≤ x) = true := decide_eq_true h65
          have d2 : decide (x ≤ 90) = false := decide_eq_false (by omega)
          clear hup h65
          go_wp2
          go_roundw
          case rel => exact ⟨k + 1, by go_num, by omega, HA2⟩
          case measure => simp [intOf]; omega
        · have d1 : decide (65 ≤ x) = false := decide_eq_false h65
          clear hup h65
          go_wp2
          go_roundw
          case rel => exact ⟨k + 1, by go_num, by omega, HA2⟩
          case measure => simp [intOf]; omega
    · obtain rfl : k = s.size := by omega
      have dkn : decide ((s.size : Int) < s.size) = false := decide_eq_false (by omega)
      have hrd : Rd wr (some ad) s.size ((bytesOf s).map low) := by
        have h1 := HA.out.1
        rw [show s.size = (bytesOf s).length from HL.out.symm, lowUp_all] at h1
        have h2 := h1.reads (by rw [List.length_map, HL.out]; omega)
        rw [List.length_map, HL.out] at h2
        rw [HAZ.out]; exact h2
      have ks := fun a => Kd.C_string (P := Tryd.prog) (src := 34) (dst := 9) (e := 5) Tryd.underlying34 Tryd.underlying5 Tryd.underlying9 (c := c0) (Kd.C_drewN hrd a)
      have ks0 := Kd.C_string (P := Tryd.prog) (src := 34) (dst := 9) (e := 5) Tryd.underlying34 Tryd.underlying5 Tryd.underlying9 (c := c0) hrd
      clear hrd
      go_wp2
      go_ret
      exact ⟨by rw [HRR.out]; rfl, HA.out.2⟩
set_option maxHeartbeats 1600000 in
theorem smallRef_calls (s : ByteArray) (w : World) (hs : s.size ≤ 35184372088832) :
    Calls Tryd.prog 44 #[.string s] w fun e w' => e = .returned (.string (smallB s)) ∧ Below w.heap.size w w' := by
  have HY := Lib.hid (Bytes_bytesOf s)
  have HL := Lib.hid (bytesOf_length s)
  obtain ⟨R, hR⟩ : ∃ R, R = smallB s := ⟨_, rfl⟩
  rw [← hR]
  have HRR := Lib.hid hR
  clear hR
  have kb := fun W => print_bytes (P := Tryd.prog) 9 34 5 Tryd.underlying9 Tryd.underlying34 Tryd.underlying5 s W
  go_enter Tryd.func44, Tryd.ntmps44
  go_wp2
  have hb0 : Below w.heap.size w (Lib.bytesWorld w 5 s) := bytes_below (Below.refl _ _) (Nat.le_refl _) _ _
  have hw0 := Bw.of_bytes w s
  obtain ⟨c0, hc0⟩ : ∃ c0, c0 = grownCap w s.size 0 5 := ⟨_, rfl⟩
  rw [← hc0]
  obtain ⟨w0, he0⟩ : ∃ w0, w0 = Lib.bytesWorld w 5 s := ⟨_, rfl⟩
  rw [← he0] at hw0 hb0 ⊢
  obtain ⟨g, hg⟩ : ∃ g, g = w.heap.size := ⟨_, rfl⟩
  rw [← hg] at hw0 ⊢
  have HG := Lib.hid (show w.heap.size ≤ g by rw [hg]; exact Nat.le_refl _)
  obtain ⟨ad, had⟩ : ∃ ad : Addr, ad = ⟨g, 0, none⟩ := ⟨_, rfl⟩
  rw [← had]
  have HAD := Lib.hid (show ∀ j, ad.add j = ⟨g, j, none⟩ from fun j => by rw [had, add_plain])
  have HAZ := Lib.hid (show ad = ⟨g, 0, none⟩ from had)
  have HS := Lib.hid (show Bw w0 g (lowUp (bytesOf s) 0) ∧ Below w.heap.size w w0 from ⟨by rw [lowUp_zero]; exact hw0, hb0⟩)
  clear hc0 hw0 hb0 kb he0 hg had
  go_loopw [9] (fun i wr => ∃ k : Nat, i = .int .i64 k ∧ k ≤ s.size ∧ Hid (Bw wr g (lowUp (bytesOf s) k) ∧ Below w.heap.size w wr)) (fun i _ => s.size - (intOf i).toNat)
  case atStart => exact ⟨0, rfl, by omega, HS⟩
  case round =>
    obtain ⟨k, rfl, hk, HA⟩ := hrel
    by_cases hkn : k < s.size
    · have dkn : decide ((k : Int) < s.size) = true := decide_eq_true (by omega)
      have ikn : (k : Int) < s.size := by omega
      have wk : IntKind.i64.wrap ((k : Int) + 1) = k + 1 := wrap_id (by omega) (by omega)
      have hlk : k < (bytesOf s).length := by rw [HL.out]; exact hkn
      obtain ⟨x, hx⟩ : ∃ x, x = rd (bytesOf s) k := ⟨_, rfl⟩
      obtain ⟨x0, x1⟩ := bytes_rd HY.out k hlk
      rw [← hx] at x0 x1
      have hcell := HA.out.1 k (by rw [lowUp_length]; exact hlk)
      rw [lowUp_at _ _ hlk, ← hx, ← HAD.out] at hcell
      obtain ⟨hxc, hxf⟩ := hcell
      have HX := Lib.hid (And.intro hx hlk)
      clear hx hlk
      by_cases hup : 65 ≤ x ∧ x ≤ 90
      · have d1 : decide (65 ≤ x) = true := decide_eq_true hup.1
        have d2 : decide (x ≤ 90) = true := decide_eq_true hup.2
        have wx : IntKind.u8.wrap (x + 32) = x + 32 := by rw [IntKind.wrap_u8]; omega
        have HA2 := Lib.hid (show Bw (wr.setCell (ad.add k) (.int .u8 (x + 32))) g (lowUp (bytesOf s) (k + 1)) ∧ Below w.heap.size w (wr.setCell (ad.add k) (.int .u8 (x + 32))) from by
          have h1 := HA.out.1.set k (by rw [lowUp_length]; exact HX.out.2) (x + 32)
          rw [show x + 32 = low (rd (bytesOf s) (k : Nat)) by rw [← HX.out.1]; unfold low; rw [if_pos hup], lowUp_set _ _ HX.out.2, ← HX.out.1, show low x = x + 32 by unfold low; rw [if_pos hup]] at h1
          rw [HAD.out]
          exact ⟨h1, HA.out.2.setCell HG.out _⟩)
        clear hup
        go_wp2
        go_roundw
        case rel => exact ⟨k + 1, by go_num, by omega, HA2⟩
        case measure => simp [intOf]; omega
      · have HA2 := Lib.hid (show Bw wr g (lowUp (bytesOf s) (k + 1)) ∧ Below w.heap.size w wr from ⟨by rw [← lowUp_same _ _ HX.out.2 (by rw [← HX.out.1]; unfold low; rw [if_neg hup])]; exact HA.out.1, HA.out.2⟩)
        by_cases h65 : 65 ≤ x
        · have d1 : decide (65 ≤ x) = true := decide_eq_true h65
          have d2 : decide (x ≤ 90) = false := decide_eq_false (by omega)
          clear hup h65
          go_wp2
          go_roundw
          case rel => exact ⟨k + 1, by go_num, by omega, HA2⟩
          case measure => simp [intOf]; omega
        · have d1 : decide (65 ≤ x) = false := decide_eq_false h65
          clear hup h65
          go_wp2
          go_roundw
          case rel => exact ⟨k + 1, by go_num, by omega, HA2⟩
          case measure => simp [intOf]; omega
    · obtain rfl : k = s.size := by omega
      have dkn : decide ((s.size : Int) < s.size) = false := decide_eq_false (by omega)
      have hrd : Rd wr (some ad) s.size ((bytesOf s).map low) := by
        have h1 := HA.out.1
        rw [show s.size = (bytesOf s).length from HL.out.symm, lowUp_all] at h1
        have h2 := h1.reads (by rw [List.length_map, HL.out]; omega)
        rw [List.length_map, HL.out] at h2
        rw [HAZ.out]; exact h2
      have ks := fun a => Kd.C_string (P := Tryd.prog) (src := 34) (dst := 9) (e := 5) Tryd.underlying34 Tryd.underlying5 Tryd.underlying9 (c := c0) (Kd.C_drewN hrd a)
      have ks0 := Kd.C_string (P := Tryd.prog) (src := 34) (dst := 9) (e := 5) Tryd.underlying34 Tryd.underlying5 Tryd.underlying9 (c := c0) hrd
      clear hrd
      go_wp2
      go_ret
      exact ⟨by rw [HRR.out]; rfl, HA.out.2⟩
end Go.Proofs.YtcgenmogedndjaaDoor
namespace Go.Proofs.YtcgenmogedndjaaDoor
open Go.RowKit Go.Proofs.YtcgenmogedndjaaDoorW.PrintWords
structure Hdr where
  name : ByteArray
  value : ByteArray
def Hdr.none : Hdr := ⟨ByteArray.empty, ByteArray.empty⟩
def hdrK : Kd Hdr := Kd.iso (Kd.pair Kd.string Kd.string) (fun x : Hdr => (x.name, x.value))
abbrev RdH (w : World) (A : Option Addr) (n : Nat) (hs : List Hdr) : Prop := Kd.C hdrK w A n hs
theorem RdH.at {w : World} {A : Option Addr} {n : Nat} {hs : List Hdr} (h : RdH w A n hs) (i : Nat) (hi : i < n) : ∃ ad, A = some ad ∧ w.cell? (ad.add (i * 2)) = some (.string (hs.getD i Hdr.none).name) ∧
    w.cell? ⟨(ad.add (i * 2)).block, (ad.add (i * 2)).off + 1, none⟩ = some (.string (hs.getD i Hdr.none).value) := by
  obtain ⟨ad, c, e, _, hK, hc0⟩ := Kd.C_get h Hdr.none (i : Int) (by omega) (by omega)
  simp only [Int.toNat_natCast] at hK hc0
  have hc : ∀ j u, c[j]? = some u → w.cell? (ad.add (i * 2 + j)) = some u := hc0
  obtain ⟨_, _, rfl, rfl, rfl⟩ := hK
  exact ⟨ad, e, hc 0 _ rfl, by rw [← add_field _ _ 1 (by omega)]; exact hc 1 _ rfl⟩
def HdrOk (hs : List Hdr) : Prop := ∀ h ∈ hs, h.name.size ≤ 1099511627776 ∧ h.value.size ≤ 1099511627776
theorem HdrOk.at {hs : List Hdr} (h : HdrOk hs) (i : Nat) (hi : i < hs.length) : (hs.getD i Hdr.none).name.size ≤ 1099511627776 ∧ (hs.getD i Hdr.none).value.size ≤ 1099511627776 := by
  rw [List.getD_eq_getElem?_getD, List.getElem?_eq_getElem hi]
  exact h _ (List.getElem_mem hi)
def authS : ByteArray := ⟨#[97, 117, 116, 104, 111, 114, 105, 122, 97, 116, 105, 111, 110]⟩
def bearS : ByteArray := ⟨#[98, 101, 97, 114, 101, 114, 32]⟩
def bear6 : ByteArray := ⟨#[98, 101, 97, 114, 101, 114]⟩
/-- The value of the last header authorization, and how many there are. -/
def authStep (a : ByteArray × Nat) (h : Hdr) : ByteArray × Nat := if (smallB h.name).toList = authS.toList then (h.value, a.2 + 1) else a
def authUp (hs : List Hdr) (k : Nat) : ByteArray × Nat := (hs.take k).foldl authStep (ByteArray.empty, 0)
theorem authUp_succ (hs : List Hdr) (k : Nat) (hk : k < hs.length) : authUp hs (k + 1) = authStep (authUp hs k) (hs.getD k Hdr.none) := by
  unfold authUp
  rw [List.take_succ_eq_append_getElem hk, List.foldl_append, List.getD_eq_getElem?_getD, List.getElem?_eq_getElem hk]
  rfl
theorem authUp_le (hs : List Hdr) : ∀ k, k ≤ hs.length → (authUp hs k).2 ≤ k
  | 0, _ => Nat.le_refl _
  | k + 1, h => by
    have ih := authUp_le hs k (by omega)
    rw [authUp_succ hs k (by omega)]
    unfold authStep
    split
    · show (authUp hs k).2 + 1 ≤ k + 1
      omega
    · omega
theorem authUp_size (hs : List Hdr) (hok : HdrOk hs) : ∀ k, k ≤ hs.length → (authUp hs k).1.size ≤ 1099511627776
  | 0, _ => by show (0 : Nat) ≤ _; omega
  | k + 1, h => by
    have ih := authUp_size hs hok k (by omega)
    rw [authUp_succ hs k (by omega)]
    unfold authStep
    split
    · exact (hok.at k (by omega)).2
    · exact ih
/-- Is it Bearer, a blank and a text? -/
def bearB (v : ByteArray) (n : Nat) : Prop := n = 1 ∧ 8 ≤ v.size ∧ (smallB (v.extract 0 7)).toList = bearS.toList ∧ ∀ j, 7 ≤ j → j < v.size → rd (bytesOf v) (j : Nat) ≠ 32 ∧ rd (bytesOf v) (j : Nat) ≠ 9
open Classical in
noncomputable def bearR (hs : List Hdr) : ByteArray × Bool := if bearB (authUp hs hs.length).1 (authUp hs hs.length).2 then ((authUp hs hs.length).1.extract 7 (authUp hs hs.length).1.size, true) else (ByteArray.empty, false)
theorem bearR_no {hs : List Hdr} (h : ¬ bearB (authUp hs hs.length).1 (authUp hs hs.length).2) : bearR hs = (ByteArray.empty, false) := if_neg h
theorem bearR_yes {hs : List Hdr} (h : bearB (authUp hs hs.length).1 (authUp hs hs.length).2) : bearR hs = ((authUp hs hs.length).1.extract 7 (authUp hs hs.length).1.size, true) := if_pos h
theorem posOf_lt (c : Int) : ∀ (l : List Int), posOf c l < l.length ↔ c ∈ l
  | [] => by simp [posOf]
  | x :: t => by
    unfold posOf
    have ih := posOf_lt c t
    by_cases h : x = c
    · simp [h]
    · rw [if_neg h, List.length_cons, List.mem_cons]
      constructor
      · intro h2; exact .inr (ih.1 (by omega))
      · rintro (h2 | h2)
        · exact absurd h2.symm h
        · have := ih.2 h2; omega
theorem mem_extract7 (v : ByteArray) (c : Int) : c ∈ bytesOf (v.extract 7 v.size) ↔ ∃ j, 7 ≤ j ∧ j < v.size ∧ rd (bytesOf v) (j : Nat) = c := by
  have hl := bytesOf_length v
  rw [bytesOf_extract, List.take_of_length_le (by rw [List.length_drop, hl]; exact Nat.le_refl _)]
  constructor
  · intro h
    obtain ⟨i, hi, rfl⟩ := List.getElem_of_mem h
    rw [List.length_drop] at hi
    exact ⟨7 + i, by omega, by omega, by rw [rd_get _ _ (by omega), List.getElem_drop]⟩
  · rintro ⟨j, h7, hj, rfl⟩
    rw [rd_get _ _ (by omega)]
    have : (bytesOf v)[j]'(by omega) = ((bytesOf v).drop 7)[j - 7]'(by rw [List.length_drop]; omega) := by
      rw [List.getElem_drop]
      congr 1
      omega
    rw [this]
    exact List.getElem_mem _
theorem small_bytes (s : ByteArray) : bytesOf (smallB s) = (bytesOf s).map low := bytes_strOf (smallB_Bytes s)
theorem low_blank (x : Int) : low x = 32 ↔ x = 32 := by unfold low; split <;> omega
/-- Seven letters, or six and a blank. -/
theorem bear_six (v : ByteArray) (h : 7 ≤ v.size) : (smallB (v.extract 0 7)).toList = bearS.toList ↔ (smallB (v.extract 0 6)).toList = bear6.toList ∧ rd (bytesOf v) ((6 : Nat) : Int) = 32 := by
  have hl := bytesOf_length v
  have e7 : bytesOf (v.extract 0 7) = bytesOf (v.extract 0 6) ++ [rd (bytesOf v) ((6 : Nat) : Int)] := by
    rw [bytesOf_extract, bytesOf_extract, List.drop_zero, rd_get _ 6 (by omega)]
    exact List.take_succ_eq_append_getElem (by omega)
  have e6 : (bytesOf (v.extract 0 6)).length = 6 := by rw [bytesOf_extract, List.drop_zero, List.length_take]; omega
  have k7 : bytesOf bearS = bytesOf bear6 ++ [32] := by decide
  have k6 : (bytesOf bear6).length = 6 := by decide
  constructor
  · intro h7
    have h1 := congrArg bytesOf (toList_inj h7)
    rw [small_bytes, e7, List.map_append, k7] at h1
    have h2 := List.append_inj h1 (by rw [List.length_map, e6, k6])
    refine ⟨?_, ?_⟩
    · have : smallB (v.extract 0 6) = bear6 := bytesOf_inj (by rw [small_bytes]; exact h2.1)
      rw [this]
    · have h3 := h2.2
      simp only [List.map_cons, List.map_nil, List.cons.injEq, and_true] at h3
      exact (low_blank _).1 h3
  · rintro ⟨h6, hb⟩
    have : smallB (v.extract 0 7) = bearS := bytesOf_inj (by
      rw [small_bytes, e7, List.map_append, k7, ← small_bytes, toList_inj h6, hb]
      rfl)
    rw [this]
end Go.Proofs.YtcgenmogedndjaaDoor
namespace Go.Proofs.YtcgenmogedndjaaDoor
open Go.RowKit Go.ChangeShapes Go.WideShapes Go.Proofs.YtcgenmogedndjaaDoorW.PrintWords
section
variable {H : Type} {enc : TypeId × Value → H} {W : World} {base : Nat} {spare : Nat → Bool} {held : Bool} {fuel : Nat} {cs : List Value} {x : DataW H × List MemPlace}
set_option maxRecDepth 100000 in
theorem open_secs (h : DataW.trod enc Tryd.prog W base spare held fuel 22 cs = some x) : ∃ (A : Option Addr) (n c : Nat) (L : List Sec), cs = [.slice A n c] ∧ RdS W A n L ∧ n ≤ c ∧ SecOk L := by
  rcases Deep.open_slice_pairs Tryd.underlying22 Tryd.underlying42 (by kernel_rfl) rfl rfl (by kernel_rfl) (by kernel_rfl) h with ⟨rfl, _⟩ | ⟨a, len, cap, m, k, V0, V1, D0, D1, P0, P1, rfl, _, hl, hm, hmm, _, hx⟩
  · exact ⟨none, 0, 0, [], rfl, Kd.C_nil _ _, Nat.le_refl _, fun _ h => by cases h⟩
  have hlm : len ≤ m := by rw [hmm]; split <;> omega
  have each : ∀ i, i < len → ∃ q : Int × (Option Addr × Nat × List Int), W.cell? (a.add (i * 2)) = some (.int .i64 q.1) ∧ W.cell? (a.add (i * 2 + 1)) = some (.slice q.2.1 q.2.2.2.length q.2.2.1) ∧ (Lit.int .i64 q.1).wf = true ∧ Rd W q.2.1 q.2.2.2.length q.2.2.2 ∧ q.2.2.2.length ≤ q.2.2.1 ∧ Bytes q.2.2.2 := by
    intro i hi
    obtain ⟨h0, h1, h2, h3⟩ := hx i (by omega)
    obtain ⟨y0, e0, _, hw⟩ := DataW.trod_int Tryd.underlying3 h2
    obtain ⟨Ai, n, c, l, e1, hr, hc, hb⟩ := open_bytes_cell h3
    simp only [List.cons.injEq, and_true] at e0 e1
    have hln := Kd.C_len hr
    subst hln
    exact ⟨(y0, Ai, c, l), by rw [h0, e0], by rw [h1, e1], hw, hr, hc, hb⟩
  obtain ⟨q, hq⟩ := Deep.choose_lt each
  refine ⟨some a, len, cap, (List.range len).map fun i => ⟨(q i).1, (q i).2.2.2⟩, rfl, ⟨by simp, by simp only [maxLen] at hm; omega, fun _ => ⟨a, rfl, fun j p hj => ?_⟩⟩, hl, fun s hs => ?_⟩
  · rw [List.getElem?_map] at hj
    have hjl : j < len := by
      rcases Nat.lt_or_ge j len with h | h
      · exact h
      · rw [List.getElem?_eq_none (by simpa using h)] at hj
        cases hj
    rw [List.getElem?_range hjl] at hj
    simp only [Option.map_some, Option.some.injEq] at hj
    subst hj
    obtain ⟨h0, h1, _, hr, hc, _⟩ := hq j hjl
    refine ⟨[.int .i64 (q j).1, .slice (q j).2.1 (q j).2.2.2.length (q j).2.2.1], rfl, ⟨[.int .i64 (q j).1], [.slice (q j).2.1 (q j).2.2.2.length (q j).2.2.1], rfl, rfl, ⟨(q j).2.1, (q j).2.2.1, rfl, hc, hr⟩⟩, fun i u hu => ?_⟩
    rcases i with _ | _ | i
    · rw [show secK.sz = 2 from rfl, Nat.add_zero, h0]
      simpa using hu
    · rw [show secK.sz = 2 from rfl, h1]
      simpa using hu
    · simp at hu
  · obtain ⟨i, hi, rfl⟩ := List.mem_map.1 hs
    obtain ⟨_, _, hw, _, _, hb⟩ := hq i (List.mem_range.1 hi)
    exact ⟨hb, wf_i64 hw⟩
set_option maxRecDepth 100000 in
theorem open_hdrs (h : DataW.trod enc Tryd.prog W base spare held fuel 48 cs = some x) : ∃ (A : Option Addr) (n c : Nat) (L : List Hdr), cs = [.slice A n c] ∧ RdH W A n L ∧ ∀ h ∈ L, h.name.size ≤ 9223372036854775807 ∧ h.value.size ≤ 9223372036854775807 := by
  rcases Deep.open_slice_pairs Tryd.underlying48 Tryd.underlying52 (by kernel_rfl) rfl rfl (by kernel_rfl) (by kernel_rfl) h with ⟨rfl, _⟩ | ⟨a, len, cap, m, k, V0, V1, D0, D1, P0, P1, rfl, _, hl, hm, hmm, _, hx⟩
  · exact ⟨none, 0, 0, [], rfl, Kd.C_nil _ _, fun _ h => by cases h⟩
  have hlm : len ≤ m := by rw [hmm]; split <;> omega
  have each : ∀ i, i < len → ∃ q : ByteArray × ByteArray, W.cell? (a.add (i * 2)) = some (.string q.1) ∧ W.cell? (a.add (i * 2 + 1)) = some (.string q.2) ∧ q.1.size ≤ 9223372036854775807 ∧ q.2.size ≤ 9223372036854775807 := by
    intro i hi
    obtain ⟨h0, h1, h2, h3⟩ := hx i (by omega)
    obtain ⟨y0, e0, _, z0⟩ := DataW.trod_string Tryd.underlying9 h2
    obtain ⟨y1, e1, _, z1⟩ := DataW.trod_string Tryd.underlying9 h3
    simp only [List.cons.injEq, and_true] at e0 e1
    exact ⟨(y0, y1), by rw [h0, e0], by rw [h1, e1], z0, z1⟩
  obtain ⟨q, hq⟩ := Deep.choose_lt each
  refine ⟨some a, len, cap, (List.range len).map fun i => ⟨(q i).1, (q i).2⟩, rfl, ⟨by simp, by simp only [maxLen] at hm; omega, fun _ => ⟨a, rfl, fun j p hj => ?_⟩⟩, fun s hs => ?_⟩
  · rw [List.getElem?_map] at hj
    have hjl : j < len := by
      rcases Nat.lt_or_ge j len with h | h
      · exact h
      · rw [List.getElem?_eq_none (by simpa using h)] at hj
        cases hj
    rw [List.getElem?_range hjl] at hj
    simp only [Option.map_some, Option.some.injEq] at hj
    subst hj
    obtain ⟨h0, h1, _, _⟩ := hq j hjl
    refine ⟨[.string (q j).1, .string (q j).2], rfl, ⟨[.string (q j).1], [.string (q j).2], rfl, rfl, rfl⟩, fun i u hu => ?_⟩
    rcases i with _ | _ | i
    · rw [show hdrK.sz = 2 from rfl, Nat.add_zero, h0]
      simpa using hu
    · rw [show hdrK.sz = 2 from rfl, h1]
      simpa using hu
    · simp at hu
  · obtain ⟨i, hi, rfl⟩ := List.mem_map.1 hs
    obtain ⟨_, _, z0, z1⟩ := hq i (List.mem_range.1 hi)
    exact ⟨z0, z1⟩
set_option maxRecDepth 100000 in
theorem open_claim {r : Reach} {b0 : Nat} {v : Value} {d : DataW H} {p : List MemPlace} (hv : Value.okWide Tryd.prog W r b0 24 v) (h : DataW.Trod enc Tryd.prog W base spare held 24 v d p) :
    ∃ (a b : ByteArray) (u : Int), v = .agg #[.string a, .string b, .int .i64 u] ∧ a.size ≤ 9223372036854775807 ∧ b.size ≤ 9223372036854775807 ∧ (-9223372036854775808 ≤ u ∧ u ≤ 9223372036854775807) := by
  obtain ⟨v0, v1, v2, y0, y1, y2, k, rfl, _, _, h0, h1, h2⟩ := Joins.open_agg3 Tryd.underlying24 (by kernel_rfl) (by kernel_rfl) hv h
  obtain ⟨a, e0, _, z0⟩ := DataW.trod_string Tryd.underlying9 h0
  obtain ⟨b, e1, _, z1⟩ := DataW.trod_string Tryd.underlying9 h1
  obtain ⟨u, e2, _, z2⟩ := DataW.trod_int Tryd.underlying3 h2
  simp only [List.cons.injEq, and_true] at e0 e1 e2
  subst e0 e1 e2
  exact ⟨a, b, u, rfl, z0, z1, wf_i64 z2⟩
set_option maxRecDepth 100000 in
theorem open_req {r : Reach} {b0 : Nat} {v : Value} {d : DataW H} {p : List MemPlace} (hv : Value.okWide Tryd.prog W r b0 50 v) (h : DataW.Trod enc Tryd.prog W base spare held 50 v d p) :
    ∃ (me pa : ByteArray) (A : Option Addr) (n c : Nat) (bd : Value) (L : List Hdr), v = .agg #[.string me, .string pa, .slice A n c, bd] ∧ RdH W A n L ∧ ∀ h ∈ L, h.name.size ≤ 9223372036854775807 ∧ h.value.size ≤ 9223372036854775807 := by
  obtain ⟨v0, v1, v2, v3, y0, y1, y2, y3, k, rfl, _, _, h0, h1, h2, h3⟩ := Joins.open_agg4 Tryd.underlying50 (by kernel_rfl) (by kernel_rfl) hv h
  obtain ⟨a, e0, _, z0⟩ := DataW.trod_string Tryd.underlying9 h0
  obtain ⟨b, e1, _, z1⟩ := DataW.trod_string Tryd.underlying9 h1
  obtain ⟨A, n, c, L, e2, hr, hz⟩ := open_hdrs h2
  simp only [List.cons.injEq, and_true] at e0 e1 e2
  subst e0 e1 e2
  exact ⟨a, b, A, n, c, v3, L, rfl, hr, hz⟩
end
end Go.Proofs.YtcgenmogedndjaaDoor
namespace Go.Proofs.YtcgenmogedndjaaDoor
open Go.RowKit Go.Proofs.YtcgenmogedndjaaDoorW.PrintWords
theorem authS_list : authS.toList = [97, 117, 116, 104, 111, 114, 105, 122, 97, 116, 105, 111, 110] := by rw [ByteArray.toList_eq]; rfl
theorem bearS_list : bearS.toList = [98, 101, 97, 114, 101, 114, 32] := by rw [ByteArray.toList_eq]; rfl
theorem bear6_list : bear6.toList = [98, 101, 97, 114, 101, 114] := by rw [ByteArray.toList_eq]; rfl
theorem authStep_yes {a : ByteArray × Nat} {h : Hdr} (e : (smallB h.name).toList = authS.toList) : authStep a h = (h.value, a.2 + 1) := if_pos e
theorem authStep_no {a : ByteArray × Nat} {h : Hdr} (e : ¬ (smallB h.name).toList = authS.toList) : authStep a h = a := if_neg e
set_option maxRecDepth 20000 in
set_option maxHeartbeats 3200000 in
theorem Bearer_calls {n : Nat} (me pa : ByteArray) (A : Option Addr) (c : Nat) (bd : Value) (hs : List Hdr) (w : World) (hr0 : RdH w A n hs) (hok : HdrOk hs) :
    Calls Tryd.prog 24 #[.agg #[.string me, .string pa, .slice A n c, bd]] w fun e w' => e = .returned (.tuple #[.string (bearR hs).1, .bool (bearR hs).2]) ∧ Below w.heap.size w w' := by
  have hlen : hs.length = n := Kd.C_len hr0
  have hmax := Kd.C_max hr0
  obtain ⟨R, hR⟩ : ∃ R, R = bearR hs := ⟨_, rfl⟩
  rw [← hR]
  have HRR := Lib.hid hR
  obtain ⟨g, hg⟩ : ∃ g, g = w.heap.size := ⟨_, rfl⟩
  obtain ⟨W0, hW0⟩ : ∃ W0, W0 = w.alloc (.cells #[.string me, .string pa, .slice A n c, bd] 50) := ⟨_, rfl⟩
  have hbw : Below w.heap.size w W0 := by rw [hW0]; exact below_alloc (Below.refl _ _) _
  have hhp : W0.heap[g]? = some (.cells #[.string me, .string pa, .slice A n c, bd] 50) := by rw [hW0, hg]; exact heap_alloc_new w _
  have x2 : W0.cell? ⟨g, 2, none⟩ = some (.slice A n c) := by simp [World.cell?, hhp]
  have HS := Lib.hid (show g = w.heap.size ∧ W0 = w.alloc _ from ⟨hg, hW0⟩)
  have HI := Lib.hid (show RdH W0 A n hs ∧ HdrOk hs ∧ Below w.heap.size w W0 ∧ hs.length = n ∧ n ≤ 9223372036854775807 from ⟨Kd.C_below hr0 hbw, hok, hbw, hlen, hmax⟩)
  clear hR hg hW0 hbw hhp hr0 hok hlen hmax
  go_enter Tryd.func24, Tryd.ntmps24
  go_upto_block 0 with (fail)
  rw [← HS.out.1, ← HS.out.2]
  go_cut [4, 5] (fun a b wc => a = .string (authUp hs n).1 ∧ b = .int .i64 ((authUp hs n).2 : Int) ∧ Hid (Below W0.heap.size W0 wc))
  case first =>
    go_wp2
    go_loopw [4, 5, 11] (fun a b i wr => ∃ k : Nat, i = .int .i64 k ∧ k ≤ n ∧ a = .string (authUp hs k).1 ∧ b = .int .i64 ((authUp hs k).2 : Int) ∧ Hid (Below W0.heap.size W0 wr)) (fun _ _ i _ => n - (intOf i).toNat)
    case atStart => exact ⟨0, rfl, by omega, rfl, rfl, Lib.hid (Below.refl _ _)⟩
    case round =>
      obtain ⟨k, rfl, hk, rfl, rfl, HB⟩ := hrel
      by_cases hkn : k < n
      · have dkn : decide ((k : Int) < n) = true := decide_eq_true (by omega)
        have ikn : (k : Int) < n := by omega
        have hmx := HI.out.2.2.2.2
        have wk : IntKind.i64.wrap ((k : Int) + 1) = k + 1 := wrap_id (by omega) (by omega)
        have hki : k < hs.length := by have := HI.out.2.2.2.1; omega
        obtain ⟨ad, rfl, x0, x1⟩ := RdH.at (Kd.C_below HI.out.1 HB.out) k hkn
        have hle := authUp_le hs k (by omega)
        have hsc := authUp_succ hs k hki
        have hso := HI.out.2.1.at k hki
        obtain ⟨sc, hsd⟩ : ∃ sc, sc = hs.getD k Hdr.none := ⟨_, rfl⟩
        rw [← hsd] at x0 x1 hsc hso
        obtain ⟨nm, vl⟩ := sc
        simp only at x0 x1 hso
        obtain ⟨ci, hci⟩ : ∃ ci : Nat, ci = (authUp hs k).2 := ⟨_, rfl⟩
        rw [← hci] at hle ⊢
        have wc : IntKind.i64.wrap ((ci : Int) + 1) = ci + 1 := wrap_id (by omega) (by omega)
        have HK := Lib.hid (show authUp hs (k + 1) = authStep (authUp hs k) ⟨nm, vl⟩ ∧ ci = (authUp hs k).2 ∧ nm.size ≤ 1099511627776 ∧ k < n from ⟨hsc, hci, hso.1, hkn⟩)
        obtain ⟨tk, htk⟩ : ∃ t, t = (authUp hs k).1 := ⟨_, rfl⟩
        rw [← htk]
        have HTK := Lib.hid htk
        clear hmx hki hsd hsc hso hci hle hkn htk
        obtain ⟨g7, hg7⟩ : ∃ g, g = wr.heap.size := ⟨_, rfl⟩
        obtain ⟨W7, hW7⟩ : ∃ W, W = wr.alloc (.cells #[.string nm, .string vl] 52) := ⟨_, rfl⟩
        have hb7 : Below wr.heap.size wr W7 := by rw [hW7]; exact below_alloc (Below.refl _ _) _
        have hws : Whole W7 g7 52 #[.string nm, .string vl] := by rw [hW7, hg7]; exact Whole.new wr _ _
        have H7 := Lib.hid (show Below W0.heap.size W0 W7 ∧ Whole W7 g7 52 #[.string nm, .string vl] from ⟨below_step HB.out hb7, hws⟩)
        have HS7 := Lib.hid (show g7 = wr.heap.size ∧ W7 = wr.alloc _ from ⟨hg7, hW7⟩)
        have y0 := hws.cell 0 _ rfl
        clear hb7 hws hg7 hW7
        go_upto_region 5 with (fail)
        rw [← HS7.out.1, ← HS7.out.2]
        clear x0 x1
        go_wp2_with fail
        refine (small_calls nm _ (by have := HK.out; omega)).mono ?_
        rintro e w8 ⟨rfl, hb8⟩
        have H8 := Lib.hid (show Below W0.heap.size W0 w8 ∧ Whole w8 g7 52 #[.string nm, .string vl] from ⟨below_step H7.out.1 hb8, H7.out.2.below hb8 H7.out.2.lt⟩)
        have z1 := H8.out.2.cell 1 _ rfl
        clear hb8 y0
        obtain ⟨T, hT⟩ : ∃ T, T = smallB nm := ⟨_, rfl⟩
        rw [← hT]
        have HT := Lib.hid hT
        clear hT
        by_cases heq : T.toList = [97, 117, 116, 104, 111, 114, 105, 122, 97, 116, 105, 111, 110]
        · have deq : (T.toList == [97, 117, 116, 104, 111, 114, 105, 122, 97, 116, 105, 111, 110]) = true := beq_iff_eq.2 heq
          have HU := Lib.hid (show authUp hs (k + 1) = (vl, ci + 1) by rw [HK.out.1, authStep_yes (by rw [authS_list]; show (smallB nm).toList = _; rw [← HT.out]; exact heq), HK.out.2.1])
          clear heq
          go_wp2
          go_roundw
          case rel => exact ⟨k + 1, by go_num, by have := HK.out; omega, by rw [HU.out], by rw [HU.out]; go_num, Lib.hid H8.out.1⟩
          case measure => have := HK.out; simp [intOf]; omega
        · have deq : (T.toList == [97, 117, 116, 104, 111, 114, 105, 122, 97, 116, 105, 111, 110]) = false := beq_eq_false_iff_ne.2 heq
          have HU := Lib.hid (show authUp hs (k + 1) = (tk, ci) by rw [HK.out.1, authStep_no (by rw [authS_list]; show ¬ (smallB nm).toList = _; rw [← HT.out]; exact heq), HTK.out, HK.out.2.1])
          clear heq
          go_wp2
          go_roundw
          case rel => exact ⟨k + 1, by go_num, by have := HK.out; omega, by rw [HU.out], by rw [HU.out], Lib.hid H8.out.1⟩
          case measure => have := HK.out; simp [intOf]; omega
      · obtain rfl : k = n := by omega
        have dkn : decide ((k : Int) < k) = false := decide_eq_false (by omega)
        go_wp2
        go_meet
        case rel => exact ⟨rfl, rfl, HB⟩
  case rest =>
    obtain ⟨rfl, rfl, HB⟩ := hcut
    clear x2
    obtain ⟨V, hV⟩ : ∃ V, V = (authUp hs n).1 := ⟨_, rfl⟩
    obtain ⟨N, hN⟩ : ∃ N, N = (authUp hs n).2 := ⟨_, rfl⟩
    rw [← hV, ← hN]
    have hvs := authUp_size hs HI.out.2.1 n (by rw [HI.out.2.2.2.1]; exact Nat.le_refl _)
    rw [← hV] at hvs
    have HNO := Lib.hid (show ¬ bearB V N → R = (ByteArray.empty, false) from fun h => by rw [HRR.out]; exact bearR_no (by rw [HI.out.2.2.2.1, ← hV, ← hN]; exact h))
    have HYES := Lib.hid (show bearB V N → R = (V.extract 7 V.size, true) from fun h => by rw [HRR.out]; have h2 := bearR_yes (hs := hs) (by rw [HI.out.2.2.2.1, ← hV, ← hN]; exact h); rw [HI.out.2.2.2.1, ← hV] at h2; exact h2)
    have HBW := Lib.hid (below_step HI.out.2.2.1 HB.out)
    have HVS := Lib.hid hvs
    clear hV hN hvs
    obtain ⟨M, hM⟩ : ∃ M : Int, M = (N : Int) := ⟨_, rfl⟩
    rw [← hM]
    by_cases h1 : N = 1
    case' neg =>
      have HE := Lib.hid (show R = (ByteArray.empty, false) from HNO.out (fun h => h1 h.1))
      have d1 : (M == 1) = false := beq_eq_false_iff_ne.2 (by omega)
      have d1' : (M != 1) = true := bne_iff_ne.2 (by omega)
      clear h1 hM
      go_wp2
      go_ret2
      exact ⟨by rw [HE.out]; rfl, HBW.out⟩
    have d1 : (M == 1) = true := beq_iff_eq.2 (by omega)
    have d1' : (M != 1) = false := bne_eq_false_iff_eq.2 (by omega)
    have H1 := Lib.hid h1
    clear h1 hM
    by_cases h8 : V.size < 8
    case' pos =>
      have HE := Lib.hid (show R = (ByteArray.empty, false) from HNO.out (fun h => by have := h.2.1; omega))
      have d8 : decide ((V.size : Int) < 8) = true := decide_eq_true (by omega)
      have d8' : decide (V.size < 8) = true := decide_eq_true h8
      clear h8
      go_wp2
      go_ret2
      exact ⟨by rw [HE.out]; rfl, HBW.out⟩
    have d8 : decide ((V.size : Int) < 8) = false := decide_eq_false (by omega)
    have d8' : decide (V.size < 8) = false := decide_eq_false h8
    have H8 := Lib.hid (show 8 ≤ V.size by omega)
    have i7 : (7 : Int) ≤ V.size := by omega
    have i6 : (6 : Int) ≤ V.size := by omega
    have j7 : 7 ≤ V.size := by omega
    have j6 : 6 ≤ V.size := by omega
    have j6' : 6 < V.size := by omega
    clear h8
    go_wp2_with fail
    refine (small_calls (V.extract 0 7) _ (by rw [← bytesOf_length, bytesOf_extract, List.length_take, List.length_drop, bytesOf_length]; omega)).mono ?_
    rintro e w2 ⟨rfl, hb2⟩
    have HB2 := Lib.hid (below_step HBW.out hb2)
    clear hb2
    obtain ⟨T, hT⟩ : ∃ T, T = smallB (V.extract 0 7) := ⟨_, rfl⟩
    rw [← hT]
    have HT := Lib.hid hT
    clear hT
    by_cases hb : T.toList = [98, 101, 97, 114, 101, 114, 32]
    case' neg =>
      have db : (T.toList == [98, 101, 97, 114, 101, 114, 32]) = false := beq_eq_false_iff_ne.2 hb
      have db' : (T.toList != [98, 101, 97, 114, 101, 114, 32]) = true := bne_iff_ne.2 hb
      have HE := Lib.hid (show R = (ByteArray.empty, false) from HNO.out (fun h => hb (by rw [HT.out, ← bearS_list]; exact h.2.2.1)))
      clear hb
      go_wp2
      go_ret2
      exact ⟨by rw [HE.out]; rfl, HB2.out⟩
    have db : (T.toList == [98, 101, 97, 114, 101, 114, 32]) = true := beq_iff_eq.2 hb
    have db' : (T.toList != [98, 101, 97, 114, 101, 114, 32]) = false := bne_eq_false_iff_eq.2 hb
    have HTB := Lib.hid (show (smallB (V.extract 0 7)).toList = bearS.toList by rw [← HT.out, bearS_list]; exact hb)
    clear hb
    obtain ⟨Y, hY⟩ : ∃ Y, Y = V.extract 7 V.size := ⟨_, rfl⟩
    have hm : ∀ cc : Int, posOf cc (bytesOf Y) < Y.size ↔ ∃ j, 7 ≤ j ∧ j < V.size ∧ rd (bytesOf V) ((j : Nat) : Int) = cc := fun cc => by have h := posOf_lt cc (bytesOf Y); rw [bytesOf_length] at h; rw [h, hY]; exact mem_extract7 V cc
    have HYM := Lib.hid (show V.extract 7 V.size = Y ∧ ∀ cc : Int, posOf cc (bytesOf Y) < Y.size ↔ ∃ j, 7 ≤ j ∧ j < V.size ∧ rd (bytesOf V) ((j : Nat) : Int) = cc from ⟨hY.symm, hm⟩)
    clear hY hm
    go_wp2_with fail
    rw [HYM.out.1]
    refine (IndexByte_calls Y 32 (by decide) _).mono ?_
    rintro e w3 ⟨rfl, rfl⟩
    by_cases h32 : posOf 32 (bytesOf Y) < Y.size
    case' pos =>
      have HE := Lib.hid (show R = (ByteArray.empty, false) from HNO.out (fun h => by obtain ⟨j, a, b, cc⟩ := (HYM.out.2 32).1 h32; exact (h.2.2.2 j a b).1 cc))
      rw [show (if posOf ((32 : Nat) : Int) (bytesOf Y) < Y.size then ((posOf ((32 : Nat) : Int) (bytesOf Y) : Nat) : Int) else -1) = ((posOf 32 (bytesOf Y) : Nat) : Int) from if_pos h32]
      clear h32
      go_wp2
      go_ret2
      exact ⟨by rw [HE.out]; rfl, HB2.out⟩
    rw [show (if posOf ((32 : Nat) : Int) (bytesOf Y) < Y.size then ((posOf ((32 : Nat) : Int) (bytesOf Y) : Nat) : Int) else -1) = -1 from if_neg h32]
    have H32 := Lib.hid h32
    clear h32
    go_wp2_with fail
    refine (IndexByte_calls Y 9 (by decide) _).mono ?_
    rintro e w4 ⟨rfl, rfl⟩
    by_cases h9 : posOf 9 (bytesOf Y) < Y.size
    case' pos =>
      have HE := Lib.hid (show R = (ByteArray.empty, false) from HNO.out (fun h => by obtain ⟨j, a, b, cc⟩ := (HYM.out.2 9).1 h9; exact (h.2.2.2 j a b).2 cc))
      rw [show (if posOf ((9 : Nat) : Int) (bytesOf Y) < Y.size then ((posOf ((9 : Nat) : Int) (bytesOf Y) : Nat) : Int) else -1) = ((posOf 9 (bytesOf Y) : Nat) : Int) from if_pos h9]
      clear h9
      go_wp2
      go_ret2
      exact ⟨by rw [HE.out]; rfl, HB2.out⟩
    rw [show (if posOf ((9 : Nat) : Int) (bytesOf Y) < Y.size then ((posOf ((9 : Nat) : Int) (bytesOf Y) : Nat) : Int) else -1) = -1 from if_neg h9]
    have HE := Lib.hid (show R = (Y, true) by rw [HYES.out ⟨H1.out, H8.out, HTB.out, fun j a b => ⟨fun e => H32.out ((HYM.out.2 32).2 ⟨j, a, b, e⟩), fun e => h9 ((HYM.out.2 9).2 ⟨j, a, b, e⟩)⟩⟩, HYM.out.1])
    clear h9
    go_wp2
    go_ret2
    exact ⟨by rw [HE.out]; rfl, HB2.out⟩
set_option maxRecDepth 20000 in
set_option maxHeartbeats 3200000 in
theorem BearerRef_calls {n : Nat} (me pa : ByteArray) (A : Option Addr) (c : Nat) (bd : Value) (hs : List Hdr) (w : World) (hr0 : RdH w A n hs) (hok : HdrOk hs) :
    Calls Tryd.prog 25 #[.agg #[.string me, .string pa, .slice A n c, bd]] w fun e w' => e = .returned (.tuple #[.string (bearR hs).1, .bool (bearR hs).2]) ∧ Below w.heap.size w w' := by
  have hlen : hs.length = n := Kd.C_len hr0
  have hmax := Kd.C_max hr0
  obtain ⟨R, hR⟩ : ∃ R, R = bearR hs := ⟨_, rfl⟩
  rw [← hR]
  have HRR := Lib.hid hR
  obtain ⟨g, hg⟩ : ∃ g, g = w.heap.size := ⟨_, rfl⟩
  obtain ⟨W0, hW0⟩ : ∃ W0, W0 = w.alloc (.cells #[.string me, .string pa, .slice A n c, bd] 50) := ⟨_, rfl⟩
  have hbw : Below w.heap.size w W0 := by rw [hW0]; exact below_alloc (Below.refl _ _) _
  have hhp : W0.heap[g]? = some (.cells #[.string me, .string pa, .slice A n c, bd] 50) := by rw [hW0, hg]; exact heap_alloc_new w _
  have x2 : W0.cell? ⟨g, 2, none⟩ = some (.slice A n c) := by simp [World.cell?, hhp]
  have HS := Lib.hid (show g = w.heap.size ∧ W0 = w.alloc _ from ⟨hg, hW0⟩)
  have HI := Lib.hid (show RdH W0 A n hs ∧ HdrOk hs ∧ Below w.heap.size w W0 ∧ hs.length = n ∧ n ≤ 9223372036854775807 from ⟨Kd.C_below hr0 hbw, hok, hbw, hlen, hmax⟩)
  clear hR hg hW0 hbw hhp hr0 hok hlen hmax
  go_enter Tryd.func25, Tryd.ntmps25
  go_upto_block 0 with (fail)
  rw [← HS.out.1, ← HS.out.2]
  go_cut [4, 5] (fun a b wc => b = .string (authUp hs n).1 ∧ a = .int .i64 ((authUp hs n).2 : Int) ∧ Hid (Below W0.heap.size W0 wc))
  case first =>
    go_wp2
    go_loopw [4, 5, 12] (fun a b i wr => ∃ k : Nat, i = .int .i64 k ∧ k ≤ n ∧ b = .string (authUp hs k).1 ∧ a = .int .i64 ((authUp hs k).2 : Int) ∧ Hid (Below W0.heap.size W0 wr)) (fun _ _ i _ => n - (intOf i).toNat)
    case atStart => exact ⟨0, rfl, by omega, rfl, rfl, Lib.hid (Below.refl _ _)⟩
    case round =>
      obtain ⟨k, rfl, hk, rfl, rfl, HB⟩ := hrel
      by_cases hkn : k < n
      · have dkn : decide ((k : Int) < n) = true := decide_eq_true (by omega)
        have ikn : (k : Int) < n := by omega
        have hmx := HI.out.2.2.2.2
        have wk : IntKind.i64.wrap ((k : Int) + 1) = k + 1 := wrap_id (by omega) (by omega)
        have hki : k < hs.length := by have := HI.out.2.2.2.1; omega
        obtain ⟨ad, rfl, x0, x1⟩ := RdH.at (Kd.C_below HI.out.1 HB.out) k hkn
        have hle := authUp_le hs k (by omega)
        have hsc := authUp_succ hs k hki
        have hso := HI.out.2.1.at k hki
        obtain ⟨sc, hsd⟩ : ∃ sc, sc = hs.getD k Hdr.none := ⟨_, rfl⟩
        rw [← hsd] at x0 x1 hsc hso
        obtain ⟨nm, vl⟩ := sc
        simp only at x0 x1 hso
        obtain ⟨ci, hci⟩ : ∃ ci : Nat, ci = (authUp hs k).2 := ⟨_, rfl⟩
        rw [← hci] at hle ⊢
        have wc : IntKind.i64.wrap ((ci : Int) + 1) = ci + 1 := wrap_id (by omega) (by omega)
        have HK := Lib.hid (show authUp hs (k + 1) = authStep (authUp hs k) ⟨nm, vl⟩ ∧ ci = (authUp hs k).2 ∧ nm.size ≤ 1099511627776 ∧ k < n from ⟨hsc, hci, hso.1, hkn⟩)
        obtain ⟨tk, htk⟩ : ∃ t, t = (authUp hs k).1 := ⟨_, rfl⟩
        rw [← htk]
        have HTK := Lib.hid htk
        clear hmx hki hsd hsc hso hci hle hkn htk
        obtain ⟨g7, hg7⟩ : ∃ g, g = wr.heap.size := ⟨_, rfl⟩
        obtain ⟨W7, hW7⟩ : ∃ W, W = wr.alloc (.cells #[.string nm, .string vl] 52) := ⟨_, rfl⟩
        have hb7 : Below wr.heap.size wr W7 := by rw [hW7]; exact below_alloc (Below.refl _ _) _
        have hws : Whole W7 g7 52 #[.string nm, .string vl] := by rw [hW7, hg7]; exact Whole.new wr _ _
        have H7 := Lib.hid (show Below W0.heap.size W0 W7 ∧ Whole W7 g7 52 #[.string nm, .string vl] from ⟨below_step HB.out hb7, hws⟩)
        have HS7 := Lib.hid (show g7 = wr.heap.size ∧ W7 = wr.alloc _ from ⟨hg7, hW7⟩)
        have y0 := hws.cell 0 _ rfl
        clear hb7 hws hg7 hW7
        go_upto_region 5 with (fail)
        rw [← HS7.out.1, ← HS7.out.2]
        clear x0 x1
        go_wp2_with fail
        refine (smallRef_calls nm _ (by have := HK.out; omega)).mono ?_
        rintro e w8 ⟨rfl, hb8⟩
        have H8 := Lib.hid (show Below W0.heap.size W0 w8 ∧ Whole w8 g7 52 #[.string nm, .string vl] from ⟨below_step H7.out.1 hb8, H7.out.2.below hb8 H7.out.2.lt⟩)
        have z1 := H8.out.2.cell 1 _ rfl
        clear hb8 y0
        obtain ⟨T, hT⟩ : ∃ T, T = smallB nm := ⟨_, rfl⟩
        rw [← hT]
        have HT := Lib.hid hT
        clear hT
        by_cases heq : T.toList = [97, 117, 116, 104, 111, 114, 105, 122, 97, 116, 105, 111, 110]
        · have deq : (T.toList == [97, 117, 116, 104, 111, 114, 105, 122, 97, 116, 105, 111, 110]) = true := beq_iff_eq.2 heq
          have HU := Lib.hid (show authUp hs (k + 1) = (vl, ci + 1) by rw [HK.out.1, authStep_yes (by rw [authS_list]; show (smallB nm).toList = _; rw [← HT.out]; exact heq), HK.out.2.1])
          clear heq
          go_wp2
          go_roundw
          case rel => exact ⟨k + 1, by go_num, by have := HK.out; omega, by rw [HU.out], by rw [HU.out]; go_num, Lib.hid H8.out.1⟩
          case measure => have := HK.out; simp [intOf]; omega
        · have deq : (T.toList == [97, 117, 116, 104, 111, 114, 105, 122, 97, 116, 105, 111, 110]) = false := beq_eq_false_iff_ne.2 heq
          have HU := Lib.hid (show authUp hs (k + 1) = (tk, ci) by rw [HK.out.1, authStep_no (by rw [authS_list]; show ¬ (smallB nm).toList = _; rw [← HT.out]; exact heq), HTK.out, HK.out.2.1])
          clear heq
          go_wp2
          go_roundw
          case rel => exact ⟨k + 1, by go_num, by have := HK.out; omega, by rw [HU.out], by rw [HU.out], Lib.hid H8.out.1⟩
          case measure => have := HK.out; simp [intOf]; omega
      · obtain rfl : k = n := by omega
        have dkn : decide ((k : Int) < k) = false := decide_eq_false (by omega)
        go_wp2
        go_meet
        case rel => exact ⟨rfl, rfl, HB⟩
  case rest =>
    obtain ⟨rfl, rfl, HB⟩ := hcut
    clear x2
    obtain ⟨V, hV⟩ : ∃ V, V = (authUp hs n).1 := ⟨_, rfl⟩
    obtain ⟨N, hN⟩ : ∃ N, N = (authUp hs n).2 := ⟨_, rfl⟩
    rw [← hV, ← hN]
    have hvs := authUp_size hs HI.out.2.1 n (by rw [HI.out.2.2.2.1]; exact Nat.le_refl _)
    rw [← hV] at hvs
    have HNO := Lib.hid (show ¬ bearB V N → R = (ByteArray.empty, false) from fun h => by rw [HRR.out]; exact bearR_no (by rw [HI.out.2.2.2.1, ← hV, ← hN]; exact h))
    have HYES := Lib.hid (show bearB V N → R = (V.extract 7 V.size, true) from fun h => by rw [HRR.out]; have h2 := bearR_yes (hs := hs) (by rw [HI.out.2.2.2.1, ← hV, ← hN]; exact h); rw [HI.out.2.2.2.1, ← hV] at h2; exact h2)
    have HBW := Lib.hid (below_step HI.out.2.2.1 HB.out)
    have HVS := Lib.hid hvs
    clear hV hN hvs
    obtain ⟨M, hM⟩ : ∃ M : Int, M = (N : Int) := ⟨_, rfl⟩
    rw [← hM]
    by_cases h1 : N = 1
    case' neg =>
      have HE := Lib.hid (show R = (ByteArray.empty, false) from HNO.out (fun h => h1 h.1))
      have d1 : (M == 1) = false := beq_eq_false_iff_ne.2 (by omega)
      have d1' : (M != 1) = true := bne_iff_ne.2 (by omega)
      clear h1 hM
      go_wp2
      go_ret2
      exact ⟨by rw [HE.out]; rfl, HBW.out⟩
    have d1 : (M == 1) = true := beq_iff_eq.2 (by omega)
    have d1' : (M != 1) = false := bne_eq_false_iff_eq.2 (by omega)
    have H1 := Lib.hid h1
    clear h1 hM
    by_cases h8 : V.size < 8
    case' pos =>
      have HE := Lib.hid (show R = (ByteArray.empty, false) from HNO.out (fun h => by have := h.2.1; omega))
      have d8 : decide ((V.size : Int) < 8) = true := decide_eq_true (by omega)
      have d8' : decide (V.size < 8) = true := decide_eq_true h8
      clear h8
      go_wp2
      go_ret2
      exact ⟨by rw [HE.out]; rfl, HBW.out⟩
    have d8 : decide ((V.size : Int) < 8) = false := decide_eq_false (by omega)
    have d8' : decide (V.size < 8) = false := decide_eq_false h8
    have H8 := Lib.hid (show 8 ≤ V.size by omega)
    have i7 : (7 : Int) ≤ V.size := by omega
    have i6 : (6 : Int) ≤ V.size := by omega
    have j7 : 7 ≤ V.size := by omega
    have j6 : 6 ≤ V.size := by omega
    have j6' : 6 < V.size := by omega
    clear h8
    go_wp2_with fail
    refine (smallRef_calls (V.extract 0 6) _ (by rw [← bytesOf_length, bytesOf_extract, List.length_take, List.length_drop, bytesOf_length]; omega)).mono ?_
    rintro e w2 ⟨rfl, hb2⟩
    have HB2 := Lib.hid (below_step HBW.out hb2)
    clear hb2
    obtain ⟨T, hT⟩ : ∃ T, T = smallB (V.extract 0 6) := ⟨_, rfl⟩
    rw [← hT]
    have HT := Lib.hid hT
    clear hT
    have HSIX := Lib.hid (bear_six V (by have := H8.out; omega))
    by_cases hb : T.toList = [98, 101, 97, 114, 101, 114]
    case' neg =>
      have db : (T.toList == [98, 101, 97, 114, 101, 114]) = false := beq_eq_false_iff_ne.2 hb
      have db' : (T.toList != [98, 101, 97, 114, 101, 114]) = true := bne_iff_ne.2 hb
      have HE := Lib.hid (show R = (ByteArray.empty, false) from HNO.out (fun h => hb (by rw [HT.out, ← bear6_list]; exact (HSIX.out.1 h.2.2.1).1)))
      clear hb
      go_wp2
      go_ret2
      exact ⟨by rw [HE.out]; rfl, HB2.out⟩
    have db : (T.toList == [98, 101, 97, 114, 101, 114]) = true := beq_iff_eq.2 hb
    have db' : (T.toList != [98, 101, 97, 114, 101, 114]) = false := bne_eq_false_iff_eq.2 hb
    have HTB := Lib.hid (show (smallB (V.extract 0 6)).toList = bear6.toList by rw [← HT.out, bear6_list]; exact hb)
    clear hb
    obtain ⟨x, hx⟩ : ∃ x, x = rd (bytesOf V) ((6 : Nat) : Int) := ⟨_, rfl⟩
    have hbt : ∀ h : 6 < V.size, ((V[6]'h).toNat : Int) = x := fun h => by rw [hx, rd_bytesOf]; exact bt_at V ((6 : Nat) : Int) h
    have HX := Lib.hid hx
    clear hx
    by_cases h32 : x = 32
    case' neg =>
      have d32 : (x == 32) = false := beq_eq_false_iff_ne.2 h32
      have d32' : (x != 32) = true := bne_iff_ne.2 h32
      have HE := Lib.hid (show R = (ByteArray.empty, false) from HNO.out (fun h => h32 (by rw [HX.out]; exact (HSIX.out.1 h.2.2.1).2)))
      clear h32
      go_wp2
      go_ret2
      exact ⟨by rw [HE.out]; rfl, HB2.out⟩
    subst h32
    have HSE := Lib.hid (show (smallB (V.extract 0 7)).toList = bearS.toList from HSIX.out.2 ⟨HTB.out, HX.out.symm⟩)
    go_wp2
    clear hbt db db' d1 d1' d8 d8'
    go_loop [8] (fun i => ∃ k : Nat, i = .int .i64 k ∧ 7 ≤ k ∧ k ≤ V.size ∧ Hid (∀ j, 7 ≤ j → j < k → rd (bytesOf V) (j : Nat) ≠ 32 ∧ rd (bytesOf V) (j : Nat) ≠ 9)) (fun i => V.size - (intOf i).toNat)
    case atStart => exact ⟨7, rfl, by omega, by have := H8.out; omega, Lib.hid (fun j a b => by omega)⟩
    case round =>
      obtain ⟨k, rfl, hk7, hk, HA⟩ := hrel
      by_cases hkn : k < V.size
      · have dkn : decide ((k : Int) < V.size) = true := decide_eq_true (by omega)
        have hvs := HVS.out
        have wk : IntKind.i64.wrap ((k : Int) + 1) = k + 1 := wrap_id (by omega) (by omega)
        clear hvs
        obtain ⟨x, hx⟩ : ∃ x, x = rd (bytesOf V) k := ⟨_, rfl⟩
        have hbt : ∀ h : (k : Int).toNat < V.size, ((V[(k : Int).toNat]'h).toNat : Int) = x := fun h => by rw [hx, rd_bytesOf]; exact bt_at V k h
        simp only [Int.toNat_natCast] at hbt
        have HX2 := Lib.hid hx
        clear hx
        by_cases h32 : x = 32
        · have HE := Lib.hid (show R = (ByteArray.empty, false) from HNO.out (fun h => (h.2.2.2 k hk7 hkn).1 (by rw [← HX2.out]; exact h32)))
          subst h32
          go_wp2
          go_ret2
          exact ⟨by rw [HE.out]; rfl, HB2.out⟩
        · have d32 : (x == 32) = false := beq_eq_false_iff_ne.2 h32
          by_cases h9 : x = 9
          · have HE := Lib.hid (show R = (ByteArray.empty, false) from HNO.out (fun h => (h.2.2.2 k hk7 hkn).2 (by rw [← HX2.out]; exact h9)))
            subst h9
            clear h32
            go_wp2
            go_ret2
            exact ⟨by rw [HE.out]; rfl, HB2.out⟩
          · have d9 : (x == 9) = false := beq_eq_false_iff_ne.2 h9
            have HA2 := Lib.hid (show ∀ j, 7 ≤ j → j < k + 1 → rd (bytesOf V) (j : Nat) ≠ 32 ∧ rd (bytesOf V) (j : Nat) ≠ 9 from fun j a b => by
              rcases Nat.lt_or_ge j k with h | h
              · exact HA.out j a h
              · obtain rfl : j = k := by omega
                rw [← HX2.out]; exact ⟨h32, h9⟩)
            clear h32 h9
            go_wp2
            go_round
            case rel => exact ⟨k + 1, by go_num, by omega, by omega, HA2⟩
            case measure => simp [intOf]; omega
      · obtain rfl : k = V.size := by omega
        have dkn : decide ((V.size : Int) < V.size) = false := decide_eq_false (by omega)
        have HE := Lib.hid (show R = (V.extract 7 V.size, true) from HYES.out ⟨H1.out, H8.out, HSE.out, HA.out⟩)
        go_wp2
        go_ret2
        exact ⟨by rw [HE.out]; rfl, HB2.out⟩
end Go.Proofs.YtcgenmogedndjaaDoor
namespace Go.Proofs.YtcgenmogedndjaaDoor
open Go.RowKit Go.Proofs.YtcgenmogedndjaaDoorW.PrintWords
theorem RdS.mk1 {w : World} {g t n c : Nat} {fr : Nat × Nat} {A : Option Addr} {id : Int} {key : List Int} (h : w.heap[g]? = some (.cells #[.int .i64 id, .slice A n c] t fr)) (hr : Rd w A n key) (hc : n ≤ c) : RdS w (some ⟨g, 0, none⟩) 1 [⟨id, key⟩] := by
  have hl := Kd.C_len hr
  subst hl
  refine ⟨rfl, by decide, fun _ => ⟨_, rfl, fun j p hj => ?_⟩⟩
  have hj0 : j = 0 := by
    have := (List.getElem?_eq_some_iff.1 hj).1
    simp at this
    exact this
  subst hj0
  have hp : p = ⟨id, key⟩ := by simpa using hj.symm
  subst hp
  refine ⟨[.int .i64 id, .slice A key.length c], rfl, ⟨[.int .i64 id], [.slice A key.length c], rfl, rfl, ⟨A, c, rfl, hc, hr⟩⟩, fun i u hu => ?_⟩
  rw [add_plain]
  unfold World.cell?
  rw [h]
  rcases i with _ | _ | i
  · simpa using hu
  · simpa using hu
  · simp at hu
def kk : List Int := List.replicate 16 107
set_option maxHeartbeats 800000 in
set_option maxRecDepth 20000 in
theorem one_calls (id : Int) (w : World) :
    Calls Tryd.prog 27 #[.int .i64 id] w fun e w' => ∃ (A : Option Addr) (c : Nat), e = .returned (.agg #[.int .i64 id, .slice A 16 c]) ∧ Rd w' A 16 kk ∧ 16 ≤ c ∧ Below w.heap.size w w' := by
  have kc := fun (w : World) (C : Array Value) (n c g : Nat) (hg : g = w.heap.size) => Joins.run_convert_bytes_const_at (P := Tryd.prog) w 34 5 C n c g hg Tryd.underlying34 Tryd.underlying5
  obtain ⟨g, hg⟩ : ∃ g, g = w.heap.size := ⟨_, rfl⟩
  obtain ⟨g2, hg2⟩ : ∃ g2, g2 = g + 1 := ⟨_, rfl⟩
  obtain ⟨W0, hW0⟩ : ∃ W, W = w.alloc (.cells #[.int .i64 0, .slice none 0 0] 42) := ⟨_, rfl⟩
  have hz0 : W0.heap.size = g2 := by rw [hW0, size_alloc, hg2, hg]
  have hb0 : Below w.heap.size w W0 := by rw [hW0]; exact below_alloc (Below.refl _ _) _
  have hw0 : Whole W0 g 42 #[.int .i64 0, .slice none 0 0] := by rw [hW0, hg]; exact Whole.new w _ _
  obtain ⟨W1, hW1⟩ : ∃ W, W = W0.alloc (.cells #[.int .u8 107, .int .u8 107, .int .u8 107, .int .u8 107, .int .u8 107, .int .u8 107, .int .u8 107, .int .u8 107, .int .u8 107, .int .u8 107, .int .u8 107, .int .u8 107, .int .u8 107, .int .u8 107, .int .u8 107, .int .u8 107] 5 (16, 17)) := ⟨_, rfl⟩
  have hb1 : Below W0.heap.size W0 W1 := by rw [hW1]; exact below_alloc (Below.refl _ _) _
  have hr1 : Rd W1 (some ⟨g2, 0, none⟩) 16 kk := by rw [hW1, ← hz0]; exact C_const W0 5 kk (16, 17) (by decide)
  have HS := Lib.hid (show g = w.heap.size ∧ g2 = g + 1 ∧ W0 = w.alloc _ ∧ W1 = W0.alloc _ from ⟨hg, hg2, hW0, hW1⟩)
  have HW := Lib.hid (show Whole W1 g 42 #[.int .i64 0, .slice none 0 0] ∧ Below w.heap.size w W1 ∧ Rd W1 (some ⟨g2, 0, none⟩) 16 kk ∧ w.heap.size ≤ g ∧ g2 ≠ g from ⟨hw0.below hb1 hw0.lt, below_step hb0 hb1, hr1, by rw [hg]; exact Nat.le_refl _, by omega⟩)
  clear hg hg2 hz0 hb0 hw0 hb1 hr1 hW0 hW1
  go_enter Tryd.func27, Tryd.ntmps27
  go_wp2_with (refine gate_ (.store 42 (.tmp 2) (.tmp 6)) rfl ?_; rw [← HS.out.1, ← HS.out.2.2.1, ← HS.out.2.1, ← HS.out.2.2.2]; refine store_whole rfl rfl rfl rfl rfl HW.out.1 rfl (by simp [Value.oneCell']) rfl (by kernel_rfl) ?_; intro w9 hk9 hb9 hf9 hg9)
  refine bodyPost_ret (results_whole rfl _ _ g _ _ _ _ rfl hk9 Tryd.underlying42 rfl (by kernel_rfl)) rfl ?_
  exact ⟨some ⟨g2, 0, none⟩, 16, rfl, HW.out.2.2.1.grown hg9 (fun ad he e => by cases he; injection e with e; exact HW.out.2.2.2.2 e), Nat.le_refl _, hb9 _ _ HW.out.2.1 HW.out.2.2.2.1⟩
end Go.Proofs.YtcgenmogedndjaaDoor
namespace Go.Proofs.YtcgenmogedndjaaDoor
open Go.RowKit Go.Proofs.YtcgenmogedndjaaDoorW.PrintWords
def awS : Sec := ⟨1, kk⟩
def awC : Clm := ⟨⟨#[99, 49]⟩, ⟨#[103]⟩, 1000⟩
def awT : ByteArray := tokS awS awC
theorem aw_check : checkB [awS] = true := by decide
theorem aw_ok : ClmOk awC := by unfold ClmOk; decide
theorem aw_sec : SecOk [awS] := by
  intro s hs
  rw [List.mem_singleton] at hs
  subst hs
  exact ⟨by unfold Bytes awS kk; decide, by decide, by decide⟩
theorem aw_make : makeR [awS] awC = (awT, 0) := makeR_ok aw_check ((clmE_iff _).2 aw_ok)
theorem aw_pay : payL awS.id awC = [1, 2, 99, 49, 1, 103, 249, 3, 232] := by decide
theorem aw_front : sp3 (payL awS.id awC) = [65, 81, 74, 106, 77, 81, 70, 110, 45, 81, 80, 111] := by rw [aw_pay]; decide
theorem aw_size : awT.size = 56 := by
  have h := tok_bytes awS awC
  have h2 := congrArg List.length h
  rw [bytesOf_length, List.length_append, List.length_cons, aw_front, sp3_length, mac_length] at h2
  exact h2
theorem aw_head : awT.extract 0 13 = ⟨#[65, 81, 74, 106, 77, 81, 70, 110, 45, 81, 80, 111, 46]⟩ := by
  apply bytesOf_inj
  rw [bytesOf_extract, List.drop_zero, Nat.sub_zero]
  unfold awT
  rw [tok_bytes, aw_front]
  rfl
theorem aw_read (now : Int) (x : Clm) (f : Int) (h : RdSpec [awS] now awT x f) : (now < 1000 → x = awC ∧ f = 0) ∧ (1000 ≤ now → x = Clm.none ∧ f = 101) :=
  ⟨fun hn => h.unique (RdSpec.yes aw_check (List.mem_singleton.2 rfl) aw_ok rfl hn), fun hn => h.unique (RdSpec.over aw_check (List.mem_singleton.2 rfl) aw_ok rfl hn)⟩
set_option maxRecDepth 20000 in
set_option maxHeartbeats 3200000 in
theorem aw_calls (w : World) (hG : Laid w) :
    Calls Tryd.prog 11 #[] w fun e w' => e = .returned (.bool true) ∧ Below w.heap.size w w' := by
  obtain ⟨g, hg⟩ : ∃ g, g = w.heap.size := ⟨_, rfl⟩
  obtain ⟨W0, hW0⟩ : ∃ W0, W0 = w.alloc (.cells #[.string ⟨#[99, 49]⟩, .string ⟨#[103]⟩, .int .i64 1000] 24) := ⟨_, rfl⟩
  have hbw : Below w.heap.size w W0 := by rw [hW0]; exact below_alloc (Below.refl _ _) _
  have hwh : Whole W0 g 24 #[.string ⟨#[99, 49]⟩, .string ⟨#[103]⟩, .int .i64 1000] := by rw [hW0, hg]; exact Whole.new w _ _
  have x0 := hwh.cell 0 _ rfl
  have x1 := hwh.cell 1 _ rfl
  have x2 := hwh.cell 2 _ rfl
  have HS := Lib.hid (show g = w.heap.size ∧ W0 = w.alloc _ from ⟨hg, hW0⟩)
  have HI := Lib.hid (show Below w.heap.size w W0 ∧ Whole W0 g 24 #[.string ⟨#[99, 49]⟩, .string ⟨#[103]⟩, .int .i64 1000] ∧ Laid W0 from ⟨hbw, hwh, hG.below hbw hG.lt⟩)
  have HMK := Lib.hid (show makeR [⟨1, kk⟩] ⟨⟨#[99, 49]⟩, ⟨#[103]⟩, 1000⟩ = (awT, 0) from aw_make)
  have HSO := Lib.hid (show SecOk [⟨1, kk⟩] from aw_sec)
  clear hg hW0 hbw hwh hG
  go_enter Tryd.func11, Tryd.ntmps11
  go_upto_region 2 with (fail)
  rw [← HS.out.1, ← HS.out.2]
  go_region_held3 (fun w' => w'.cell? ⟨g, 0, none⟩ = some (.string ⟨#[99, 49]⟩) ∧ w'.cell? ⟨g, 1, none⟩ = some (.string ⟨#[103]⟩) ∧ w'.cell? ⟨g, 2, none⟩ = some (.int .i64 1000))
    (first
      | exact ⟨x0, x1, x2⟩
      | exact ⟨pw_cell_below HB3.out x0, pw_cell_below HB3.out x1, pw_cell_below HB3.out x2⟩
      | exact ⟨pw_cell_below HB2.out.1 x0, pw_cell_below HB2.out.1 x1, pw_cell_below HB2.out.1 x2⟩
      | exact ⟨pw_cell_below (below_alloc HB2.out.1 _) x0, pw_cell_below (below_alloc HB2.out.1 _) x1, pw_cell_below (below_alloc HB2.out.1 _) x2⟩
      | go_keep)
    (first
      | (go_at_call 12; with_reducible refine (Make_calls _ _ [⟨1, kk⟩] _ _ _ _ (RdS.mk1 (heap_alloc_new _ _) (Kd.C_below HB2.out.2.1 (below_alloc (Below.refl _ _) _)) HB2.out.2.2) HSO.out (by decide) (by decide) (by decide) (HI.out.2.2.below (below_alloc HB2.out.1 _) HI.out.2.2.lt)).mono ?_; rintro e w3 ⟨rfl, hb3⟩; rw [HMK.out]; have HB3 := Lib.hid (below_step (below_alloc HB2.out.1 _) hb3); clear hb3)
      | (go_at_call 27; with_reducible refine (one_calls 1 _).mono ?_; rintro e w2 ⟨A2, c2, rfl, hr2, hc2, hb2⟩; have HB2 := Lib.hid (show Below W0.heap.size W0 w2 ∧ Rd w2 A2 16 kk ∧ 16 ≤ c2 from ⟨below_step (below_drew (Below.refl _ _)) hb2, hr2, hc2⟩); clear hr2 hc2 hb2))
  clear x0 x1 x2
  go_wp2_with fail
  refine (one_calls 1 _).mono ?_
  rintro e w4 ⟨A4, c4, rfl, hr4, hc4, hb4⟩
  have H4 := Lib.hid (show Below W0.heap.size W0 w4 ∧ Rd w4 A4 16 kk ∧ 16 ≤ c4 from ⟨below_step HB3.out hb4, hr4, hc4⟩)
  clear hr4 hc4 hb4
  go_wp2_with fail
  refine (AuthRead_calls _ _ [⟨1, kk⟩] _ _ _ (RdS.mk1 (heap_alloc_new _ _) (Kd.C_below H4.out.2.1 (below_alloc (Below.refl _ _) _)) H4.out.2.2) HSO.out (by rw [aw_size]; decide) (HI.out.2.2.below (below_alloc H4.out.1 _) HI.out.2.2.lt)).mono ?_
  rintro e w5 ⟨x, f, rfl, hsp, hb5⟩
  obtain ⟨rfl, rfl⟩ := (aw_read _ _ _ hsp).1 (by decide)
  rw [show awC.client = ⟨#[99, 49]⟩ from rfl, show awC.group = ⟨#[103]⟩ from rfl, show awC.upto = 1000 from rfl]
  have H5 := Lib.hid (below_step (below_alloc H4.out.1 _) hb5)
  clear hsp hb5
  obtain ⟨g5, hg5⟩ : ∃ g, g = w5.heap.size := ⟨_, rfl⟩
  obtain ⟨W5, hW5⟩ : ∃ W, W = w5.alloc (.cells #[.string ⟨#[99, 49]⟩, .string ⟨#[103]⟩, .int .i64 1000] 24) := ⟨_, rfl⟩
  have H6 := Lib.hid (show Below W0.heap.size W0 W5 ∧ Whole W5 g5 24 #[.string ⟨#[99, 49]⟩, .string ⟨#[103]⟩, .int .i64 1000] from ⟨by rw [hW5]; exact below_alloc H5.out _, by rw [hW5, hg5]; exact Whole.new w5 _ _⟩)
  have HS5 := Lib.hid (show g5 = w5.heap.size ∧ W5 = w5.alloc _ from ⟨hg5, hW5⟩)
  clear hg5 hW5
  go_upto_region 4 with (fail)
  rw [← HS5.out.1, ← HS5.out.2]
  go_wp2_with fail
  refine (one_calls 1 _).mono ?_
  rintro e w6 ⟨A6, c6, rfl, hr6, hc6, hb6⟩
  have H7 := Lib.hid (show Below W0.heap.size W0 w6 ∧ Rd w6 A6 16 kk ∧ 16 ≤ c6 ∧ Below W5.heap.size W5 w6 from ⟨below_step H6.out.1 hb6, hr6, hc6, hb6⟩)
  clear hr6 hc6 hb6
  go_wp2_with fail
  refine (AuthRead_calls _ _ [⟨1, kk⟩] _ _ _ (RdS.mk1 (heap_alloc_new _ _) (Kd.C_below H7.out.2.1 (below_alloc (Below.refl _ _) _)) H7.out.2.2.1) HSO.out (by rw [aw_size]; decide) (HI.out.2.2.below (below_alloc H7.out.1 _) HI.out.2.2.lt)).mono ?_
  rintro e w7 ⟨x, f, rfl, hsp, hb7⟩
  obtain ⟨rfl, rfl⟩ := (aw_read _ _ _ hsp).2 (by decide)
  rw [show Clm.none.client = ⟨#[]⟩ from rfl, show Clm.none.group = ⟨#[]⟩ from rfl, show Clm.none.upto = 0 from rfl]
  have H8 := Lib.hid (show Below W0.heap.size W0 w7 ∧ Below W5.heap.size W5 w7 from ⟨below_step (below_alloc H7.out.1 _) hb7, below_step (below_alloc H7.out.2.2.2 _) hb7⟩)
  clear hsp hb7
  go_upto_region 5 with (fail)
  obtain ⟨W8, hW8⟩ : ∃ W, W = w7.alloc (.cells #[.string ⟨#[]⟩, .string ⟨#[]⟩, .int .i64 0] 24) := ⟨_, rfl⟩
  have h85 : Below W5.heap.size W5 W8 := by rw [hW8]; exact below_alloc H8.out.2 _
  have h80 : Below W0.heap.size W0 W8 := by rw [hW8]; exact below_alloc H8.out.1 _
  have hc := H6.out.2.below h85 H6.out.2.lt
  have hd := HI.out.2.1.below h80 HI.out.2.1.lt
  have HB8 := Lib.hid (below_step HI.out.1 h80)
  have HW8 := Lib.hid hW8
  have x0 := hc.cell 0 _ rfl
  have x1 := hc.cell 1 _ rfl
  have x2 := hc.cell 2 _ rfl
  have y0 := hd.cell 0 _ rfl
  have y1 := hd.cell 1 _ rfl
  have y2 := hd.cell 2 _ rfl
  have hsz := aw_size
  have hhd := aw_head
  have i13 : (13 : Int) ≤ awT.size := by rw [hsz]; decide
  have j13 : 13 ≤ awT.size := by rw [hsz]; decide
  clear hW8 h85 h80 hc hd
  rw [← HW8.out]
  go_wp2
  go_ret
  exact ⟨rfl, HB8.out⟩
end Go.Proofs.YtcgenmogedndjaaDoor
