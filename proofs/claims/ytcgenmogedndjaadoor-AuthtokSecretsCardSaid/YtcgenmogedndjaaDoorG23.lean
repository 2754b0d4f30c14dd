/- The texts Sha256Round in one. -/
import Derived.Test.YtcgenmogedndjaaDoorG08
import Derived.Test.YtcgenmogedndjaaDoorG22
namespace Go.Proofs.YtcgenmogedndjaaDoor
open Go.RowKit Go.Proofs.YtcgenmogedndjaaDoorW.PrintWords
theorem OwnW.far {w0 w : World} {v : Value} {l : List Int} (h : OwnW w0 w v l) {g i : Nat} (hg : g < w0.heap.size) (u : Value) : OwnW w0 (w.setCell ⟨g, i, none⟩ u) v l :=
  Kd.R_mono (Kd.R_move (Kd.R_bound h) (fun k hk => Below.heap_setCell w _ u k (by have := hk.2.1; show k ≠ g; omega))) (fun _ _ => trivial)
theorem right_lit (x i : Int) (n k : Nat) (hi : i = n) (hk : 32 - n = k) (x0 : 0 ≤ x) (x1 : x < 4294967296) (hn : 1 ≤ n ∧ n ≤ 32) (w : World) :
    Calls Tryd.prog 82 #[.int .u32 x, .int .i64 i] w fun e w' => e = .returned (.int .u32 (rotl x k)) ∧ Drawn0 w w' := by
  subst hi hk
  exact right_calls x n w x0 x1 hn
theorem OwnLW.far {w0 w : World} {v : Value} {l : List (List Int)} (h : OwnLW w0 w v l) {g i : Nat} (hg : g < w0.heap.size) (u : Value) : OwnLW w0 (w.setCell ⟨g, i, none⟩ u) v l :=
  Kd.S_mono (Kd.S_move (Kd.S_bound h) (fun k hk => Below.heap_setCell w _ u k (by have := hk.2.1; show k ≠ g; omega))) (fun _ _ => trivial)
set_option maxRecDepth 20000 in
set_option maxHeartbeats 1600000 in
theorem constants_calls (w : World) :
    Calls Tryd.prog 80 #[] w fun e w' => e = .returned (.slice (some ⟨w.heap.size, 0, none⟩) 64 64) ∧ Blk w' w.heap.size 103 .u32 consts ∧ Below w.heap.size w w' := by
  have hb := Blk.new w 103 .u32 consts
  have hB := below_alloc (Below.refl w.heap.size w) (.cells (nums .u32 consts).toArray 103)
  have HB := Lib.hid (And.intro hb hB)
  clear hb hB
  go_enter Tryd.func80, Tryd.ntmps80
  go_wp2
  go_ret
  exact ⟨rfl, HB.out.1, HB.out.2⟩
/-- The bodies of all loops, the outer ones first. -/
def loopsOf : Code → List Code
  | .loop c => c :: loopsOf c
  | .seq a b => loopsOf a ++ loopsOf b
  | .block _ c => loopsOf c
  | .scope c => loopsOf c
  | .cond _ a b => loopsOf a ++ loopsOf b
  | _ => []
noncomputable def roundBody : Code := ((Tryd.f74.body.map loopsOf).getD []).getD 2 .skip
set_option maxRecDepth 100000 in
set_option maxHeartbeats 16000000 in
theorem sha_round {A As : Option Addr} {c cs gk t : Nat} {adk : Addr} {l : List Int} {q S : St8} {w3 wr : World} {s0 s1 s2 s3 s5 s6 s8 s9 s10 s12 s13 s14 s15 s16 s17 s18 s19 s20 s21 s22 s23 s24 s25 s26 s27 s28 s29 s30 s31 s32 s33 s34 s35 s36 s37 s38 s39 s40 s41 s42 s43 s44 s45 s46 s47 s48 s49 s50 s51 s52 s53 s54 s55 s56 s57 s58 s59 s60 s61 s62 s63 s64 s65 s66 s67 s68 s69 s70 s71 s72 s73 s74 s75 s76 s77 s78 s79 s80 s81 s82 s83 s84 s85 s86 s87 s88 s89 s90 s91 s92 s94 s95 s96 s97 s98 s99 s100 s101 s102 s103 s104 s105 s106 s107 s108 s109 s110 s111 s112 s113 s114 s115 s116 s117 s118 s119 s120 s121 s122 s123 s124 s125 s126 s127 s128 s129 s130 s131 s132 s133 s134 s135 s136 s137 s138 s139 s140 s141 s142 s143 s144 s145 s146 s147 s148 s149 s150 s151 s152 s153 s154 s155 s156 s157 s158 s159 s160 s161 s162 s163 s164 s165 s166 s167 s168 s169 s170 s171 s172 s173 s174 s175 s176 s177 s178 s179 s180 s181 s182 s183 s184 s185 s186 s187 s188 s189 s190 s191 s192 s193 s194 s195 s196 s197 s198 s199 s200 s201 s202 s203 s204 s205 s206 s207 s208 s209 s210 s211 s212 s213 s214 s215 s216 s217 s218 s219 s220 s221 s222 s223 : Value} (Q : Exit → Act → World → Prop) (ht64 : t < 64) (hll : l.length = 64) (hadk : adk = ⟨gk, 0, none⟩) (hbk : Blk w3 gk 103 .u32 consts)
    (HR0 : OwnW w3 wr (.slice As 8 cs) q.l ∧ Below w3.heap.size w3 wr ∧ RdW wr A 64 l ∧ rounds2 (l.drop t) t q = S ∧ q.ok)
    (hend : ∀ (e12 e13 e14 e94 e95 e96 e97 e98 e99 e100 e101 e102 e103 e104 e105 e106 e107 e108 e109 e110 e111 e112 e113 e114 e115 e116 e117 e118 e119 e120 e121 e122 e123 e124 e125 e126 e127 e128 e129 e130 e131 e132 e133 e134 e135 e136 e137 e138 e139 e140 e141 e142 e143 e144 e145 e146 e147 e148 e149 e150 e151 e152 e153 e154 e155 e156 e157 e158 e159 e160 e161 e162 e163 e164 e165 e166 e167 e168 e169 e170 e171 e172 e173 e174 e175 e176 e177 e178 e179 e180 e181 e182 e183 e184 e185 e186 e187 e188 e189 e190 e191 e192 e193 e194 e195 e196 e197 e198 e199 e200 e201 e202 e203 e204 e205 e206 : Value) (g : Nat) (q' : St8) (W' : World), OwnW w3 W' (.slice (some ⟨g, 0, none⟩) 8 8) q'.l ∧ Below w3.heap.size w3 W' ∧ RdW W' A 64 l ∧ rounds2 (l.drop (t + 1)) (t + 1) q' = S ∧ q'.ok → Q .normal ⟨(List.toArray (s0 :: s1 :: s2 :: s3 :: .slice (some adk) 64 64 :: s5 :: s6 :: .slice A 64 c :: s8 :: s9 :: s10 :: .slice (some ⟨g, 0, none⟩) 8 8 :: e12 :: e13 :: e14 :: s15 :: s16 :: s17 :: s18 :: s19 :: s20 :: s21 :: s22 :: s23 :: s24 :: s25 :: s26 :: s27 :: s28 :: s29 :: s30 :: s31 :: s32 :: s33 :: s34 :: s35 :: s36 :: s37 :: s38 :: s39 :: s40 :: s41 :: s42 :: s43 :: s44 :: s45 :: s46 :: s47 :: s48 :: s49 :: s50 :: s51 :: s52 :: s53 :: s54 :: s55 :: s56 :: s57 :: s58 :: s59 :: s60 :: s61 :: s62 :: s63 :: s64 :: s65 :: s66 :: s67 :: s68 :: s69 :: s70 :: s71 :: s72 :: s73 :: s74 :: s75 :: s76 :: s77 :: s78 :: s79 :: s80 :: s81 :: s82 :: s83 :: s84 :: s85 :: s86 :: s87 :: s88 :: s89 :: s90 :: s91 :: s92 :: .int .i64 ((t : Int) + 1) :: e94 :: e95 :: e96 :: e97 :: e98 :: e99 :: e100 :: e101 :: e102 :: e103 :: e104 :: e105 :: e106 :: e107 :: e108 :: e109 :: e110 :: e111 :: e112 :: e113 :: e114 :: e115 :: e116 :: e117 :: e118 :: e119 :: e120 :: e121 :: e122 :: e123 :: e124 :: e125 :: e126 :: e127 :: e128 :: e129 :: e130 :: e131 :: e132 :: e133 :: e134 :: e135 :: e136 :: e137 :: e138 :: e139 :: e140 :: e141 :: e142 :: e143 :: e144 :: e145 :: e146 :: e147 :: e148 :: e149 :: e150 :: e151 :: e152 :: e153 :: e154 :: e155 :: e156 :: e157 :: e158 :: e159 :: e160 :: e161 :: e162 :: e163 :: e164 :: e165 :: e166 :: e167 :: e168 :: e169 :: e170 :: e171 :: e172 :: e173 :: e174 :: e175 :: e176 :: e177 :: e178 :: e179 :: e180 :: e181 :: e182 :: e183 :: e184 :: e185 :: e186 :: e187 :: e188 :: e189 :: e190 :: e191 :: e192 :: e193 :: e194 :: e195 :: e196 :: e197 :: e198 :: e199 :: e200 :: e201 :: e202 :: e203 :: e204 :: e205 :: e206 :: s207 :: s208 :: s209 :: s210 :: s211 :: s212 :: s213 :: s214 :: s215 :: s216 :: s217 :: s218 :: s219 :: s220 :: s221 :: s222 :: s223 :: [])), []⟩ W') :
    Code.wp Tryd.prog roundBody Q ⟨(List.toArray (s0 :: s1 :: s2 :: s3 :: .slice (some adk) 64 64 :: s5 :: s6 :: .slice A 64 c :: s8 :: s9 :: s10 :: .slice As 8 cs :: s12 :: s13 :: s14 :: s15 :: s16 :: s17 :: s18 :: s19 :: s20 :: s21 :: s22 :: s23 :: s24 :: s25 :: s26 :: s27 :: s28 :: s29 :: s30 :: s31 :: s32 :: s33 :: s34 :: s35 :: s36 :: s37 :: s38 :: s39 :: s40 :: s41 :: s42 :: s43 :: s44 :: s45 :: s46 :: s47 :: s48 :: s49 :: s50 :: s51 :: s52 :: s53 :: s54 :: s55 :: s56 :: s57 :: s58 :: s59 :: s60 :: s61 :: s62 :: s63 :: s64 :: s65 :: s66 :: s67 :: s68 :: s69 :: s70 :: s71 :: s72 :: s73 :: s74 :: s75 :: s76 :: s77 :: s78 :: s79 :: s80 :: s81 :: s82 :: s83 :: s84 :: s85 :: s86 :: s87 :: s88 :: s89 :: s90 :: s91 :: s92 :: .int .i64 (t : Int) :: s94 :: s95 :: s96 :: s97 :: s98 :: s99 :: s100 :: s101 :: s102 :: s103 :: s104 :: s105 :: s106 :: s107 :: s108 :: s109 :: s110 :: s111 :: s112 :: s113 :: s114 :: s115 :: s116 :: s117 :: s118 :: s119 :: s120 :: s121 :: s122 :: s123 :: s124 :: s125 :: s126 :: s127 :: s128 :: s129 :: s130 :: s131 :: s132 :: s133 :: s134 :: s135 :: s136 :: s137 :: s138 :: s139 :: s140 :: s141 :: s142 :: s143 :: s144 :: s145 :: s146 :: s147 :: s148 :: s149 :: s150 :: s151 :: s152 :: s153 :: s154 :: s155 :: s156 :: s157 :: s158 :: s159 :: s160 :: s161 :: s162 :: s163 :: s164 :: s165 :: s166 :: s167 :: s168 :: s169 :: s170 :: s171 :: s172 :: s173 :: s174 :: s175 :: s176 :: s177 :: s178 :: s179 :: s180 :: s181 :: s182 :: s183 :: s184 :: s185 :: s186 :: s187 :: s188 :: s189 :: s190 :: s191 :: s192 :: s193 :: s194 :: s195 :: s196 :: s197 :: s198 :: s199 :: s200 :: s201 :: s202 :: s203 :: s204 :: s205 :: s206 :: s207 :: s208 :: s209 :: s210 :: s211 :: s212 :: s213 :: s214 :: s215 :: s216 :: s217 :: s218 :: s219 :: s220 :: s221 :: s222 :: s223 :: [])), []⟩ wr := by
  have HR := Lib.hid HR0
  have HEND := Lib.hid hend
  have HLL := Lib.hid hll
  have HBK := Lib.hid (And.intro hadk hbk)
  clear HR0 hend hll hadk hbk
  have ht : t ≤ 64 := by omega
  conv => arg 2; whnf
  have d1 : decide ((t : Int) < 64) = true := decide_eq_true (by omega)
  have d1' : decide (t < 64) = true := decide_eq_true ht64
  have t64 : (t : Int) < 64 := by omega
  have hwt : IntKind.i64.wrap ((t : Int) + 1) = t + 1 := by rw [IntKind.wrap_i64]; omega
  obtain ⟨qa, qb, qc, qd, qe, qf, qg, qh⟩ := q
  have hrs : RdW wr As 8 [qa, qb, qc, qd, qe, qf, qg, qh] := (Kd.R_reads' HR.out.1).2.2
  obtain ⟨ads, rfl, hsc⟩ := RdW.cells hrs (by decide)
  have x0 : wr.cell? ads = some (.int .u32 qa) := by have := hsc 0 (by decide); rwa [Addr.add_zero'] at this
  have x1 : wr.cell? ⟨ads.block, ads.off + 1, none⟩ = some (.int .u32 qb) := hsc 1 (by decide)
  have x2 : wr.cell? ⟨ads.block, ads.off + 2, none⟩ = some (.int .u32 qc) := hsc 2 (by decide)
  have x3 : wr.cell? ⟨ads.block, ads.off + 3, none⟩ = some (.int .u32 qd) := hsc 3 (by decide)
  have x4 : wr.cell? ⟨ads.block, ads.off + 4, none⟩ = some (.int .u32 qe) := hsc 4 (by decide)
  have x5 : wr.cell? ⟨ads.block, ads.off + 5, none⟩ = some (.int .u32 qf) := hsc 5 (by decide)
  have x6 : wr.cell? ⟨ads.block, ads.off + 6, none⟩ = some (.int .u32 qg) := hsc 6 (by decide)
  have x7 : wr.cell? ⟨ads.block, ads.off + 7, none⟩ = some (.int .u32 qh) := hsc 7 (by decide)
  obtain ⟨adl, rfl, hcell⟩ := RdW.cells HR.out.2.2.1 (by decide)
  have hx := hcell t ht64
  obtain ⟨x, hxe⟩ : ∃ x, x = rd l (t : Int) := ⟨_, rfl⟩
  rw [← hxe] at hx
  have hgk : Blk wr gk 103 .u32 consts := HBK.out.2.below HR.out.2.1 HBK.out.2.lt
  have hrk : RdW wr (some adk) 64 consts := by rw [HBK.out.1]; exact hgk.rowW (by decide)
  obtain ⟨adk', eadk, hck⟩ := RdW.cells hrk (by decide)
  injection eadk with eadk
  subst eadk
  have xg := hck t ht64
  obtain ⟨cg, ecg⟩ : ∃ y, rd consts (t : Int) = y := ⟨_, rfl⟩
  rw [ecg] at xg
  have hsg : IntKind.u32.signed = false := rfl
  have hrg : ∀ z, z ∈ ([qa, qb, qc, qd, qe, qf, qg, qh] : List Int) → 0 ≤ z ∧ z < 4294967296 := HR.out.2.2.2.2
  have hno : bits .xor .u32 IntKind.u32.max qe = no qe := no_eq qe (hrg qe (by simp)).1 (hrg qe (by simp)).2
  have hqa := hrg qa (by simp)
  have hqe := hrg qe (by simp)
  have RE := Lib.hid (And.intro (right_lit qe 6 6 26 rfl rfl hqe.1 hqe.2 (by decide)) (And.intro (right_lit qe 11 11 21 rfl rfl hqe.1 hqe.2 (by decide)) (right_lit qe 25 25 7 rfl rfl hqe.1 hqe.2 (by decide))))
  have RA := Lib.hid (And.intro (right_lit qa 2 2 30 rfl rfl hqa.1 hqa.2 (by decide)) (And.intro (right_lit qa 13 13 19 rfl rfl hqa.1 hqa.2 (by decide)) (right_lit qa 22 22 10 rfl rfl hqa.1 hqa.2 (by decide))))
  obtain ⟨tu, etu⟩ : ∃ y, xr (xr (rotl qe 26) (rotl qe 21)) (rotl qe 7) = y := ⟨_, rfl⟩
  obtain ⟨tv, etv⟩ : ∃ y, xr (xr (rotl qa 30) (rotl qa 19)) (rotl qa 10) = y := ⟨_, rfl⟩
  obtain ⟨y0, e0⟩ : ∃ y, xr (an qe qf) (an (no qe) qg) = y := ⟨_, rfl⟩
  obtain ⟨y1, e1⟩ : ∃ y, ad_ qh tu = y := ⟨_, rfl⟩
  obtain ⟨y2, e2⟩ : ∃ y, ad_ y1 y0 = y := ⟨_, rfl⟩
  obtain ⟨y3, e3⟩ : ∃ y, ad_ y2 cg = y := ⟨_, rfl⟩
  obtain ⟨y4, e4⟩ : ∃ y, ad_ y3 x = y := ⟨_, rfl⟩
  obtain ⟨z0, d0⟩ : ∃ y, xr (xr (an qa qb) (an qa qc)) (an qb qc) = y := ⟨_, rfl⟩
  obtain ⟨z1, d1x⟩ : ∃ y, ad_ tv z0 = y := ⟨_, rfl⟩
  obtain ⟨v0, f0⟩ : ∃ y, ad_ y4 z1 = y := ⟨_, rfl⟩
  obtain ⟨v4, f4⟩ : ∃ y, ad_ qd y4 = y := ⟨_, rfl⟩
  have hround : round2 ⟨qa, qb, qc, qd, qe, qf, qg, qh⟩ t x = ⟨v0, qa, qb, qc, v4, qe, qf, qg⟩ := by rw [← f0, ← f4, ← d1x, ← d0, ← e4, ← e3, ← e2, ← e1, ← e0, ← ecg, ← etu, ← etv]; rfl
  have HN := Lib.hid (show rounds2 (l.drop (t + 1)) (t + 1) ⟨v0, qa, qb, qc, v4, qe, qf, qg⟩ = S ∧ (St8.mk v0 qa qb qc v4 qe qf qg).ok ∧ t < 64 from ⟨by
      have h1 := rounds2_step l t (by rw [HLL.out]; exact ht64) ⟨qa, qb, qc, qd, qe, qf, qg, qh⟩
      rw [HR.out.2.2.2.1, ← hxe, hround] at h1
      exact h1.symm, by
      intro z hz
      simp only [St8.l, List.mem_cons, List.not_mem_nil, or_false] at hz
      rcases hz with rfl | rfl | rfl | rfl | rfl | rfl | rfl | rfl
      · rw [← f0]; exact ad_range _ _
      · exact hrg _ (by simp)
      · exact hrg _ (by simp)
      · exact hrg _ (by simp)
      · rw [← f4]; exact ad_range _ _
      · exact hrg _ (by simp)
      · exact hrg _ (by simp)
      · exact hrg _ (by simp), ht64⟩)
  have bt : bits .xor .u32 (bits .xor .u32 (rotl qe 26) (rotl qe 21)) (rotl qe 7) = tu := etu
  have b0 : bits .xor .u32 (bits .and .u32 qe qf) (bits .and .u32 (no qe) qg) = y0 := e0
  have wr1 : IntKind.u32.wrap (qh + tu) = y1 := by rw [IntKind.wrap_u32]; exact e1
  have wr2 : IntKind.u32.wrap (y1 + y0) = y2 := by rw [IntKind.wrap_u32]; exact e2
  have wr3 : IntKind.u32.wrap (y2 + cg) = y3 := by rw [IntKind.wrap_u32]; exact e3
  have wr4 : IntKind.u32.wrap (y3 + x) = y4 := by rw [IntKind.wrap_u32]; exact e4
  have HB2 := Lib.hid (show bits .xor .u32 (bits .xor .u32 (rotl qa 30) (rotl qa 19)) (rotl qa 10) = tv ∧ bits .xor .u32 (bits .xor .u32 (bits .and .u32 qa qb) (bits .and .u32 qa qc)) (bits .and .u32 qb qc) = z0 ∧ IntKind.u32.wrap (tv + z0) = z1 ∧ IntKind.u32.wrap (y4 + z1) = v0 ∧ IntKind.u32.wrap (qd + y4) = v4 from ⟨etv, d0, by rw [IntKind.wrap_u32]; exact d1x, by rw [IntKind.wrap_u32]; exact f0, by rw [IntKind.wrap_u32]; exact f4⟩)
  clear hxe hcell hgk hrk hck hrg e0 e1 e2 e3 e4 d0 d1x f0 f4 ecg etu etv hround hrs hsc hqa hqe ht64 ht
  go_wp2_with fail
  go_quiet (first | (go_at_call 82; (first | with_reducible refine (RE.out.1 _).mono ?_ | with_reducible refine (RE.out.2.1 _).mono ?_ | with_reducible refine (RE.out.2.2 _).mono ?_); rintro e w' ⟨rfl, ⟨nd, rfl⟩⟩; exact ⟨rfl, _, World.drewN_drewN _ _ _⟩))
  have H17 := Lib.hid (show OwnW w3 (wr.drewN nq) (.slice (some ads) 8 cs) [qa, qb, qc, qd, qe, qf, qg, qh] ∧ Below w3.heap.size w3 (wr.drewN nq) ∧ RdW (wr.drewN nq) (some adl) 64 l from ⟨HR.out.1.below (below_drewN (Below.refl wr.heap.size wr) nq), below_drewN HR.out.2.1 nq, HR.out.2.2.1⟩)
  have a0 : (wr.drewN nq).cell? ads = some (.int .u32 qa) := x0
  have a1 : (wr.drewN nq).cell? ⟨ads.block, ads.off + 1, none⟩ = some (.int .u32 qb) := x1
  have a2 : (wr.drewN nq).cell? ⟨ads.block, ads.off + 2, none⟩ = some (.int .u32 qc) := x2
  have a3 : (wr.drewN nq).cell? ⟨ads.block, ads.off + 3, none⟩ = some (.int .u32 qd) := x3
  have a4 : (wr.drewN nq).cell? ⟨ads.block, ads.off + 4, none⟩ = some (.int .u32 qe) := x4
  have a5 : (wr.drewN nq).cell? ⟨ads.block, ads.off + 5, none⟩ = some (.int .u32 qf) := x5
  have a6 : (wr.drewN nq).cell? ⟨ads.block, ads.off + 6, none⟩ = some (.int .u32 qg) := x6
  generalize wr.drewN nq = W17 at H17 a0 a1 a2 a3 a4 a5 a6 ⊢
  clear x0 x1 x2 x3 x4 x5 x6 x7 xg hx hno hsg bt b0 wr1 wr2 wr3 wr4 HR
  obtain ⟨bv, b1, wr5, wr6, wr7⟩ := HB2.out
  go_wp2_with fail
  go_quiet (first | (go_at_call 82; (first | with_reducible refine (RA.out.1 _).mono ?_ | with_reducible refine (RA.out.2.1 _).mono ?_ | with_reducible refine (RA.out.2.2 _).mono ?_); rintro e w' ⟨rfl, ⟨nd, rfl⟩⟩; exact ⟨rfl, _, World.drewN_drewN _ _ _⟩))
  have H18 := Lib.hid (show OwnW w3 (W17.drewN nq) (.slice (some ads) 8 cs) [qa, qb, qc, qd, qe, qf, qg, qh] ∧ Below w3.heap.size w3 (W17.drewN nq) ∧ RdW (W17.drewN nq) (some adl) 64 l from ⟨H17.out.1.below (below_drewN (Below.refl W17.heap.size W17) nq), below_drewN H17.out.2.1 nq, H17.out.2.2⟩)
  have c0' : (W17.drewN nq).cell? ads = some (.int .u32 qa) := a0
  have c1' : (W17.drewN nq).cell? ⟨ads.block, ads.off + 1, none⟩ = some (.int .u32 qb) := a1
  have c2' : (W17.drewN nq).cell? ⟨ads.block, ads.off + 2, none⟩ = some (.int .u32 qc) := a2
  have c3' : (W17.drewN nq).cell? ⟨ads.block, ads.off + 3, none⟩ = some (.int .u32 qd) := a3
  have c4' : (W17.drewN nq).cell? ⟨ads.block, ads.off + 4, none⟩ = some (.int .u32 qe) := a4
  have c5' : (W17.drewN nq).cell? ⟨ads.block, ads.off + 5, none⟩ = some (.int .u32 qf) := a5
  have c6' : (W17.drewN nq).cell? ⟨ads.block, ads.off + 6, none⟩ = some (.int .u32 qg) := a6
  generalize W17.drewN nq = W18 at H18 c0' c1' c2' c3' c4' c5' c6' ⊢
  clear a0 a1 a2 a3 a4 a5 a6 H17 bv b1 wr5
  go_upto_region 19 with (fail)
  refine wp_region_quiet_tailD_at 26 (by kernel_rfl) (by kernel_rfl) (by kernel_rfl) (by kernel_rfl) ?_
  simp only [List.take_succ_cons, List.take_zero, List.drop_succ_cons, List.drop_zero]
  repeat (quiet_step (fail))
  refine wpQuiet_nil ?_
  intro _ hw'
  obtain ⟨nq, hw''⟩ := hw'
  subst hw''
  have H19 := Lib.hid (show Below w3.heap.size w3 (W18.drewN nq) ∧ RdW (W18.drewN nq) (some adl) 64 l from ⟨below_drewN H18.out.2.1 nq, H18.out.2.2⟩)
  generalize W18.drewN nq = W9 at H19 ⊢
  clear c0' c1' c2' c3' c4' c5' c6' H18 wr6 wr7
  obtain ⟨g9, hg9⟩ : ∃ g9, g9 = W9.heap.size := ⟨_, rfl⟩
  obtain ⟨W10, hW10⟩ : ∃ W10, W10 = W9.alloc (.cells #[.int .u32 v0, .int .u32 qa, .int .u32 qb, .int .u32 qc, .int .u32 v4, .int .u32 qe, .int .u32 qf, .int .u32 qg] 103) := ⟨_, rfl⟩
  have HF := Lib.hid (show OwnW w3 W10 (.slice (some ⟨g9, 0, none⟩) 8 8) (St8.mk v0 qa qb qc v4 qe qf qg).l ∧ Below w3.heap.size w3 W10 ∧ RdW W10 (some adl) 64 l ∧ rounds2 (l.drop (t + 1)) (t + 1) ⟨v0, qa, qb, qc, v4, qe, qf, qg⟩ = S ∧ (St8.mk v0 qa qb qc v4 qe qf qg).ok from
    ⟨by rw [hW10, hg9]; exact R_laid W9 _ _ .u32 [v0, qa, qb, qc, v4, qe, qf, qg] H19.out.1.size (by simp), by rw [hW10]; exact below_alloc H19.out.1 _, by rw [hW10]; exact Kd.C_below H19.out.2 (below_alloc (Below.refl _ _) _), HN.out.1, HN.out.2.1⟩)
  have HSS := Lib.hid (show g9 = W9.heap.size ∧ W10 = W9.alloc _ from ⟨hg9, hW10⟩)
  clear hg9 hW10 H19
  go_wp2
  rw [← HSS.out.1, ← HSS.out.2]
  exact HEND.out _ _ _ _ _ _ _ _ _ _ _ _ _ _ _ _ _ _ _ _ _ _ _ _ _ _ _ _ _ _ _ _ _ _ _ _ _ _ _ _ _ _ _ _ _ _ _ _ _ _ _ _ _ _ _ _ _ _ _ _ _ _ _ _ _ _ _ _ _ _ _ _ _ _ _ _ _ _ _ _ _ _ _ _ _ _ _ _ _ _ _ _ _ _ _ _ _ _ _ _ _ _ _ _ _ _ _ _ _ _ _ _ _ _ _ _ g9 ⟨v0, qa, qb, qc, v4, qe, qf, qg⟩ W10 HF.out
end Go.Proofs.YtcgenmogedndjaaDoor
