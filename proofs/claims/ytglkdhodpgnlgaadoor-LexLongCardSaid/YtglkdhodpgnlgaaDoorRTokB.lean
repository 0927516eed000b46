/-
  The reference's Tokens: its loop over a run. Condition: the text is not longer than 100000 bytes.
-/
import Derived.Test.YtglkdhodpgnlgaaDoorRTokP
namespace Go.Proofs.YtglkdhodpgnlgaaDoor
open Go.RowKit Go.Tel

set_option maxRecDepth 1000000 in
set_option maxHeartbeats 8000000 in
theorem run_loop (s : ByteArray) (W wr : World) (hs' : (s.size : Int) ≤ 100000) (X Y : Lx) (v6 : Value) (out : List Tok) (bt : Nat) (T : Obj) (hbxt : Hid (W.heap.size < bt)) (HT : TS s W.heap.size W v6 out X wr) (HB : wr.heap[bt]? = some T) (hYr : Hid (Lx.run (X.rest.length + 1) X = Y))
    (c1 c2 c3 c4 c6 c7 c8 c9 c10 c11 c12 c13 c14 c15 c16 c17 c18 c19 c20 c21 c22 c23 c24 c25 c26 c27 c28 c29 c30 c31 c32 c33 c34 c35 c36 c37 c38 c39 c40 c41 c42 c43 c44 c45 c46 c47 c48 c49 c50 c51 c52 c53 c54 c55 c56 c57 c58 c59 c60 c61 c62 c63 c64 c65 c66 c67 c68 c69 c70 c71 c72 c73 c74 c75 c76 c77 c78 c79 c80 c81 c82 c83 c84 c85 c86 c87 c88 c89 c90 c91 c92 c93 c94 c95 c96 c97 c98 c99 c100 c101 c102 c103 c104 c105 c106 c107 c108 c109 c110 c111 c112 c113 c114 c115 c116 c117 c118 c119 c120 c121 c122 c123 c124 c125 c126 c127 c128 c129 c130 c131 c132 c133 c134 c135 c136 c137 c138 c139 c140 c141 c142 c143 c144 c145 c146 c147 c148 c149 c150 c151 c152 c153 c154 c155 c156 c157 c158 c159 c160 c161 c162 c163 c164 c165 c166 c167 c168 c169 c170 c171 c172 c173 c174 c175 c176 c177 c178 c179 c180 c181 c182 c183 c184 c185 c186 c187 c188 c189 c190 c191 c192 c193 c194 c195 c196 c197 c198 c199 c200 c201 c202 c203 c204 c205 c206 c207 c208 c209 c210 c211 c212 c213 c214 c215 c216 c217 c218 c219 c220 c221 c222 c223 c224 c225 c226 c227 c228 c229 c230 c231 c232 : Value) (Q0 : Exit → Act → World → Prop)
    (hexit : ∀ (u148 u149 u150 u151 u152 u153 u154 u155 u156 u157 u158 u159 u160 u161 u162 u163 u164 u165 u166 u167 u168 u169 u170 u171 u172 u173 u174 u175 u176 u177 u178 u179 u180 u181 u182 u183 u184 u185 u186 u187 u188 u189 u190 u191 : Value) (w' : World), TS s W.heap.size W v6 out Y w' ∧ w'.heap[bt]? = some T → Q0 (.exit 6) ⟨(Value.string s :: c1 :: c2 :: c3 :: c4 :: Value.pointer (some ⟨W.heap.size, 0, none⟩) :: c6 :: c7 :: c8 :: c9 :: c10 :: c11 :: c12 :: c13 :: c14 :: c15 :: c16 :: c17 :: c18 :: c19 :: c20 :: c21 :: c22 :: c23 :: c24 :: c25 :: c26 :: c27 :: c28 :: c29 :: c30 :: c31 :: c32 :: c33 :: c34 :: c35 :: c36 :: c37 :: c38 :: c39 :: c40 :: c41 :: c42 :: c43 :: c44 :: c45 :: c46 :: c47 :: c48 :: c49 :: c50 :: c51 :: c52 :: c53 :: c54 :: c55 :: c56 :: c57 :: c58 :: c59 :: c60 :: c61 :: c62 :: c63 :: c64 :: c65 :: c66 :: c67 :: c68 :: c69 :: c70 :: c71 :: c72 :: c73 :: c74 :: c75 :: c76 :: c77 :: c78 :: c79 :: c80 :: c81 :: c82 :: c83 :: c84 :: c85 :: c86 :: c87 :: c88 :: c89 :: c90 :: c91 :: c92 :: c93 :: c94 :: c95 :: c96 :: c97 :: c98 :: c99 :: c100 :: c101 :: c102 :: c103 :: c104 :: c105 :: c106 :: c107 :: c108 :: c109 :: c110 :: c111 :: c112 :: c113 :: c114 :: c115 :: c116 :: c117 :: c118 :: c119 :: c120 :: c121 :: c122 :: c123 :: c124 :: c125 :: c126 :: c127 :: c128 :: c129 :: c130 :: c131 :: c132 :: c133 :: c134 :: c135 :: c136 :: c137 :: c138 :: c139 :: c140 :: c141 :: c142 :: c143 :: c144 :: c145 :: c146 :: c147 :: u148 :: u149 :: u150 :: u151 :: u152 :: u153 :: u154 :: u155 :: u156 :: u157 :: u158 :: u159 :: u160 :: u161 :: u162 :: u163 :: u164 :: u165 :: u166 :: u167 :: u168 :: u169 :: u170 :: u171 :: u172 :: u173 :: u174 :: u175 :: u176 :: u177 :: u178 :: u179 :: u180 :: u181 :: u182 :: u183 :: u184 :: u185 :: u186 :: u187 :: u188 :: u189 :: u190 :: u191 :: c192 :: c193 :: c194 :: c195 :: c196 :: c197 :: c198 :: c199 :: c200 :: c201 :: c202 :: c203 :: c204 :: c205 :: c206 :: c207 :: c208 :: c209 :: c210 :: c211 :: c212 :: c213 :: c214 :: c215 :: c216 :: c217 :: c218 :: c219 :: c220 :: c221 :: c222 :: c223 :: c224 :: c225 :: c226 :: c227 :: c228 :: c229 :: c230 :: c231 :: c232 :: []).toArray, []⟩ w') :
    Code.wp Tryd.prog (Code.loop (loop7 19)) Q0 ⟨(Value.string s :: c1 :: c2 :: c3 :: c4 :: Value.pointer (some ⟨W.heap.size, 0, none⟩) :: c6 :: c7 :: c8 :: c9 :: c10 :: c11 :: c12 :: c13 :: c14 :: c15 :: c16 :: c17 :: c18 :: c19 :: c20 :: c21 :: c22 :: c23 :: c24 :: c25 :: c26 :: c27 :: c28 :: c29 :: c30 :: c31 :: c32 :: c33 :: c34 :: c35 :: c36 :: c37 :: c38 :: c39 :: c40 :: c41 :: c42 :: c43 :: c44 :: c45 :: c46 :: c47 :: c48 :: c49 :: c50 :: c51 :: c52 :: c53 :: c54 :: c55 :: c56 :: c57 :: c58 :: c59 :: c60 :: c61 :: c62 :: c63 :: c64 :: c65 :: c66 :: c67 :: c68 :: c69 :: c70 :: c71 :: c72 :: c73 :: c74 :: c75 :: c76 :: c77 :: c78 :: c79 :: c80 :: c81 :: c82 :: c83 :: c84 :: c85 :: c86 :: c87 :: c88 :: c89 :: c90 :: c91 :: c92 :: c93 :: c94 :: c95 :: c96 :: c97 :: c98 :: c99 :: c100 :: c101 :: c102 :: c103 :: c104 :: c105 :: c106 :: c107 :: c108 :: c109 :: c110 :: c111 :: c112 :: c113 :: c114 :: c115 :: c116 :: c117 :: c118 :: c119 :: c120 :: c121 :: c122 :: c123 :: c124 :: c125 :: c126 :: c127 :: c128 :: c129 :: c130 :: c131 :: c132 :: c133 :: c134 :: c135 :: c136 :: c137 :: c138 :: c139 :: c140 :: c141 :: c142 :: c143 :: c144 :: c145 :: c146 :: c147 :: c148 :: c149 :: c150 :: c151 :: c152 :: c153 :: c154 :: c155 :: c156 :: c157 :: c158 :: c159 :: c160 :: c161 :: c162 :: c163 :: c164 :: c165 :: c166 :: c167 :: c168 :: c169 :: c170 :: c171 :: c172 :: c173 :: c174 :: c175 :: c176 :: c177 :: c178 :: c179 :: c180 :: c181 :: c182 :: c183 :: c184 :: c185 :: c186 :: c187 :: c188 :: c189 :: c190 :: c191 :: c192 :: c193 :: c194 :: c195 :: c196 :: c197 :: c198 :: c199 :: c200 :: c201 :: c202 :: c203 :: c204 :: c205 :: c206 :: c207 :: c208 :: c209 :: c210 :: c211 :: c212 :: c213 :: c214 :: c215 :: c216 :: c217 :: c218 :: c219 :: c220 :: c221 :: c222 :: c223 :: c224 :: c225 :: c226 :: c227 :: c228 :: c229 :: c230 :: c231 :: c232 :: []).toArray, []⟩ wr := by
  conv => arg 2; arg 1; whnf
  go_loopg [] (X.rest.length + 1) (fun k wx => ∃ y : Lx, TS s W.heap.size W v6 out y wx ∧ wx.heap[bt]? = some T ∧ Lx.run k y = Y ∧ Lx.enough k y)
  case atStart => exact ⟨X, HT, HB, hYr.out, Or.inr (Nat.lt_succ_self _)⟩
  case round =>
    clear HT HB hYr
    obtain ⟨y, HTy, HBy, hY, henY⟩ := hrel
    have hoky := HTy.1
    have hcy := blk_cell HTy.2.1
    have hlty := blk_lt HTy.2.1
    have HY := Lib.hid hY; have HEY := Lib.hid henY; clear hY henY
    have HTy' := Lib.hid HTy; clear HTy
    have HBy' := Lib.hid HBy; clear HBy
    have haty : (y.at_ : Int) ≤ (s.size : Int) := by have := hoky.at_; omega
    by_cases h1y : y.at_ < s.size
    · have h1y' : (y.at_ : Int) < (s.size : Int) := by omega
      have hby : (s[y.at_].toNat : Int) < 256 := by have := s[y.at_].toNat_lt; omega
      have HRy := Lib.hid (rest_cons hoky h1y)
      by_cases h32y : s[y.at_].toNat = 32
      · have h32y' : ((s[y.at_].toNat : Int) != 32) = false := by rw [h32y]; rfl
        have HB := Lib.hid (run_stop gk HRy.out (Or.inl h32y))
        clear h32y HEY
        go_wp2_with (fail)
        rw [HB.out] at HY; have := HY.out; subst this; exact ⟨HTy'.out, HBy'.out⟩
      · have h32y' : ((s[y.at_].toNat : Int) != 32) = true := by rw [bne_iff_ne]; omega
        by_cases h10y : s[y.at_].toNat = 10
        · have h10y' : ((s[y.at_].toNat : Int) != 10) = false := by rw [h10y]; rfl
          have HB := Lib.hid (run_stop gk HRy.out (Or.inr (Or.inl h10y)))
          clear h10y h32y HEY
          go_wp2_with (fail)
          rw [HB.out] at HY; have := HY.out; subst this; exact ⟨HTy'.out, HBy'.out⟩
        · have h10y' : ((s[y.at_].toNat : Int) != 10) = true := by rw [bne_iff_ne]; omega
          cases hdy : isDelim s[y.at_] with
          | true =>
            have HB := Lib.hid (run_stop gk HRy.out (Or.inr (Or.inr hdy)))
            clear h10y h32y HEY
            go_wp2_with (go_at_call 20; go_must (refine (delim_any _ _).mono ?_; rw [hdy]; rintro e w1 ⟨rfl, rfl⟩))
            rw [HB.out] at HY; have := HY.out; subst this; exact ⟨HTy'.out, HBy'.out⟩
          | false =>
            by_cases h2y : y.e = 0
            · have h2y' : ((y.e : Int) == 0) = true := by rw [h2y]; rfl
              obtain ⟨j, hgj, hj⟩ := enough_pos HEY.out h2y
              have H5 : Hid (Lx.run j y.pass = Y) := by show _ = _; rw [← run_go HRy.out h2y h32y h10y hdy, ← hgj]; exact HY.out
              have H6 : Hid (Lx.enough j y.pass) := Lx.pass_enough (by rw [HRy.out]; simp) hj
              have HGj := Lib.hid hgj
              clear h10y h32y h2y hgj HY HEY
              go_wp2_with (first | (go_at_call 20; go_must (refine (delim_any _ _).mono ?_; rw [hdy]; rintro e w1 ⟨rfl, rfl⟩)) | (go_at_call 19; go_must (refine (pass_any s _ y _ hs' hoky h1y HTy'.out.2.1).mono ?_; rintro e w1 ⟨rfl, hb1, hk1⟩; have HT1 := Lib.hid (HTy'.out.pass hb1 hk1); have HB1 := Lib.hid (hk1.blk HBy'.out (Nat.ne_of_gt hbxt.out)); clear hb1 hk1)))
              go_roundg j
              case measure => have := HGj.out; omega
              case rel => exact ⟨y.pass, HT1.out, HB1.out, H5.out, H6.out⟩
            · have h2y' : ((y.e : Int) == 0) = false := beq_eq_false_iff_ne.2 (by omega)
              have HB := Lib.hid (Lx.run_keep gk y h2y)
              clear h10y h32y HEY
              go_wp2_with (go_at_call 20; go_must (refine (delim_any _ _).mono ?_; rw [hdy]; rintro e w1 ⟨rfl, rfl⟩))
              rw [HB.out] at HY; have := HY.out; subst this; exact ⟨HTy'.out, HBy'.out⟩
    · have h1y' : (s.size : Int) ≤ (y.at_ : Int) := by omega
      have HB := Lib.hid (run_end gk (rest_nil hoky h1y))
      clear HEY
      go_wp2_with (fail)
      rw [HB.out] at HY; have := HY.out; subst this; exact ⟨HTy'.out, HBy'.out⟩
end Go.Proofs.YtglkdhodpgnlgaaDoor
