/-
  The reference's Tokens: its loop over what parts tokens. Condition: the text is not longer than 100000 bytes.
-/
import Derived.Test.YtglkdhodpgnlgaaDoorRTokP
namespace Go.Proofs.YtglkdhodpgnlgaaDoor
open Go.RowKit Go.Tel

set_option maxRecDepth 1000000 in
set_option maxHeartbeats 8000000 in
theorem blank_loop (s : ByteArray) (W wr : World) (hs' : (s.size : Int) ≤ 100000) (x0 X : Lx) (v6 : Value) (out : List Tok) (HT : TS s W.heap.size W v6 out x0 wr) (HX : Hid (Lx.blank (x0.rest.length + 1) x0 = X))
    (c1 c2 c3 c4 c6 c7 c8 c9 c10 c11 c12 c13 c14 c15 c16 c17 c18 c19 c20 c21 c22 c23 c24 c25 c26 c27 c28 c29 c30 c31 c32 c33 c34 c35 c36 c37 c38 c39 c40 c41 c42 c43 c44 c45 c46 c47 c48 c49 c50 c51 c52 c53 c54 c55 c56 c57 c58 c59 c60 c61 c62 c63 c64 c65 c66 c67 c68 c69 c70 c71 c72 c73 c74 c75 c76 c77 c78 c79 c80 c81 c82 c83 c84 c85 c86 c87 c88 c89 c90 c91 c92 c93 c94 c95 c96 c97 c98 c99 c100 c101 c102 c103 c104 c105 c106 c107 c108 c109 c110 c111 c112 c113 c114 c115 c116 c117 c118 c119 c120 c121 c122 c123 c124 c125 c126 c127 c128 c129 c130 c131 c132 c133 c134 c135 c136 c137 c138 c139 c140 c141 c142 c143 c144 c145 c146 c147 c148 c149 c150 c151 c152 c153 c154 c155 c156 c157 c158 c159 c160 c161 c162 c163 c164 c165 c166 c167 c168 c169 c170 c171 c172 c173 c174 c175 c176 c177 c178 c179 c180 c181 c182 c183 c184 c185 c186 c187 c188 c189 c190 c191 c192 c193 c194 c195 c196 c197 c198 c199 c200 c201 c202 c203 c204 c205 c206 c207 c208 c209 c210 c211 c212 c213 c214 c215 c216 c217 c218 c219 c220 c221 c222 c223 c224 c225 c226 c227 c228 c229 c230 c231 c232 : Value) (Q0 : Exit → Act → World → Prop)
    (hexit : ∀ (u17 u18 u19 u20 u21 u22 u23 u24 u25 u26 u27 u28 u29 u30 u31 u32 u33 u34 u35 u36 u37 u38 u39 u40 u41 u42 u43 u44 u45 u46 u47 u48 u49 u50 u51 u52 u53 u54 u55 u56 u57 u58 u59 u60 u61 u62 u63 u64 u65 u66 u67 u68 u69 u70 u71 u72 u73 u74 u75 u76 u77 u78 u79 u80 u81 u82 u83 u84 u85 u86 u87 u88 u89 u90 u91 u92 u93 u94 u95 u96 u97 u98 u99 u100 : Value) (w' : World), TS s W.heap.size W v6 out X w' → Q0 (.exit 2) ⟨(Value.string s :: c1 :: c2 :: c3 :: c4 :: Value.pointer (some ⟨W.heap.size, 0, none⟩) :: c6 :: c7 :: c8 :: c9 :: c10 :: c11 :: c12 :: c13 :: c14 :: c15 :: c16 :: u17 :: u18 :: u19 :: u20 :: u21 :: u22 :: u23 :: u24 :: u25 :: u26 :: u27 :: u28 :: u29 :: u30 :: u31 :: u32 :: u33 :: u34 :: u35 :: u36 :: u37 :: u38 :: u39 :: u40 :: u41 :: u42 :: u43 :: u44 :: u45 :: u46 :: u47 :: u48 :: u49 :: u50 :: u51 :: u52 :: u53 :: u54 :: u55 :: u56 :: u57 :: u58 :: u59 :: u60 :: u61 :: u62 :: u63 :: u64 :: u65 :: u66 :: u67 :: u68 :: u69 :: u70 :: u71 :: u72 :: u73 :: u74 :: u75 :: u76 :: u77 :: u78 :: u79 :: u80 :: u81 :: u82 :: u83 :: u84 :: u85 :: u86 :: u87 :: u88 :: u89 :: u90 :: u91 :: u92 :: u93 :: u94 :: u95 :: u96 :: u97 :: u98 :: u99 :: u100 :: c101 :: c102 :: c103 :: c104 :: c105 :: c106 :: c107 :: c108 :: c109 :: c110 :: c111 :: c112 :: c113 :: c114 :: c115 :: c116 :: c117 :: c118 :: c119 :: c120 :: c121 :: c122 :: c123 :: c124 :: c125 :: c126 :: c127 :: c128 :: c129 :: c130 :: c131 :: c132 :: c133 :: c134 :: c135 :: c136 :: c137 :: c138 :: c139 :: c140 :: c141 :: c142 :: c143 :: c144 :: c145 :: c146 :: c147 :: c148 :: c149 :: c150 :: c151 :: c152 :: c153 :: c154 :: c155 :: c156 :: c157 :: c158 :: c159 :: c160 :: c161 :: c162 :: c163 :: c164 :: c165 :: c166 :: c167 :: c168 :: c169 :: c170 :: c171 :: c172 :: c173 :: c174 :: c175 :: c176 :: c177 :: c178 :: c179 :: c180 :: c181 :: c182 :: c183 :: c184 :: c185 :: c186 :: c187 :: c188 :: c189 :: c190 :: c191 :: c192 :: c193 :: c194 :: c195 :: c196 :: c197 :: c198 :: c199 :: c200 :: c201 :: c202 :: c203 :: c204 :: c205 :: c206 :: c207 :: c208 :: c209 :: c210 :: c211 :: c212 :: c213 :: c214 :: c215 :: c216 :: c217 :: c218 :: c219 :: c220 :: c221 :: c222 :: c223 :: c224 :: c225 :: c226 :: c227 :: c228 :: c229 :: c230 :: c231 :: c232 :: []).toArray, []⟩ w') :
    Code.wp Tryd.prog (Code.loop (loop7 5)) Q0 ⟨(Value.string s :: c1 :: c2 :: c3 :: c4 :: Value.pointer (some ⟨W.heap.size, 0, none⟩) :: c6 :: c7 :: c8 :: c9 :: c10 :: c11 :: c12 :: c13 :: c14 :: c15 :: c16 :: c17 :: c18 :: c19 :: c20 :: c21 :: c22 :: c23 :: c24 :: c25 :: c26 :: c27 :: c28 :: c29 :: c30 :: c31 :: c32 :: c33 :: c34 :: c35 :: c36 :: c37 :: c38 :: c39 :: c40 :: c41 :: c42 :: c43 :: c44 :: c45 :: c46 :: c47 :: c48 :: c49 :: c50 :: c51 :: c52 :: c53 :: c54 :: c55 :: c56 :: c57 :: c58 :: c59 :: c60 :: c61 :: c62 :: c63 :: c64 :: c65 :: c66 :: c67 :: c68 :: c69 :: c70 :: c71 :: c72 :: c73 :: c74 :: c75 :: c76 :: c77 :: c78 :: c79 :: c80 :: c81 :: c82 :: c83 :: c84 :: c85 :: c86 :: c87 :: c88 :: c89 :: c90 :: c91 :: c92 :: c93 :: c94 :: c95 :: c96 :: c97 :: c98 :: c99 :: c100 :: c101 :: c102 :: c103 :: c104 :: c105 :: c106 :: c107 :: c108 :: c109 :: c110 :: c111 :: c112 :: c113 :: c114 :: c115 :: c116 :: c117 :: c118 :: c119 :: c120 :: c121 :: c122 :: c123 :: c124 :: c125 :: c126 :: c127 :: c128 :: c129 :: c130 :: c131 :: c132 :: c133 :: c134 :: c135 :: c136 :: c137 :: c138 :: c139 :: c140 :: c141 :: c142 :: c143 :: c144 :: c145 :: c146 :: c147 :: c148 :: c149 :: c150 :: c151 :: c152 :: c153 :: c154 :: c155 :: c156 :: c157 :: c158 :: c159 :: c160 :: c161 :: c162 :: c163 :: c164 :: c165 :: c166 :: c167 :: c168 :: c169 :: c170 :: c171 :: c172 :: c173 :: c174 :: c175 :: c176 :: c177 :: c178 :: c179 :: c180 :: c181 :: c182 :: c183 :: c184 :: c185 :: c186 :: c187 :: c188 :: c189 :: c190 :: c191 :: c192 :: c193 :: c194 :: c195 :: c196 :: c197 :: c198 :: c199 :: c200 :: c201 :: c202 :: c203 :: c204 :: c205 :: c206 :: c207 :: c208 :: c209 :: c210 :: c211 :: c212 :: c213 :: c214 :: c215 :: c216 :: c217 :: c218 :: c219 :: c220 :: c221 :: c222 :: c223 :: c224 :: c225 :: c226 :: c227 :: c228 :: c229 :: c230 :: c231 :: c232 :: []).toArray, []⟩ wr := by
  conv => arg 2; arg 1; whnf
  go_loopg [] (x0.rest.length + 1) (fun k wc => ∃ x : Lx, TS s W.heap.size W v6 out x wc ∧ Lx.blank k x = X ∧ Lx.enough k x)
  case atStart => exact ⟨x0, HT, HX.out, Or.inr (Nat.lt_succ_self _)⟩
  case round =>
    clear HT HX
    obtain ⟨x, HT, hX, hen⟩ := hrel
    have hok := HT.1
    have hc := blk_cell HT.2.1
    have hlt := blk_lt HT.2.1
    have HX := Lib.hid hX; have HE := Lib.hid hen; clear hX hen
    have hat : (x.at_ : Int) ≤ (s.size : Int) := by have := hok.at_; omega
    by_cases h1 : x.at_ < s.size
    · have h1' : (x.at_ : Int) < (s.size : Int) := by omega
      by_cases h2 : x.e = 0
      · have h2' : ((x.e : Int) == 0) = true := by rw [h2]; rfl
        obtain ⟨k, hgk, hk⟩ := enough_pos HE.out h2
        have hb0 : (s[x.at_].toNat : Int) < 256 := by have := s[x.at_].toNat_lt; omega
        have HR := Lib.hid (rest_cons hok h1)
        have HH := Lib.hid h2; clear h2
        have HT' := Lib.hid HT; clear HT
        by_cases h32 : s[x.at_].toNat = 32
        · have h32' : ((s[x.at_].toNat : Int) == 32) = true := beq_iff_eq.2 (by omega)
          have H3 : Hid (Lx.blank k x.pass = X) := by show _ = _; rw [← blank_sp HR.out HH.out (Or.inl h32), ← hgk]; exact HX.out
          have H4 : Hid (Lx.enough k x.pass) := Lx.pass_enough (by rw [HR.out]; simp) hk
          have HG := Lib.hid hgk; clear h32 hgk HX HE
          go_wp2_with (go_at_call 19; refine (pass_any s _ x _ hs' hok h1 HT'.out.2.1).mono ?_; rintro e w1 ⟨rfl, hb1, hk1⟩; have HT1 := Lib.hid (HT'.out.pass hb1 hk1); clear hb1 hk1)
          go_roundg k
          case measure => have := HG.out; omega
          case rel => exact ⟨x.pass, HT1.out, H3.out, H4.out⟩
        · have h32' : ((s[x.at_].toNat : Int) == 32) = false := beq_eq_false_iff_ne.2 (by omega)
          by_cases h10 : s[x.at_].toNat = 10
          · have h10' : ((s[x.at_].toNat : Int) == 10) = true := beq_iff_eq.2 (by omega)
            have H3 : Hid (Lx.blank k x.pass = X) := by show _ = _; rw [← blank_sp HR.out HH.out (Or.inr h10), ← hgk]; exact HX.out
            have H4 : Hid (Lx.enough k x.pass) := Lx.pass_enough (by rw [HR.out]; simp) hk
            have HG := Lib.hid hgk; clear h10 hgk HX HE
            go_wp2_with (go_at_call 19; refine (pass_any s _ x _ hs' hok h1 HT'.out.2.1).mono ?_; rintro e w1 ⟨rfl, hb1, hk1⟩; have HT1 := Lib.hid (HT'.out.pass hb1 hk1); clear hb1 hk1)
            go_roundg k
            case measure => have := HG.out; omega
            case rel => exact ⟨x.pass, HT1.out, H3.out, H4.out⟩
          · have h10' : ((s[x.at_].toNat : Int) == 10) = false := beq_eq_false_iff_ne.2 (by omega)
            have HG := Lib.hid hgk
            have HN : ¬ (s[x.at_].toNat = 32 ∨ s[x.at_].toNat = 10) := by omega
            have HN := Lib.hid HN
            clear h32 h10
            by_cases hA : x.at_ + 1 < s.size
            · have hA' : (x.at_ : Int) + 1 < (s.size : Int) := by omega
              have hb1 : (s[x.at_ + 1].toNat : Int) < 256 := by have := s[x.at_ + 1].toNat_lt; omega
              by_cases h45 : s[x.at_].toNat = 45
              · have h45' : ((s[x.at_].toNat : Int) == 45) = true := beq_iff_eq.2 (by omega)
                by_cases hd45 : s[x.at_ + 1].toNat = 45
                · have hd45' : ((s[x.at_ + 1].toNat : Int) == 45) = true := beq_iff_eq.2 (by omega)
                  have HD := dash_yes hok h1 hA h45 hd45
                  have H3 : Hid (Lx.blank k (Lx.comment (x.rest.length + 1) x) = X) := by show _ = _; rw [← blank_dash HR.out HH.out h45 HD, ← hgk]; exact HX.out
                  have H4 : Hid (Lx.enough k (Lx.comment (x.rest.length + 1) x)) := Lx.comment_enough HH.out HD hk
                  obtain ⟨C, HC⟩ : ∃ C, Hid (Lx.comment (x.rest.length + 1) x = C) := ⟨_, rfl⟩
                  rw [HC.out] at H3 H4
                  clear h45 hd45 HD hgk HX HE HN
                  go_wp2_with (fail)
                  go_loopg [] (x.rest.length + 1) (fun j wc => ∃ y : Lx, TS s W.heap.size W v6 out y wc ∧ Lx.comment j y = C ∧ Lx.enough j y)
                  case atStart => exact ⟨x, HT'.out, HC.out, Or.inr (Nat.lt_succ_self _)⟩
                  case round =>
                    obtain ⟨y, HTy, hY, henY⟩ := hrel
                    have hoky := HTy.1
                    have hcy := blk_cell HTy.2.1
                    have hlty := blk_lt HTy.2.1
                    have HY := Lib.hid hY; have HEY := Lib.hid henY; clear hY henY
                    have haty : (y.at_ : Int) ≤ (s.size : Int) := by have := hoky.at_; omega
                    by_cases h1y : y.at_ < s.size
                    · have h1y' : (y.at_ : Int) < (s.size : Int) := by omega
                      have hby : (s[y.at_].toNat : Int) < 256 := by have := s[y.at_].toNat_lt; omega
                      have HRy := Lib.hid (rest_cons hoky h1y)
                      by_cases h10y : s[y.at_].toNat = 10
                      · have h10y' : ((s[y.at_].toNat : Int) != 10) = false := by rw [h10y]; rfl
                        have HB := Lib.hid (comment_stop gk HRy.out h10y)
                        clear h10y HEY
                        go_wp2_with (fail)
                        go_roundg k
                        case measure => have := HG.out; omega
                        rw [HB.out] at HY; have := HY.out; subst this; exact ⟨y, HTy, H3.out, H4.out⟩
                      · have h10y' : ((s[y.at_].toNat : Int) != 10) = true := by rw [bne_iff_ne]; omega
                        by_cases h2y : y.e = 0
                        · have h2y' : ((y.e : Int) == 0) = true := by rw [h2y]; rfl
                          obtain ⟨j, hgj, hj⟩ := enough_pos HEY.out h2y
                          have H5 : Hid (Lx.comment j y.pass = C) := by show _ = _; rw [← comment_go HRy.out h2y h10y, ← hgj]; exact HY.out
                          have H6 : Hid (Lx.enough j y.pass) := Lx.pass_enough (by rw [HRy.out]; simp) hj
                          have HGj := Lib.hid hgj
                          have HTy' := Lib.hid HTy
                          clear h10y h2y hgj HY HEY HTy
                          go_wp2_with (go_at_call 19; refine (pass_any s _ y _ hs' hoky h1y HTy'.out.2.1).mono ?_; rintro e w1 ⟨rfl, hb1, hk1⟩; have HT1 := Lib.hid (HTy'.out.pass hb1 hk1); clear hb1 hk1)
                          go_roundg j
                          case measure => have := HGj.out; omega
                          case rel => exact ⟨y.pass, HT1.out, H5.out, H6.out⟩
                        · have h2y' : ((y.e : Int) == 0) = false := beq_eq_false_iff_ne.2 (by omega)
                          have HB := Lib.hid (Lx.comment_keep gk y h2y)
                          clear h10y HEY
                          go_wp2_with (fail)
                          go_roundg k
                          case measure => have := HG.out; omega
                          rw [HB.out] at HY; have := HY.out; subst this; exact ⟨y, HTy, H3.out, H4.out⟩
                    · have h1y' : (s.size : Int) ≤ (y.at_ : Int) := by omega
                      have HB := Lib.hid (comment_end gk (rest_nil hoky h1y))
                      clear HEY
                      go_wp2_with (fail)
                      go_roundg k
                      case measure => have := HG.out; omega
                      rw [HB.out] at HY; have := HY.out; subst this; exact ⟨y, HTy, H3.out, H4.out⟩
                · have hd45' : ((s[x.at_ + 1].toNat : Int) == 45) = false := beq_eq_false_iff_ne.2 (by omega)
                  have HB := Lib.hid (blank_no gk HR.out HN.out (dash_no3 hok h1 hA hd45))
                  clear h45 hd45 hgk HE
                  go_wp2_with (fail)
                  rw [HB.out] at HX; have := HX.out; subst this; exact HT'.out
              · have h45' : ((s[x.at_].toNat : Int) == 45) = false := beq_eq_false_iff_ne.2 (by omega)
                have HB := Lib.hid (blank_no gk HR.out HN.out (dash_no2 hok h1 h45))
                clear h45 hgk HE
                go_wp2_with (fail)
                rw [HB.out] at HX; have := HX.out; subst this; exact HT'.out
            · have hA' : (s.size : Int) ≤ (x.at_ : Int) + 1 := by omega
              have HB := Lib.hid (blank_no gk HR.out HN.out (dash_no1 hok h1 hA))
              clear hgk HE
              go_wp2_with (fail)
              rw [HB.out] at HX; have := HX.out; subst this; exact HT'.out
      · have h2' : ((x.e : Int) == 0) = false := beq_eq_false_iff_ne.2 (by omega)
        go_wp2_with (fail)
        rw [Lx.blank_keep _ _ h2] at HX; have := HX.out; subst this; exact HT
    · have h1' : (s.size : Int) ≤ (x.at_ : Int) := by omega
      go_wp2_with (fail)
      rw [blank_end _ (by rw [hok.rest, drop_end _ _ (by omega)])] at HX; have := HX.out; subst this; exact HT
end Go.Proofs.YtglkdhodpgnlgaaDoor
