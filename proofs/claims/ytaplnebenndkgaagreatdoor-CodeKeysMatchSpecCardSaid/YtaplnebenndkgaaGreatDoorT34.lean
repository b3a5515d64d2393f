/- The law codeKeysMatchSpec: the row and its tied card hold, for all worlds in which the listed variables read as listed. Conditions: those of the row alone. -/
import Derived.Test.YtaplnebenndkgaaGreatDoorT20
import Derived.Test.YtaplnebenndkgaaGreatDoorT22
import Derived.Test.YtaplnebenndkgaaGreatDoorT24
import Derived.Test.YtaplnebenndkgaaGreatDoorT25
import Derived.Test.YtaplnebenndkgaaGreatDoorT26
import Derived.Test.YtaplnebenndkgaaGreatDoorT21
import Derived.Test.YtaplnebenndkgaaGreatDoorT33
import Derived.KernelRfl
set_option linter.all false
namespace Go.RI.Jn
open Go.Proofs Fx Fk Rw
noncomputable section
def tabOfCodes : List (Nat × AFn) → Tr Ent := @List.rec (Nat × AFn) (fun _ => Tr Ent) .e (fun p _ ih => setF (.code p.2) ih p.1)
theorem tabOfCodes_get : ∀ {l : List (Nat × AFn)} {g : Nat} {fn : AFn}, (tabOfCodes l).get g = some (.code fn) → (g, fn) ∈ l
  | [], g, fn, h => by
    have : (Tr.e : Tr Ent).get g = some (.code fn) := h
    rw [Tr.get_e] at this; cases this
  | p :: l, g, fn, h => by
    have h : (setF (.code p.2) (tabOfCodes l) p.1).get g = some (.code fn) := h
    rw [setF_eq, Tr.get_set] at h
    by_cases e : g = p.1
    · rw [if_pos e] at h; cases h; subst e; exact List.mem_cons_self
    · rw [if_neg e] at h; exact List.mem_cons_of_mem _ (tabOfCodes_get h)
theorem cons {p : Nat × AFn} {l : List (Nat × AFn)} (h : Is p.1 p.2) (t : ∀ q, q ∈ l → Is q.1 q.2) : ∀ q, q ∈ p :: l → Is q.1 q.2 := fun q hq => by
  rcases List.mem_cons.1 hq with rfl | hq
  · exact h
  · exact t q hq
theorem app {a b : List (Nat × AFn)} (h : ∀ q, q ∈ a → Is q.1 q.2) (t : ∀ q, q ∈ b → Is q.1 q.2) : ∀ q, q ∈ a ++ b → Is q.1 q.2 := fun q hq => (List.mem_append.1 hq).elim (h q) (t q)
theorem fns_of {tb : Tr Ent} {l : List (Nat × AFn)} (ht : tb = tabOfCodes l) (h : ∀ p, p ∈ l → Is p.1 p.2) : FnsOk Tryz.prog 4 (tiOf Tryz.prog) (fsOf tb) := by
  intro g fn hg
  unfold fsOf at hg
  split at hg
  · rename_i f hq; cases hg; rw [ht] at hq
    have hm := h (g, fn) (tabOfCodes_get hq)
    obtain ⟨fu, q1, q2, q3⟩ := hm
    exact ⟨fu, q1, q2, q3⟩
  · cases hg
def listC0 : List (Nat × AFn) := [(40,F40),(19,F19),(9,F9),(36,F36),(15,F15),(148,F148),(147,F147),(78,F78),(145,F145),(76,F76),(151,F151),(150,F150),(77,F77),(75,F75),(74,F74),(34,F34),(73,F73),(143,F143),(72,F72),(71,F71),(142,F142),(70,F70),(38,F38),(37,F37),(16,F16),(33,F33),(69,F69),(68,F68),(67,F67),(32,F32),(14,F14),(311,F311),(6,F6),(216,F216),(269,F269)]
def listC1 : List (Nat × AFn) := [(146,F146),(153,F153),(215,F215),(149,F149),(265,F265),(314,F314),(267,F267),(214,F214),(17,F17),(262,F262),(212,F212),(213,F213),(260,F260),(259,F259),(211,F211),(210,F210),(209,F209),(141,F141),(140,F140),(66,F66),(31,F31),(272,F272),(271,F271),(219,F219),(303,F303),(258,F258),(206,F206),(208,F208),(207,F207),(139,F139),(257,F257),(205,F205),(155,F155),(80,F80),(79,F79)]
def listC2 : List (Nat × AFn) := [(35,F35),(138,F138),(301,F301),(255,F255),(256,F256),(254,F254),(204,F204),(137,F137),(132,F132),(203,F203),(136,F136),(135,F135),(64,F64),(133,F133),(63,F63),(130,F130),(191,F191),(247,F247),(193,F193),(131,F131),(246,F246),(192,F192),(190,F190),(189,F189),(129,F129),(128,F128),(62,F62),(61,F61),(30,F30),(13,F13),(127,F127),(188,F188),(202,F202),(187,F187),(125,F125)]
def listC3 : List (Nat × AFn) := [(186,F186),(124,F124),(123,F123),(60,F60),(59,F59),(55,F55),(29,F29),(26,F26),(41,F41),(22,F22),(57,F57),(28,F28),(118,F118),(27,F27),(194,F194),(174,F174),(253,F253),(295,F295),(248,F248),(319,F319),(288,F288),(239,F239),(185,F185),(117,F117),(184,F184),(126,F126),(119,F119),(109,F109),(21,F21),(11,F11),(4,F4),(116,F116),(53,F53),(50,F50),(25,F25)]
def listC4 : List (Nat × AFn) := [(47,F47),(171,F171),(180,F180),(106,F106),(97,F97),(20,F20),(10,F10),(170,F170),(112,F112),(231,F231),(183,F183),(169,F169),(228,F228),(233,F233),(232,F232),(230,F230),(168,F168),(94,F94),(93,F93),(46,F46),(281,F281),(226,F226),(87,F87),(86,F86),(42,F42),(84,F84),(43,F43),(282,F282),(227,F227),(83,F83),(280,F280),(58,F58),(82,F82),(234,F234),(279,F279)]
def listC5 : List (Nat × AFn) := [(224,F224),(158,F158),(165,F165),(167,F167),(163,F163),(162,F162),(164,F164),(222,F222),(161,F161),(160,F160),(92,F92),(157,F157),(91,F91),(45,F45),(23,F23),(101,F101),(89,F89),(90,F90),(88,F88),(44,F44),(48,F48),(49,F49),(24,F24),(12,F12),(5,F5)]
def listC : List (Nat × AFn) := listC0 ++ (listC1 ++ (listC2 ++ (listC3 ++ (listC4 ++ (listC5)))))
def listL0 : List (Nat × AFn) := [(3,F3),(4,F4),(6,F6),(7,F7),(8,F8),(9,F9),(10,F10),(11,F11),(17,F17),(18,F18),(19,F19),(20,F20),(21,F21),(22,F22),(39,F39),(40,F40),(41,F41),(42,F42),(43,F43),(81,F81),(82,F82),(83,F83),(84,F84),(85,F85),(86,F86),(87,F87),(98,F98),(99,F99),(156,F156),(220,F220),(221,F221),(274,F274),(275,F275),(57,F57),(58,F58)]
def listL : List (Nat × AFn) := listL0
set_option maxRecDepth 100000
theorem allC0 : ∀ p, p ∈ listC0 → Fk.Is p.1 p.2 :=
  cons i40 (cons i19 (cons i9 (cons i36 (cons i15 (cons i148 (cons i147 (cons i78 (cons i145 (cons i76 (cons i151 (cons i150 (cons i77 (cons i75 (cons i74 (cons i34 (cons i73 (cons i143 (cons i72 (cons i71 (cons i142 (cons i70 (cons i38 (cons i37 (cons i16 (cons i33 (cons i69 (cons i68 (cons i67 (cons i32 (cons i14 (cons i311 (cons i6 (cons i216 (cons i269 ((fun _ h => by cases h))))))))))))))))))))))))))))))))))))
theorem allC1 : ∀ p, p ∈ listC1 → Fk.Is p.1 p.2 :=
  cons i146 (cons i153 (cons i215 (cons i149 (cons i265 (cons i314 (cons i267 (cons i214 (cons i17 (cons i262 (cons i212 (cons i213 (cons i260 (cons i259 (cons i211 (cons i210 (cons i209 (cons i141 (cons i140 (cons i66 (cons i31 (cons i272 (cons i271 (cons i219 (cons i303 (cons i258 (cons i206 (cons i208 (cons i207 (cons i139 (cons i257 (cons i205 (cons i155 (cons i80 (cons i79 ((fun _ h => by cases h))))))))))))))))))))))))))))))))))))
theorem allC2 : ∀ p, p ∈ listC2 → Fk.Is p.1 p.2 :=
  cons i35 (cons i138 (cons i301 (cons i255 (cons i256 (cons i254 (cons i204 (cons i137 (cons i132 (cons i203 (cons i136 (cons i135 (cons i64 (cons i133 (cons i63 (cons i130 (cons i191 (cons i247 (cons i193 (cons i131 (cons i246 (cons i192 (cons i190 (cons i189 (cons i129 (cons i128 (cons i62 (cons i61 (cons i30 (cons i13 (cons i127 (cons i188 (cons i202 (cons i187 (cons i125 ((fun _ h => by cases h))))))))))))))))))))))))))))))))))))
theorem allC3 : ∀ p, p ∈ listC3 → Fk.Is p.1 p.2 :=
  cons i186 (cons i124 (cons i123 (cons i60 (cons i59 (cons i55 (cons i29 (cons i26 (cons i41 (cons i22 (cons i57 (cons i28 (cons i118 (cons i27 (cons i194 (cons i174 (cons i253 (cons i295 (cons i248 (cons i319 (cons i288 (cons i239 (cons i185 (cons i117 (cons i184 (cons i126 (cons i119 (cons i109 (cons i21 (cons i11 (cons i4 (cons i116 (cons i53 (cons i50 (cons i25 ((fun _ h => by cases h))))))))))))))))))))))))))))))))))))
theorem allC4 : ∀ p, p ∈ listC4 → Fk.Is p.1 p.2 :=
  cons i47 (cons i171 (cons i180 (cons i106 (cons i97 (cons i20 (cons i10 (cons i170 (cons i112 (cons i231 (cons i183 (cons i169 (cons i228 (cons i233 (cons i232 (cons i230 (cons i168 (cons i94 (cons i93 (cons i46 (cons i281 (cons i226 (cons i87 (cons i86 (cons i42 (cons i84 (cons i43 (cons i282 (cons i227 (cons i83 (cons i280 (cons i58 (cons i82 (cons i234 (cons i279 ((fun _ h => by cases h))))))))))))))))))))))))))))))))))))
theorem allC5 : ∀ p, p ∈ listC5 → Fk.Is p.1 p.2 :=
  cons i224 (cons i158 (cons i165 (cons i167 (cons i163 (cons i162 (cons i164 (cons i222 (cons i161 (cons i160 (cons i92 (cons i157 (cons i91 (cons i45 (cons i23 (cons i101 (cons i89 (cons i90 (cons i88 (cons i44 (cons i48 (cons i49 (cons i24 (cons i12 (cons i5 ((fun _ h => by cases h))))))))))))))))))))))))))
theorem allC : ∀ p, p ∈ listC → Fk.Is p.1 p.2 := app allC0 (app allC1 (app allC2 (app allC3 (app allC4 (allC5)))))
theorem allL0 : ∀ p, p ∈ listL0 → Fk.Is p.1 p.2 :=
  cons i3 (cons i4 (cons i6 (cons i7 (cons i8 (cons i9 (cons i10 (cons i11 (cons i17 (cons i18 (cons i19 (cons i20 (cons i21 (cons i22 (cons i39 (cons i40 (cons i41 (cons i42 (cons i43 (cons i81 (cons i82 (cons i83 (cons i84 (cons i85 (cons i86 (cons i87 (cons i98 (cons i99 (cons i156 (cons i220 (cons i221 (cons i274 (cons i275 (cons i57 (cons i58 ((fun _ h => by cases h))))))))))))))))))))))))))))))))))))
theorem allL : ∀ p, p ∈ listL → Fk.Is p.1 p.2 := allL0
theorem eqC : tabC = tabOfCodes listC := by kernel_rfl
theorem eqL : tabL = tabOfCodes listL := by kernel_rfl
theorem fnsC : FnsOk Tryz.prog 4 (tiOf Tryz.prog) (fsOf tabC) := fns_of eqC allC
theorem fnsL : FnsOk Tryz.prog 4 (tiOf Tryz.prog) (fsOf tabL) := fns_of eqL allL
theorem mixed : Tryz.prog.follows .mixedOrders = true := by kernel_rfl
instance theCx : Cx := cxOf 4 (tiOf Tryz.prog)
theorem cxok : CxOk 4 (tiOf Tryz.prog) := cxOf_ok 4 (tiOf Tryz.prog)
theorem x294 : IsExtern Tryz.prog 294 Extern.BytealgCompare.compare := ⟨Tryz.f294, Tryz.func294, by kernel_rfl, by kernel_rfl, by kernel_rfl, _, by kernel_rfl, rfl⟩
theorem x299 : IsExtern Tryz.prog 299 Extern.BytealgIndexByte.indexByte := ⟨Tryz.f299, Tryz.func299, by kernel_rfl, by kernel_rfl, by kernel_rfl, _, by kernel_rfl, rfl⟩
theorem x340 : IsExtern Tryz.prog 340 Extern.BytealgCount.count := ⟨Tryz.f340, Tryz.func340, by kernel_rfl, by kernel_rfl, by kernel_rfl, _, by kernel_rfl, rfl⟩
theorem noC : NoOrc tabC := noOrc_of noOrcC
theorem noL : NoOrc tabL := noOrc_of (by kernel_rfl)
theorem ent0 : ∀ g f, (g, f) ∈ [(294, oCmp), (299, oIdx), (340, oCnt)] → EntOk Tryz.prog 4 g f := by
  intro g f h
  simp only [List.mem_cons, List.mem_nil_iff, or_false, Prod.mk.injEq] at h
  rcases h with ⟨rfl, rfl⟩ | ⟨rfl, rfl⟩ | ⟨rfl, rfl⟩
  · exact entOk_cmp x294
  · exact entOk_idx x299
  · exact entOk_cnt x340
theorem tame0 : ∀ g f, (g, f) ∈ [(294, oCmp), (299, oIdx), (340, oCnt)] → ∀ al st v st', f al st = some (v, st') → Tame st st' := by
  intro g f h
  simp only [List.mem_cons, List.mem_nil_iff, or_false, Prod.mk.injEq] at h
  rcases h with ⟨rfl, rfl⟩ | ⟨rfl, rfl⟩ | ⟨rfl, rfl⟩
  · exact fun _ _ _ _ => oCmp_tame
  · exact fun _ _ _ _ => oIdx_tame
  · exact fun _ _ _ _ => oCnt_tame
theorem pure_row : ∀ r, r ∈ w0 :: rows → pureL r.l = true ∧ pureL r.o = true ∧ pureL r.r = true := fun r hr => by
  have := List.all_eq_true.1 pureAll r hr
  simpa only [Bool.and_eq_true] using this
theorem ent48 : EntOk Tryz.prog 4 48 (orcRows 138 3 w0 rows) :=
  entOk_rows (ttOk _) cxok mixed (fnsOk_tab fnsC _) (orcOk_tab noC ent0) (orcTame_tab noC tame0) (n := 1000) (nx := 11) (by decide) ⟨r0, (pure_row _ List.mem_cons_self).2.1, (pure_row _ List.mem_cons_self).2.2⟩
    (fun r hr => ⟨rows_ok r hr, pure_row r (List.mem_cons_of_mem _ hr)⟩)
theorem ent1 : ∀ g f, (g, f) ∈ [(48, orcRows 138 3 w0 rows), (294, oCmp), (299, oIdx), (340, oCnt)] → EntOk Tryz.prog 4 g f := by
  intro g f h
  rcases List.mem_cons.1 h with h | h
  · cases h; exact ent48
  · exact ent0 g f h
theorem tame1 : ∀ g f, (g, f) ∈ [(48, orcRows 138 3 w0 rows), (294, oCmp), (299, oIdx), (340, oCnt)] → ∀ al st v st', f al st = some (v, st') → Tame st st' := by
  intro g f h
  rcases List.mem_cons.1 h with h | h
  · cases h; exact fun _ _ _ _ => orcRows_tame
  · exact tame0 g f h
theorem ent24 : EntOk Tryz.prog 4 24 (orcMade 138 3 rowD) :=
  entOk_made (ttOk _) cxok mixed (fnsOk_tab fnsC _) (orcOk_tab noC ent1) (orcTame_tab noC tame1) (n := 1000) (nx := 11) (by decide) rD pureRD
theorem ent2 : ∀ g f, (g, f) ∈ [(24, orcMade 138 3 rowD), (48, orcRows 138 3 w0 rows), (294, oCmp), (299, oIdx), (340, oCnt)] → EntOk Tryz.prog 4 g f := by
  intro g f h
  rcases List.mem_cons.1 h with h | h
  · cases h; exact ent24
  · exact ent1 g f h
theorem tame2 : ∀ g f, (g, f) ∈ [(24, orcMade 138 3 rowD), (48, orcRows 138 3 w0 rows), (294, oCmp), (299, oIdx), (340, oCnt)] → ∀ al st v st', f al st = some (v, st') → Tame st st' := by
  intro g f h
  rcases List.mem_cons.1 h with h | h
  · cases h; exact fun _ _ _ _ => orcMade_tame
  · exact tame1 g f h
theorem ent5 : EntOk Tryz.prog 4 5 (orcTrue 1 3 plainC spaceC) :=
  entOk_true (ttOk _) cxok mixed (fnsOk_tab fnsC _) (orcOk_tab noC ent2) (orcTame_tab noC tame2) (n := 1000) (nx := 11) (by decide) (by decide) (by decide) (by decide) closed pureP pureS
def tbL : Tr Ent := tabOf tabL [(5, orcTrue 1 3 plainC spaceC)]
theorem hfsL : FnsOk Tryz.prog 4 (tiOf Tryz.prog) (fsOf tbL) := fnsOk_tab fnsL _
theorem horcL : OrcOk Tryz.prog 4 (orcOf tbL) := orcOk_tab noL fun g f h => by
  simp only [List.mem_singleton, Prod.mk.injEq] at h
  obtain ⟨rfl, rfl⟩ := h
  exact ent5
theorem hotL : OrcTame (orcOf tbL) := orcTame_tab noL fun g f h => by
  simp only [List.mem_singleton, Prod.mk.injEq] at h
  obtain ⟨rfl, rfl⟩ := h
  exact fun _ _ _ _ => orcTrue_tame
theorem k3 : Code (fsOf tbL) (orcOf tbL) 3 F3 := ⟨by kernel_rfl, fun _ _ => by kernel_rfl⟩
theorem k4 : Code (fsOf tbL) (orcOf tbL) 4 F4 := ⟨by kernel_rfl, fun _ _ => by kernel_rfl⟩
theorem k6 : Code (fsOf tbL) (orcOf tbL) 6 F6 := ⟨by kernel_rfl, fun _ _ => by kernel_rfl⟩
theorem k7 : Code (fsOf tbL) (orcOf tbL) 7 F7 := ⟨by kernel_rfl, fun _ _ => by kernel_rfl⟩
theorem k8 : Code (fsOf tbL) (orcOf tbL) 8 F8 := ⟨by kernel_rfl, fun _ _ => by kernel_rfl⟩
theorem k9 : Code (fsOf tbL) (orcOf tbL) 9 F9 := ⟨by kernel_rfl, fun _ _ => by kernel_rfl⟩
theorem k10 : Code (fsOf tbL) (orcOf tbL) 10 F10 := ⟨by kernel_rfl, fun _ _ => by kernel_rfl⟩
theorem k11 : Code (fsOf tbL) (orcOf tbL) 11 F11 := ⟨by kernel_rfl, fun _ _ => by kernel_rfl⟩
theorem k17 : Code (fsOf tbL) (orcOf tbL) 17 F17 := ⟨by kernel_rfl, fun _ _ => by kernel_rfl⟩
theorem k18 : Code (fsOf tbL) (orcOf tbL) 18 F18 := ⟨by kernel_rfl, fun _ _ => by kernel_rfl⟩
theorem k19 : Code (fsOf tbL) (orcOf tbL) 19 F19 := ⟨by kernel_rfl, fun _ _ => by kernel_rfl⟩
theorem k20 : Code (fsOf tbL) (orcOf tbL) 20 F20 := ⟨by kernel_rfl, fun _ _ => by kernel_rfl⟩
theorem k21 : Code (fsOf tbL) (orcOf tbL) 21 F21 := ⟨by kernel_rfl, fun _ _ => by kernel_rfl⟩
theorem k22 : Code (fsOf tbL) (orcOf tbL) 22 F22 := ⟨by kernel_rfl, fun _ _ => by kernel_rfl⟩
theorem k39 : Code (fsOf tbL) (orcOf tbL) 39 F39 := ⟨by kernel_rfl, fun _ _ => by kernel_rfl⟩
theorem k40 : Code (fsOf tbL) (orcOf tbL) 40 F40 := ⟨by kernel_rfl, fun _ _ => by kernel_rfl⟩
theorem k41 : Code (fsOf tbL) (orcOf tbL) 41 F41 := ⟨by kernel_rfl, fun _ _ => by kernel_rfl⟩
theorem k42 : Code (fsOf tbL) (orcOf tbL) 42 F42 := ⟨by kernel_rfl, fun _ _ => by kernel_rfl⟩
theorem k43 : Code (fsOf tbL) (orcOf tbL) 43 F43 := ⟨by kernel_rfl, fun _ _ => by kernel_rfl⟩
theorem k81 : Code (fsOf tbL) (orcOf tbL) 81 F81 := ⟨by kernel_rfl, fun _ _ => by kernel_rfl⟩
theorem k82 : Code (fsOf tbL) (orcOf tbL) 82 F82 := ⟨by kernel_rfl, fun _ _ => by kernel_rfl⟩
theorem k83 : Code (fsOf tbL) (orcOf tbL) 83 F83 := ⟨by kernel_rfl, fun _ _ => by kernel_rfl⟩
theorem k84 : Code (fsOf tbL) (orcOf tbL) 84 F84 := ⟨by kernel_rfl, fun _ _ => by kernel_rfl⟩
theorem k85 : Code (fsOf tbL) (orcOf tbL) 85 F85 := ⟨by kernel_rfl, fun _ _ => by kernel_rfl⟩
theorem k86 : Code (fsOf tbL) (orcOf tbL) 86 F86 := ⟨by kernel_rfl, fun _ _ => by kernel_rfl⟩
theorem k87 : Code (fsOf tbL) (orcOf tbL) 87 F87 := ⟨by kernel_rfl, fun _ _ => by kernel_rfl⟩
theorem k98 : Code (fsOf tbL) (orcOf tbL) 98 F98 := ⟨by kernel_rfl, fun _ _ => by kernel_rfl⟩
theorem k99 : Code (fsOf tbL) (orcOf tbL) 99 F99 := ⟨by kernel_rfl, fun _ _ => by kernel_rfl⟩
theorem k156 : Code (fsOf tbL) (orcOf tbL) 156 F156 := ⟨by kernel_rfl, fun _ _ => by kernel_rfl⟩
theorem k220 : Code (fsOf tbL) (orcOf tbL) 220 F220 := ⟨by kernel_rfl, fun _ _ => by kernel_rfl⟩
theorem k221 : Code (fsOf tbL) (orcOf tbL) 221 F221 := ⟨by kernel_rfl, fun _ _ => by kernel_rfl⟩
theorem k274 : Code (fsOf tbL) (orcOf tbL) 274 F274 := ⟨by kernel_rfl, fun _ _ => by kernel_rfl⟩
theorem k275 : Code (fsOf tbL) (orcOf tbL) 275 F275 := ⟨by kernel_rfl, fun _ _ => by kernel_rfl⟩
theorem k57 : Code (fsOf tbL) (orcOf tbL) 57 F57 := ⟨by kernel_rfl, fun _ _ => by kernel_rfl⟩
theorem k58 : Code (fsOf tbL) (orcOf tbL) 58 F58 := ⟨by kernel_rfl, fun _ _ => by kernel_rfl⟩
theorem numC : NumC (fsOf tbL) (orcOf tbL) := ⟨k82, k83, k84, k85, k42, k86, k87, k43, k41, k22, k21, k20, k10, k11, k4⟩
theorem txtC : TxtC (fsOf tbL) (orcOf tbL) := ⟨k57, k58, k98, k99, k274, k220, k221, k275, k156, k81, k39, k18⟩
theorem keyC : KeyC (fsOf tbL) (orcOf tbL) := ⟨k40, k19, k17, k6, k9, k7, k8⟩
end
end Go.RI.Jn
