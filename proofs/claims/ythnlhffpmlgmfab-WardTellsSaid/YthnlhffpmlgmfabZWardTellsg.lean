/- Part 7: what the law WardTells needs, put together out of texts of this session. -/
import Derived.Test.YthnlhffpmlgmfabZWardTellsf
section
namespace Go.Proofs.Ythnlhffpmlgmfab.Fw
open Go Go.Hw Go.Proofs
set_option linter.unusedVariables false
set_option synthInstance.maxHeartbeats 400000
set_option synthInstance.maxSize 1000
set_option maxHeartbeats 4000000 in
set_option maxRecDepth 100000 in
theorem roadref3_Fallen.walk {W : Nat → Prop} {h m : Heap} {cs_0 : List Value} {y_0 : T_ward_Ward} {x_1 : Int} {b_2 : Bool} {x_3 : Int} (O : Hold W h m h m []) (e_0 : T_ward_Ward.E m y_0 cs_0) {r : T_ward_Ward × T_ward_Plan} (e : roadref3_Fallen y_0 x_1 b_2 x_3 = some r) : Run Try.prog 56 #[Value.agg cs_0.toArray, Value.int .i64 x_1, Value.bool b_2, Value.int .i64 x_3] h (roadref3_Fallen.post W h m r) := by
  unfold roadref3_Fallen at e
  refine f56.run ?_
  unfold f56.runT
  refine O.new fun h1 x2 O3 => ?_
  refine O3.new fun h5 x6 O7 => ?_
  refine O7.new fun h9 x10 O11 => ?_
  obtain ⟨l18, g19, e⟩ := bind_e e
  obtain ⟨A42, c43, q44, k45, r46⟩ := T_ward_Ward.g3 e_0
  refine ⟨_, ldk (k := 3) (Sub.refl _) (O11.all 0 rfl) q44, _, _, _, rfl, ?_⟩
  refine ⟨?_, ?_⟩
  · refine ⟨_, ld0 (Sub.refl _) (O11.all 0 rfl) (T_ward_Ward.g0 e_0), _, rfl, ?_⟩
    refine ⟨Ext.refl _, ?_⟩
    refine ⟨?_, ?_⟩
    · refine ⟨_, ldk (k := 1) (Sub.refl _) (O11.all 0 rfl) (T_ward_Ward.g1 e_0), _, rfl, ?_⟩
      refine ⟨Ext.refl _, ?_⟩
      refine ⟨?_, ?_⟩
      · refine ⟨_, ldk (k := 2) (Sub.refl _) (O11.all 0 rfl) (T_ward_Ward.g2 e_0), _, rfl, ?_⟩
        refine ⟨Ext.refl _, ?_⟩
        refine ⟨?_, ?_⟩
        · refine O11.appE0 T_ward_Child.T rfl rfl (Rd.srcE r46 T_ward_Child.T O11.s rfl) (by decide) g19 fun A49 c50 h51 x53 O52 => ?_
          refine ⟨_, _, _, rfl, ?_⟩
          refine ⟨?_, ?_⟩
          · refine O52.new fun h55 x56 O57 => ?_
            refine ⟨x56, ?_⟩
            have O59 := O57.nm
            refine ⟨_, rfl, rfl, ?_⟩
            refine O59.stA 4 rfl rfl (Flats.cons trivial (Flats.cons trivial (Flats.cons trivial (Flats.cons trivial (Flats.cons trivial Flats.nil))))) fun h60 O61 => ?_
            refine O61.new fun h62 x63 O64 => ?_
            refine O64.st0 5 rfl (Nat.le_of_ble_eq_true rfl) trivial fun h66 O67 => ?_
            have O68 := O67.nil (aE (tell_int .i64)) none
            have O70 := O68.nm
            exact roadref3_Fallen.l0.walk (O70.pick [0, 1, 2, 4, 3, 6, 5]).nm e_0 (show T_ward_Ward.E _ (T_ward_Ward.mk (0 : Int) (0 : Int) (0 : Int) ([] : List T_ward_Child) ([] : List Int)) [(Value.int .i64 (0 : Int)), (Value.int .i64 (0 : Int)), (Value.int .i64 (0 : Int)), (Value.slice none 0 0), (Value.slice none 0 0)] from ⟨_, _, _, _, rfl, (by exact Nat.le_refl 0), Rd.nil, (by exact Nat.le_refl 0), Rd.nil⟩) (show T_ward_Plan.E _ (T_ward_Plan.mk ([] : List Int) ([] : List Int) false) [(Value.slice none 0 0), (Value.slice none 0 0), (Value.bool false)] from ⟨_, _, _, _, rfl, (by exact Nat.le_refl 0), Rd.nil, (by exact Nat.le_refl 0), Rd.nil⟩) rfl rfl rfl e
          · refine O52.new fun h71 x72 O73 => ?_
            refine ⟨x72, ?_⟩
            have O75 := O73.nm
            refine ⟨_, rfl, rfl, ?_⟩
            refine O75.stA 4 rfl rfl (Flats.cons trivial (Flats.cons trivial (Flats.cons trivial (Flats.cons trivial (Flats.cons trivial Flats.nil))))) fun h76 O77 => ?_
            refine O77.new fun h78 x79 O80 => ?_
            refine O80.st0 5 rfl (Nat.le_of_ble_eq_true rfl) trivial fun h82 O83 => ?_
            have O84 := O83.nil (aE (tell_int .i64)) none
            have O86 := O84.nm
            exact roadref3_Fallen.l0.walk (O86.pick [0, 1, 2, 4, 3, 6, 5]).nm e_0 (show T_ward_Ward.E _ (T_ward_Ward.mk (0 : Int) (0 : Int) (0 : Int) ([] : List T_ward_Child) ([] : List Int)) [(Value.int .i64 (0 : Int)), (Value.int .i64 (0 : Int)), (Value.int .i64 (0 : Int)), (Value.slice none 0 0), (Value.slice none 0 0)] from ⟨_, _, _, _, rfl, (by exact Nat.le_refl 0), Rd.nil, (by exact Nat.le_refl 0), Rd.nil⟩) (show T_ward_Plan.E _ (T_ward_Plan.mk ([] : List Int) ([] : List Int) false) [(Value.slice none 0 0), (Value.slice none 0 0), (Value.bool false)] from ⟨_, _, _, _, rfl, (by exact Nat.le_refl 0), Rd.nil, (by exact Nat.le_refl 0), Rd.nil⟩) rfl rfl rfl e
        · refine O11.new fun h87 x88 O89 => ?_
          refine ⟨x88, ?_⟩
          refine O89.appE0 T_ward_Child.T rfl rfl (Rd.srcE r46 T_ward_Child.T O89.s rfl) (by decide) g19 fun A93 c94 h95 x97 O96 => ?_
          refine ⟨_, _, _, rfl, ?_⟩
          have O99 := O96.nm
          refine ⟨_, rfl, rfl, ?_⟩
          refine O99.stA 3 rfl rfl (Flats.cons trivial (Flats.cons trivial (Flats.cons trivial (Flats.cons trivial (Flats.cons trivial Flats.nil))))) fun h100 O101 => ?_
          refine O101.new fun h102 x103 O104 => ?_
          refine O104.st0 5 rfl (Nat.le_of_ble_eq_true rfl) trivial fun h106 O107 => ?_
          have O108 := O107.nil (aE (tell_int .i64)) none
          have O110 := O108.nm
          exact roadref3_Fallen.l0.walk (O110.pick [0, 1, 2, 3, 4, 6, 5]).nm e_0 (show T_ward_Ward.E _ (T_ward_Ward.mk (0 : Int) (0 : Int) (0 : Int) ([] : List T_ward_Child) ([] : List Int)) [(Value.int .i64 (0 : Int)), (Value.int .i64 (0 : Int)), (Value.int .i64 (0 : Int)), (Value.slice none 0 0), (Value.slice none 0 0)] from ⟨_, _, _, _, rfl, (by exact Nat.le_refl 0), Rd.nil, (by exact Nat.le_refl 0), Rd.nil⟩) (show T_ward_Plan.E _ (T_ward_Plan.mk ([] : List Int) ([] : List Int) false) [(Value.slice none 0 0), (Value.slice none 0 0), (Value.bool false)] from ⟨_, _, _, _, rfl, (by exact Nat.le_refl 0), Rd.nil, (by exact Nat.le_refl 0), Rd.nil⟩) rfl rfl rfl e
      · refine ⟨?_, ?_⟩
        · refine O11.appE0 T_ward_Child.T rfl rfl (Rd.srcE r46 T_ward_Child.T O11.s rfl) (by decide) g19 fun A113 c114 h115 x117 O116 => ?_
          refine ⟨_, _, _, rfl, ?_⟩
          refine ⟨?_, ?_⟩
          · refine ⟨_, ldk (k := 2) (Sub.refl _) (O116.all 0 rfl) (T_ward_Ward.g2 e_0), _, rfl, ?_⟩
            refine ⟨Ext.refl _, ?_⟩
            refine ⟨?_, ?_⟩
            · refine O116.new fun h119 x120 O121 => ?_
              refine ⟨x120, ?_⟩
              have O123 := O121.nm
              refine ⟨_, rfl, rfl, ?_⟩
              refine O123.stA 4 rfl rfl (Flats.cons trivial (Flats.cons trivial (Flats.cons trivial (Flats.cons trivial (Flats.cons trivial Flats.nil))))) fun h124 O125 => ?_
              refine O125.new fun h126 x127 O128 => ?_
              refine O128.st0 5 rfl (Nat.le_of_ble_eq_true rfl) trivial fun h130 O131 => ?_
              have O132 := O131.nil (aE (tell_int .i64)) none
              have O134 := O132.nm
              exact roadref3_Fallen.l0.walk (O134.pick [0, 1, 2, 4, 3, 6, 5]).nm e_0 (show T_ward_Ward.E _ (T_ward_Ward.mk (0 : Int) (0 : Int) (0 : Int) ([] : List T_ward_Child) ([] : List Int)) [(Value.int .i64 (0 : Int)), (Value.int .i64 (0 : Int)), (Value.int .i64 (0 : Int)), (Value.slice none 0 0), (Value.slice none 0 0)] from ⟨_, _, _, _, rfl, (by exact Nat.le_refl 0), Rd.nil, (by exact Nat.le_refl 0), Rd.nil⟩) (show T_ward_Plan.E _ (T_ward_Plan.mk ([] : List Int) ([] : List Int) false) [(Value.slice none 0 0), (Value.slice none 0 0), (Value.bool false)] from ⟨_, _, _, _, rfl, (by exact Nat.le_refl 0), Rd.nil, (by exact Nat.le_refl 0), Rd.nil⟩) rfl rfl rfl e
            · refine O116.new fun h135 x136 O137 => ?_
              refine ⟨x136, ?_⟩
              have O139 := O137.nm
              refine ⟨_, rfl, rfl, ?_⟩
              refine O139.stA 4 rfl rfl (Flats.cons trivial (Flats.cons trivial (Flats.cons trivial (Flats.cons trivial (Flats.cons trivial Flats.nil))))) fun h140 O141 => ?_
              refine O141.new fun h142 x143 O144 => ?_
              refine O144.st0 5 rfl (Nat.le_of_ble_eq_true rfl) trivial fun h146 O147 => ?_
              have O148 := O147.nil (aE (tell_int .i64)) none
              have O150 := O148.nm
              exact roadref3_Fallen.l0.walk (O150.pick [0, 1, 2, 4, 3, 6, 5]).nm e_0 (show T_ward_Ward.E _ (T_ward_Ward.mk (0 : Int) (0 : Int) (0 : Int) ([] : List T_ward_Child) ([] : List Int)) [(Value.int .i64 (0 : Int)), (Value.int .i64 (0 : Int)), (Value.int .i64 (0 : Int)), (Value.slice none 0 0), (Value.slice none 0 0)] from ⟨_, _, _, _, rfl, (by exact Nat.le_refl 0), Rd.nil, (by exact Nat.le_refl 0), Rd.nil⟩) (show T_ward_Plan.E _ (T_ward_Plan.mk ([] : List Int) ([] : List Int) false) [(Value.slice none 0 0), (Value.slice none 0 0), (Value.bool false)] from ⟨_, _, _, _, rfl, (by exact Nat.le_refl 0), Rd.nil, (by exact Nat.le_refl 0), Rd.nil⟩) rfl rfl rfl e
          · refine O116.new fun h151 x152 O153 => ?_
            refine ⟨x152, ?_⟩
            have O155 := O153.nm
            refine ⟨_, ldk (k := 2) (Sub.refl _) (O155.all 0 rfl) (T_ward_Ward.g2 e_0), _, rfl, ?_⟩
            refine ⟨Ext.refl _, ?_⟩
            refine ⟨_, rfl, rfl, ?_⟩
            refine O155.stA 4 rfl rfl (Flats.cons trivial (Flats.cons trivial (Flats.cons trivial (Flats.cons trivial (Flats.cons trivial Flats.nil))))) fun h156 O157 => ?_
            refine O157.new fun h158 x159 O160 => ?_
            refine O160.st0 5 rfl (Nat.le_of_ble_eq_true rfl) trivial fun h162 O163 => ?_
            have O164 := O163.nil (aE (tell_int .i64)) none
            have O166 := O164.nm
            exact roadref3_Fallen.l0.walk (O166.pick [0, 1, 2, 4, 3, 6, 5]).nm e_0 (show T_ward_Ward.E _ (T_ward_Ward.mk (0 : Int) (0 : Int) (0 : Int) ([] : List T_ward_Child) ([] : List Int)) [(Value.int .i64 (0 : Int)), (Value.int .i64 (0 : Int)), (Value.int .i64 (0 : Int)), (Value.slice none 0 0), (Value.slice none 0 0)] from ⟨_, _, _, _, rfl, (by exact Nat.le_refl 0), Rd.nil, (by exact Nat.le_refl 0), Rd.nil⟩) (show T_ward_Plan.E _ (T_ward_Plan.mk ([] : List Int) ([] : List Int) false) [(Value.slice none 0 0), (Value.slice none 0 0), (Value.bool false)] from ⟨_, _, _, _, rfl, (by exact Nat.le_refl 0), Rd.nil, (by exact Nat.le_refl 0), Rd.nil⟩) rfl rfl rfl e
        · refine O11.new fun h167 x168 O169 => ?_
          refine ⟨x168, ?_⟩
          refine ⟨?_, ?_⟩
          · refine ⟨_, ldk (k := 2) (Sub.refl _) (O169.all 0 rfl) (T_ward_Ward.g2 e_0), _, rfl, ?_⟩
            refine ⟨Ext.refl _, ?_⟩
            refine O169.appE0 T_ward_Child.T rfl rfl (Rd.srcE r46 T_ward_Child.T O169.s rfl) (by decide) g19 fun A173 c174 h175 x177 O176 => ?_
            refine ⟨_, _, _, rfl, ?_⟩
            have O179 := O176.nm
            refine ⟨_, rfl, rfl, ?_⟩
            refine O179.stA 3 rfl rfl (Flats.cons trivial (Flats.cons trivial (Flats.cons trivial (Flats.cons trivial (Flats.cons trivial Flats.nil))))) fun h180 O181 => ?_
            refine O181.new fun h182 x183 O184 => ?_
            refine O184.st0 5 rfl (Nat.le_of_ble_eq_true rfl) trivial fun h186 O187 => ?_
            have O188 := O187.nil (aE (tell_int .i64)) none
            have O190 := O188.nm
            exact roadref3_Fallen.l0.walk (O190.pick [0, 1, 2, 3, 4, 6, 5]).nm e_0 (show T_ward_Ward.E _ (T_ward_Ward.mk (0 : Int) (0 : Int) (0 : Int) ([] : List T_ward_Child) ([] : List Int)) [(Value.int .i64 (0 : Int)), (Value.int .i64 (0 : Int)), (Value.int .i64 (0 : Int)), (Value.slice none 0 0), (Value.slice none 0 0)] from ⟨_, _, _, _, rfl, (by exact Nat.le_refl 0), Rd.nil, (by exact Nat.le_refl 0), Rd.nil⟩) (show T_ward_Plan.E _ (T_ward_Plan.mk ([] : List Int) ([] : List Int) false) [(Value.slice none 0 0), (Value.slice none 0 0), (Value.bool false)] from ⟨_, _, _, _, rfl, (by exact Nat.le_refl 0), Rd.nil, (by exact Nat.le_refl 0), Rd.nil⟩) rfl rfl rfl e
          · refine O169.appE0 T_ward_Child.T rfl rfl (Rd.srcE r46 T_ward_Child.T O169.s rfl) (by decide) g19 fun A193 c194 h195 x197 O196 => ?_
            refine ⟨_, _, _, rfl, ?_⟩
            have O199 := O196.nm
            refine ⟨_, ldk (k := 2) (Sub.refl _) (O199.all 0 rfl) (T_ward_Ward.g2 e_0), _, rfl, ?_⟩
            refine ⟨Ext.refl _, ?_⟩
            refine ⟨_, rfl, rfl, ?_⟩
            refine O199.stA 3 rfl rfl (Flats.cons trivial (Flats.cons trivial (Flats.cons trivial (Flats.cons trivial (Flats.cons trivial Flats.nil))))) fun h200 O201 => ?_
            refine O201.new fun h202 x203 O204 => ?_
            refine O204.st0 5 rfl (Nat.le_of_ble_eq_true rfl) trivial fun h206 O207 => ?_
            have O208 := O207.nil (aE (tell_int .i64)) none
            have O210 := O208.nm
            exact roadref3_Fallen.l0.walk (O210.pick [0, 1, 2, 3, 4, 6, 5]).nm e_0 (show T_ward_Ward.E _ (T_ward_Ward.mk (0 : Int) (0 : Int) (0 : Int) ([] : List T_ward_Child) ([] : List Int)) [(Value.int .i64 (0 : Int)), (Value.int .i64 (0 : Int)), (Value.int .i64 (0 : Int)), (Value.slice none 0 0), (Value.slice none 0 0)] from ⟨_, _, _, _, rfl, (by exact Nat.le_refl 0), Rd.nil, (by exact Nat.le_refl 0), Rd.nil⟩) (show T_ward_Plan.E _ (T_ward_Plan.mk ([] : List Int) ([] : List Int) false) [(Value.slice none 0 0), (Value.slice none 0 0), (Value.bool false)] from ⟨_, _, _, _, rfl, (by exact Nat.le_refl 0), Rd.nil, (by exact Nat.le_refl 0), Rd.nil⟩) rfl rfl rfl e
    · refine ⟨?_, ?_⟩
      · refine ⟨_, ldk (k := 2) (Sub.refl _) (O11.all 0 rfl) (T_ward_Ward.g2 e_0), _, rfl, ?_⟩
        refine ⟨Ext.refl _, ?_⟩
        refine ⟨?_, ?_⟩
        · refine ⟨_, ldk (k := 1) (Sub.refl _) (O11.all 0 rfl) (T_ward_Ward.g1 e_0), _, rfl, ?_⟩
          refine ⟨Ext.refl _, ?_⟩
          refine ⟨?_, ?_⟩
          · refine O11.appE0 T_ward_Child.T rfl rfl (Rd.srcE r46 T_ward_Child.T O11.s rfl) (by decide) g19 fun A213 c214 h215 x217 O216 => ?_
            refine ⟨_, _, _, rfl, ?_⟩
            refine ⟨?_, ?_⟩
            · refine O216.new fun h219 x220 O221 => ?_
              refine ⟨x220, ?_⟩
              have O223 := O221.nm
              refine ⟨_, rfl, rfl, ?_⟩
              refine O223.stA 4 rfl rfl (Flats.cons trivial (Flats.cons trivial (Flats.cons trivial (Flats.cons trivial (Flats.cons trivial Flats.nil))))) fun h224 O225 => ?_
              refine O225.new fun h226 x227 O228 => ?_
              refine O228.st0 5 rfl (Nat.le_of_ble_eq_true rfl) trivial fun h230 O231 => ?_
              have O232 := O231.nil (aE (tell_int .i64)) none
              have O234 := O232.nm
              exact roadref3_Fallen.l0.walk (O234.pick [0, 1, 2, 4, 3, 6, 5]).nm e_0 (show T_ward_Ward.E _ (T_ward_Ward.mk (0 : Int) (0 : Int) (0 : Int) ([] : List T_ward_Child) ([] : List Int)) [(Value.int .i64 (0 : Int)), (Value.int .i64 (0 : Int)), (Value.int .i64 (0 : Int)), (Value.slice none 0 0), (Value.slice none 0 0)] from ⟨_, _, _, _, rfl, (by exact Nat.le_refl 0), Rd.nil, (by exact Nat.le_refl 0), Rd.nil⟩) (show T_ward_Plan.E _ (T_ward_Plan.mk ([] : List Int) ([] : List Int) false) [(Value.slice none 0 0), (Value.slice none 0 0), (Value.bool false)] from ⟨_, _, _, _, rfl, (by exact Nat.le_refl 0), Rd.nil, (by exact Nat.le_refl 0), Rd.nil⟩) rfl rfl rfl e
            · refine O216.new fun h235 x236 O237 => ?_
              refine ⟨x236, ?_⟩
              have O239 := O237.nm
              refine ⟨_, rfl, rfl, ?_⟩
              refine O239.stA 4 rfl rfl (Flats.cons trivial (Flats.cons trivial (Flats.cons trivial (Flats.cons trivial (Flats.cons trivial Flats.nil))))) fun h240 O241 => ?_
              refine O241.new fun h242 x243 O244 => ?_
              refine O244.st0 5 rfl (Nat.le_of_ble_eq_true rfl) trivial fun h246 O247 => ?_
              have O248 := O247.nil (aE (tell_int .i64)) none
              have O250 := O248.nm
              exact roadref3_Fallen.l0.walk (O250.pick [0, 1, 2, 4, 3, 6, 5]).nm e_0 (show T_ward_Ward.E _ (T_ward_Ward.mk (0 : Int) (0 : Int) (0 : Int) ([] : List T_ward_Child) ([] : List Int)) [(Value.int .i64 (0 : Int)), (Value.int .i64 (0 : Int)), (Value.int .i64 (0 : Int)), (Value.slice none 0 0), (Value.slice none 0 0)] from ⟨_, _, _, _, rfl, (by exact Nat.le_refl 0), Rd.nil, (by exact Nat.le_refl 0), Rd.nil⟩) (show T_ward_Plan.E _ (T_ward_Plan.mk ([] : List Int) ([] : List Int) false) [(Value.slice none 0 0), (Value.slice none 0 0), (Value.bool false)] from ⟨_, _, _, _, rfl, (by exact Nat.le_refl 0), Rd.nil, (by exact Nat.le_refl 0), Rd.nil⟩) rfl rfl rfl e
          · refine O11.new fun h251 x252 O253 => ?_
            refine ⟨x252, ?_⟩
            refine O253.appE0 T_ward_Child.T rfl rfl (Rd.srcE r46 T_ward_Child.T O253.s rfl) (by decide) g19 fun A257 c258 h259 x261 O260 => ?_
            refine ⟨_, _, _, rfl, ?_⟩
            have O263 := O260.nm
            refine ⟨_, rfl, rfl, ?_⟩
            refine O263.stA 3 rfl rfl (Flats.cons trivial (Flats.cons trivial (Flats.cons trivial (Flats.cons trivial (Flats.cons trivial Flats.nil))))) fun h264 O265 => ?_
            refine O265.new fun h266 x267 O268 => ?_
            refine O268.st0 5 rfl (Nat.le_of_ble_eq_true rfl) trivial fun h270 O271 => ?_
            have O272 := O271.nil (aE (tell_int .i64)) none
            have O274 := O272.nm
            exact roadref3_Fallen.l0.walk (O274.pick [0, 1, 2, 3, 4, 6, 5]).nm e_0 (show T_ward_Ward.E _ (T_ward_Ward.mk (0 : Int) (0 : Int) (0 : Int) ([] : List T_ward_Child) ([] : List Int)) [(Value.int .i64 (0 : Int)), (Value.int .i64 (0 : Int)), (Value.int .i64 (0 : Int)), (Value.slice none 0 0), (Value.slice none 0 0)] from ⟨_, _, _, _, rfl, (by exact Nat.le_refl 0), Rd.nil, (by exact Nat.le_refl 0), Rd.nil⟩) (show T_ward_Plan.E _ (T_ward_Plan.mk ([] : List Int) ([] : List Int) false) [(Value.slice none 0 0), (Value.slice none 0 0), (Value.bool false)] from ⟨_, _, _, _, rfl, (by exact Nat.le_refl 0), Rd.nil, (by exact Nat.le_refl 0), Rd.nil⟩) rfl rfl rfl e
        · refine ⟨?_, ?_⟩
          · refine O11.appE0 T_ward_Child.T rfl rfl (Rd.srcE r46 T_ward_Child.T O11.s rfl) (by decide) g19 fun A277 c278 h279 x281 O280 => ?_
            refine ⟨_, _, _, rfl, ?_⟩
            refine ⟨?_, ?_⟩
            · refine ⟨_, ldk (k := 1) (Sub.refl _) (O280.all 0 rfl) (T_ward_Ward.g1 e_0), _, rfl, ?_⟩
              refine ⟨Ext.refl _, ?_⟩
              refine ⟨?_, ?_⟩
              · refine O280.new fun h283 x284 O285 => ?_
                refine ⟨x284, ?_⟩
                have O287 := O285.nm
                refine ⟨_, rfl, rfl, ?_⟩
                refine O287.stA 4 rfl rfl (Flats.cons trivial (Flats.cons trivial (Flats.cons trivial (Flats.cons trivial (Flats.cons trivial Flats.nil))))) fun h288 O289 => ?_
                refine O289.new fun h290 x291 O292 => ?_
                refine O292.st0 5 rfl (Nat.le_of_ble_eq_true rfl) trivial fun h294 O295 => ?_
                have O296 := O295.nil (aE (tell_int .i64)) none
                have O298 := O296.nm
                exact roadref3_Fallen.l0.walk (O298.pick [0, 1, 2, 4, 3, 6, 5]).nm e_0 (show T_ward_Ward.E _ (T_ward_Ward.mk (0 : Int) (0 : Int) (0 : Int) ([] : List T_ward_Child) ([] : List Int)) [(Value.int .i64 (0 : Int)), (Value.int .i64 (0 : Int)), (Value.int .i64 (0 : Int)), (Value.slice none 0 0), (Value.slice none 0 0)] from ⟨_, _, _, _, rfl, (by exact Nat.le_refl 0), Rd.nil, (by exact Nat.le_refl 0), Rd.nil⟩) (show T_ward_Plan.E _ (T_ward_Plan.mk ([] : List Int) ([] : List Int) false) [(Value.slice none 0 0), (Value.slice none 0 0), (Value.bool false)] from ⟨_, _, _, _, rfl, (by exact Nat.le_refl 0), Rd.nil, (by exact Nat.le_refl 0), Rd.nil⟩) rfl rfl rfl e
              · refine O280.new fun h299 x300 O301 => ?_
                refine ⟨x300, ?_⟩
                have O303 := O301.nm
                refine ⟨_, rfl, rfl, ?_⟩
                refine O303.stA 4 rfl rfl (Flats.cons trivial (Flats.cons trivial (Flats.cons trivial (Flats.cons trivial (Flats.cons trivial Flats.nil))))) fun h304 O305 => ?_
                refine O305.new fun h306 x307 O308 => ?_
                refine O308.st0 5 rfl (Nat.le_of_ble_eq_true rfl) trivial fun h310 O311 => ?_
                have O312 := O311.nil (aE (tell_int .i64)) none
                have O314 := O312.nm
                exact roadref3_Fallen.l0.walk (O314.pick [0, 1, 2, 4, 3, 6, 5]).nm e_0 (show T_ward_Ward.E _ (T_ward_Ward.mk (0 : Int) (0 : Int) (0 : Int) ([] : List T_ward_Child) ([] : List Int)) [(Value.int .i64 (0 : Int)), (Value.int .i64 (0 : Int)), (Value.int .i64 (0 : Int)), (Value.slice none 0 0), (Value.slice none 0 0)] from ⟨_, _, _, _, rfl, (by exact Nat.le_refl 0), Rd.nil, (by exact Nat.le_refl 0), Rd.nil⟩) (show T_ward_Plan.E _ (T_ward_Plan.mk ([] : List Int) ([] : List Int) false) [(Value.slice none 0 0), (Value.slice none 0 0), (Value.bool false)] from ⟨_, _, _, _, rfl, (by exact Nat.le_refl 0), Rd.nil, (by exact Nat.le_refl 0), Rd.nil⟩) rfl rfl rfl e
            · refine O280.new fun h315 x316 O317 => ?_
              refine ⟨x316, ?_⟩
              have O319 := O317.nm
              refine ⟨_, ldk (k := 1) (Sub.refl _) (O319.all 0 rfl) (T_ward_Ward.g1 e_0), _, rfl, ?_⟩
              refine ⟨Ext.refl _, ?_⟩
              refine ⟨_, rfl, rfl, ?_⟩
              refine O319.stA 4 rfl rfl (Flats.cons trivial (Flats.cons trivial (Flats.cons trivial (Flats.cons trivial (Flats.cons trivial Flats.nil))))) fun h320 O321 => ?_
              refine O321.new fun h322 x323 O324 => ?_
              refine O324.st0 5 rfl (Nat.le_of_ble_eq_true rfl) trivial fun h326 O327 => ?_
              have O328 := O327.nil (aE (tell_int .i64)) none
              have O330 := O328.nm
              exact roadref3_Fallen.l0.walk (O330.pick [0, 1, 2, 4, 3, 6, 5]).nm e_0 (show T_ward_Ward.E _ (T_ward_Ward.mk (0 : Int) (0 : Int) (0 : Int) ([] : List T_ward_Child) ([] : List Int)) [(Value.int .i64 (0 : Int)), (Value.int .i64 (0 : Int)), (Value.int .i64 (0 : Int)), (Value.slice none 0 0), (Value.slice none 0 0)] from ⟨_, _, _, _, rfl, (by exact Nat.le_refl 0), Rd.nil, (by exact Nat.le_refl 0), Rd.nil⟩) (show T_ward_Plan.E _ (T_ward_Plan.mk ([] : List Int) ([] : List Int) false) [(Value.slice none 0 0), (Value.slice none 0 0), (Value.bool false)] from ⟨_, _, _, _, rfl, (by exact Nat.le_refl 0), Rd.nil, (by exact Nat.le_refl 0), Rd.nil⟩) rfl rfl rfl e
          · refine O11.new fun h331 x332 O333 => ?_
            refine ⟨x332, ?_⟩
            refine ⟨?_, ?_⟩
            · refine ⟨_, ldk (k := 1) (Sub.refl _) (O333.all 0 rfl) (T_ward_Ward.g1 e_0), _, rfl, ?_⟩
              refine ⟨Ext.refl _, ?_⟩
              refine O333.appE0 T_ward_Child.T rfl rfl (Rd.srcE r46 T_ward_Child.T O333.s rfl) (by decide) g19 fun A337 c338 h339 x341 O340 => ?_
              refine ⟨_, _, _, rfl, ?_⟩
              have O343 := O340.nm
              refine ⟨_, rfl, rfl, ?_⟩
              refine O343.stA 3 rfl rfl (Flats.cons trivial (Flats.cons trivial (Flats.cons trivial (Flats.cons trivial (Flats.cons trivial Flats.nil))))) fun h344 O345 => ?_
              refine O345.new fun h346 x347 O348 => ?_
              refine O348.st0 5 rfl (Nat.le_of_ble_eq_true rfl) trivial fun h350 O351 => ?_
              have O352 := O351.nil (aE (tell_int .i64)) none
              have O354 := O352.nm
              exact roadref3_Fallen.l0.walk (O354.pick [0, 1, 2, 3, 4, 6, 5]).nm e_0 (show T_ward_Ward.E _ (T_ward_Ward.mk (0 : Int) (0 : Int) (0 : Int) ([] : List T_ward_Child) ([] : List Int)) [(Value.int .i64 (0 : Int)), (Value.int .i64 (0 : Int)), (Value.int .i64 (0 : Int)), (Value.slice none 0 0), (Value.slice none 0 0)] from ⟨_, _, _, _, rfl, (by exact Nat.le_refl 0), Rd.nil, (by exact Nat.le_refl 0), Rd.nil⟩) (show T_ward_Plan.E _ (T_ward_Plan.mk ([] : List Int) ([] : List Int) false) [(Value.slice none 0 0), (Value.slice none 0 0), (Value.bool false)] from ⟨_, _, _, _, rfl, (by exact Nat.le_refl 0), Rd.nil, (by exact Nat.le_refl 0), Rd.nil⟩) rfl rfl rfl e
            · refine O333.appE0 T_ward_Child.T rfl rfl (Rd.srcE r46 T_ward_Child.T O333.s rfl) (by decide) g19 fun A357 c358 h359 x361 O360 => ?_
              refine ⟨_, _, _, rfl, ?_⟩
              have O363 := O360.nm
              refine ⟨_, ldk (k := 1) (Sub.refl _) (O363.all 0 rfl) (T_ward_Ward.g1 e_0), _, rfl, ?_⟩
              refine ⟨Ext.refl _, ?_⟩
              refine ⟨_, rfl, rfl, ?_⟩
              refine O363.stA 3 rfl rfl (Flats.cons trivial (Flats.cons trivial (Flats.cons trivial (Flats.cons trivial (Flats.cons trivial Flats.nil))))) fun h364 O365 => ?_
              refine O365.new fun h366 x367 O368 => ?_
              refine O368.st0 5 rfl (Nat.le_of_ble_eq_true rfl) trivial fun h370 O371 => ?_
              have O372 := O371.nil (aE (tell_int .i64)) none
              have O374 := O372.nm
              exact roadref3_Fallen.l0.walk (O374.pick [0, 1, 2, 3, 4, 6, 5]).nm e_0 (show T_ward_Ward.E _ (T_ward_Ward.mk (0 : Int) (0 : Int) (0 : Int) ([] : List T_ward_Child) ([] : List Int)) [(Value.int .i64 (0 : Int)), (Value.int .i64 (0 : Int)), (Value.int .i64 (0 : Int)), (Value.slice none 0 0), (Value.slice none 0 0)] from ⟨_, _, _, _, rfl, (by exact Nat.le_refl 0), Rd.nil, (by exact Nat.le_refl 0), Rd.nil⟩) (show T_ward_Plan.E _ (T_ward_Plan.mk ([] : List Int) ([] : List Int) false) [(Value.slice none 0 0), (Value.slice none 0 0), (Value.bool false)] from ⟨_, _, _, _, rfl, (by exact Nat.le_refl 0), Rd.nil, (by exact Nat.le_refl 0), Rd.nil⟩) rfl rfl rfl e
      · refine ⟨?_, ?_⟩
        · refine O11.appE0 T_ward_Child.T rfl rfl (Rd.srcE r46 T_ward_Child.T O11.s rfl) (by decide) g19 fun A377 c378 h379 x381 O380 => ?_
          refine ⟨_, _, _, rfl, ?_⟩
          refine ⟨?_, ?_⟩
          · refine ⟨_, ldk (k := 1) (Sub.refl _) (O380.all 0 rfl) (T_ward_Ward.g1 e_0), _, rfl, ?_⟩
            refine ⟨Ext.refl _, ?_⟩
            refine ⟨?_, ?_⟩
            · refine ⟨_, ldk (k := 2) (Sub.refl _) (O380.all 0 rfl) (T_ward_Ward.g2 e_0), _, rfl, ?_⟩
              refine ⟨Ext.refl _, ?_⟩
              refine ⟨?_, ?_⟩
              · refine O380.new fun h383 x384 O385 => ?_
                refine ⟨x384, ?_⟩
                have O387 := O385.nm
                refine ⟨_, rfl, rfl, ?_⟩
                refine O387.stA 4 rfl rfl (Flats.cons trivial (Flats.cons trivial (Flats.cons trivial (Flats.cons trivial (Flats.cons trivial Flats.nil))))) fun h388 O389 => ?_
                refine O389.new fun h390 x391 O392 => ?_
                refine O392.st0 5 rfl (Nat.le_of_ble_eq_true rfl) trivial fun h394 O395 => ?_
                have O396 := O395.nil (aE (tell_int .i64)) none
                have O398 := O396.nm
                exact roadref3_Fallen.l0.walk (O398.pick [0, 1, 2, 4, 3, 6, 5]).nm e_0 (show T_ward_Ward.E _ (T_ward_Ward.mk (0 : Int) (0 : Int) (0 : Int) ([] : List T_ward_Child) ([] : List Int)) [(Value.int .i64 (0 : Int)), (Value.int .i64 (0 : Int)), (Value.int .i64 (0 : Int)), (Value.slice none 0 0), (Value.slice none 0 0)] from ⟨_, _, _, _, rfl, (by exact Nat.le_refl 0), Rd.nil, (by exact Nat.le_refl 0), Rd.nil⟩) (show T_ward_Plan.E _ (T_ward_Plan.mk ([] : List Int) ([] : List Int) false) [(Value.slice none 0 0), (Value.slice none 0 0), (Value.bool false)] from ⟨_, _, _, _, rfl, (by exact Nat.le_refl 0), Rd.nil, (by exact Nat.le_refl 0), Rd.nil⟩) rfl rfl rfl e
              · refine O380.new fun h399 x400 O401 => ?_
                refine ⟨x400, ?_⟩
                have O403 := O401.nm
                refine ⟨_, rfl, rfl, ?_⟩
                refine O403.stA 4 rfl rfl (Flats.cons trivial (Flats.cons trivial (Flats.cons trivial (Flats.cons trivial (Flats.cons trivial Flats.nil))))) fun h404 O405 => ?_
                refine O405.new fun h406 x407 O408 => ?_
                refine O408.st0 5 rfl (Nat.le_of_ble_eq_true rfl) trivial fun h410 O411 => ?_
                have O412 := O411.nil (aE (tell_int .i64)) none
                have O414 := O412.nm
                exact roadref3_Fallen.l0.walk (O414.pick [0, 1, 2, 4, 3, 6, 5]).nm e_0 (show T_ward_Ward.E _ (T_ward_Ward.mk (0 : Int) (0 : Int) (0 : Int) ([] : List T_ward_Child) ([] : List Int)) [(Value.int .i64 (0 : Int)), (Value.int .i64 (0 : Int)), (Value.int .i64 (0 : Int)), (Value.slice none 0 0), (Value.slice none 0 0)] from ⟨_, _, _, _, rfl, (by exact Nat.le_refl 0), Rd.nil, (by exact Nat.le_refl 0), Rd.nil⟩) (show T_ward_Plan.E _ (T_ward_Plan.mk ([] : List Int) ([] : List Int) false) [(Value.slice none 0 0), (Value.slice none 0 0), (Value.bool false)] from ⟨_, _, _, _, rfl, (by exact Nat.le_refl 0), Rd.nil, (by exact Nat.le_refl 0), Rd.nil⟩) rfl rfl rfl e
            · refine O380.new fun h415 x416 O417 => ?_
              refine ⟨x416, ?_⟩
              have O419 := O417.nm
              refine ⟨_, ldk (k := 2) (Sub.refl _) (O419.all 0 rfl) (T_ward_Ward.g2 e_0), _, rfl, ?_⟩
              refine ⟨Ext.refl _, ?_⟩
              refine ⟨_, rfl, rfl, ?_⟩
              refine O419.stA 4 rfl rfl (Flats.cons trivial (Flats.cons trivial (Flats.cons trivial (Flats.cons trivial (Flats.cons trivial Flats.nil))))) fun h420 O421 => ?_
              refine O421.new fun h422 x423 O424 => ?_
              refine O424.st0 5 rfl (Nat.le_of_ble_eq_true rfl) trivial fun h426 O427 => ?_
              have O428 := O427.nil (aE (tell_int .i64)) none
              have O430 := O428.nm
              exact roadref3_Fallen.l0.walk (O430.pick [0, 1, 2, 4, 3, 6, 5]).nm e_0 (show T_ward_Ward.E _ (T_ward_Ward.mk (0 : Int) (0 : Int) (0 : Int) ([] : List T_ward_Child) ([] : List Int)) [(Value.int .i64 (0 : Int)), (Value.int .i64 (0 : Int)), (Value.int .i64 (0 : Int)), (Value.slice none 0 0), (Value.slice none 0 0)] from ⟨_, _, _, _, rfl, (by exact Nat.le_refl 0), Rd.nil, (by exact Nat.le_refl 0), Rd.nil⟩) (show T_ward_Plan.E _ (T_ward_Plan.mk ([] : List Int) ([] : List Int) false) [(Value.slice none 0 0), (Value.slice none 0 0), (Value.bool false)] from ⟨_, _, _, _, rfl, (by exact Nat.le_refl 0), Rd.nil, (by exact Nat.le_refl 0), Rd.nil⟩) rfl rfl rfl e
          · refine ⟨?_, ?_⟩
            · refine ⟨_, ldk (k := 2) (Sub.refl _) (O380.all 0 rfl) (T_ward_Ward.g2 e_0), _, rfl, ?_⟩
              refine ⟨Ext.refl _, ?_⟩
              refine ⟨?_, ?_⟩
              · refine ⟨_, ldk (k := 1) (Sub.refl _) (O380.all 0 rfl) (T_ward_Ward.g1 e_0), _, rfl, ?_⟩
                refine ⟨Ext.refl _, ?_⟩
                refine ⟨?_, ?_⟩
                · refine O380.new fun h431 x432 O433 => ?_
                  refine ⟨x432, ?_⟩
                  have O435 := O433.nm
                  refine ⟨_, rfl, rfl, ?_⟩
                  refine O435.stA 4 rfl rfl (Flats.cons trivial (Flats.cons trivial (Flats.cons trivial (Flats.cons trivial (Flats.cons trivial Flats.nil))))) fun h436 O437 => ?_
                  refine O437.new fun h438 x439 O440 => ?_
                  refine O440.st0 5 rfl (Nat.le_of_ble_eq_true rfl) trivial fun h442 O443 => ?_
                  have O444 := O443.nil (aE (tell_int .i64)) none
                  have O446 := O444.nm
                  exact roadref3_Fallen.l0.walk (O446.pick [0, 1, 2, 4, 3, 6, 5]).nm e_0 (show T_ward_Ward.E _ (T_ward_Ward.mk (0 : Int) (0 : Int) (0 : Int) ([] : List T_ward_Child) ([] : List Int)) [(Value.int .i64 (0 : Int)), (Value.int .i64 (0 : Int)), (Value.int .i64 (0 : Int)), (Value.slice none 0 0), (Value.slice none 0 0)] from ⟨_, _, _, _, rfl, (by exact Nat.le_refl 0), Rd.nil, (by exact Nat.le_refl 0), Rd.nil⟩) (show T_ward_Plan.E _ (T_ward_Plan.mk ([] : List Int) ([] : List Int) false) [(Value.slice none 0 0), (Value.slice none 0 0), (Value.bool false)] from ⟨_, _, _, _, rfl, (by exact Nat.le_refl 0), Rd.nil, (by exact Nat.le_refl 0), Rd.nil⟩) rfl rfl rfl e
                · refine O380.new fun h447 x448 O449 => ?_
                  refine ⟨x448, ?_⟩
                  have O451 := O449.nm
                  refine ⟨_, rfl, rfl, ?_⟩
                  refine O451.stA 4 rfl rfl (Flats.cons trivial (Flats.cons trivial (Flats.cons trivial (Flats.cons trivial (Flats.cons trivial Flats.nil))))) fun h452 O453 => ?_
                  refine O453.new fun h454 x455 O456 => ?_
                  refine O456.st0 5 rfl (Nat.le_of_ble_eq_true rfl) trivial fun h458 O459 => ?_
                  have O460 := O459.nil (aE (tell_int .i64)) none
                  have O462 := O460.nm
                  exact roadref3_Fallen.l0.walk (O462.pick [0, 1, 2, 4, 3, 6, 5]).nm e_0 (show T_ward_Ward.E _ (T_ward_Ward.mk (0 : Int) (0 : Int) (0 : Int) ([] : List T_ward_Child) ([] : List Int)) [(Value.int .i64 (0 : Int)), (Value.int .i64 (0 : Int)), (Value.int .i64 (0 : Int)), (Value.slice none 0 0), (Value.slice none 0 0)] from ⟨_, _, _, _, rfl, (by exact Nat.le_refl 0), Rd.nil, (by exact Nat.le_refl 0), Rd.nil⟩) (show T_ward_Plan.E _ (T_ward_Plan.mk ([] : List Int) ([] : List Int) false) [(Value.slice none 0 0), (Value.slice none 0 0), (Value.bool false)] from ⟨_, _, _, _, rfl, (by exact Nat.le_refl 0), Rd.nil, (by exact Nat.le_refl 0), Rd.nil⟩) rfl rfl rfl e
              · refine O380.new fun h463 x464 O465 => ?_
                refine ⟨x464, ?_⟩
                have O467 := O465.nm
                refine ⟨_, ldk (k := 1) (Sub.refl _) (O467.all 0 rfl) (T_ward_Ward.g1 e_0), _, rfl, ?_⟩
                refine ⟨Ext.refl _, ?_⟩
                refine ⟨_, rfl, rfl, ?_⟩
                refine O467.stA 4 rfl rfl (Flats.cons trivial (Flats.cons trivial (Flats.cons trivial (Flats.cons trivial (Flats.cons trivial Flats.nil))))) fun h468 O469 => ?_
                refine O469.new fun h470 x471 O472 => ?_
                refine O472.st0 5 rfl (Nat.le_of_ble_eq_true rfl) trivial fun h474 O475 => ?_
                have O476 := O475.nil (aE (tell_int .i64)) none
                have O478 := O476.nm
                exact roadref3_Fallen.l0.walk (O478.pick [0, 1, 2, 4, 3, 6, 5]).nm e_0 (show T_ward_Ward.E _ (T_ward_Ward.mk (0 : Int) (0 : Int) (0 : Int) ([] : List T_ward_Child) ([] : List Int)) [(Value.int .i64 (0 : Int)), (Value.int .i64 (0 : Int)), (Value.int .i64 (0 : Int)), (Value.slice none 0 0), (Value.slice none 0 0)] from ⟨_, _, _, _, rfl, (by exact Nat.le_refl 0), Rd.nil, (by exact Nat.le_refl 0), Rd.nil⟩) (show T_ward_Plan.E _ (T_ward_Plan.mk ([] : List Int) ([] : List Int) false) [(Value.slice none 0 0), (Value.slice none 0 0), (Value.bool false)] from ⟨_, _, _, _, rfl, (by exact Nat.le_refl 0), Rd.nil, (by exact Nat.le_refl 0), Rd.nil⟩) rfl rfl rfl e
            · refine O380.new fun h479 x480 O481 => ?_
              refine ⟨x480, ?_⟩
              refine ⟨?_, ?_⟩
              · have O483 := O481.nm
                refine ⟨_, ldk (k := 1) (Sub.refl _) (O483.all 0 rfl) (T_ward_Ward.g1 e_0), _, rfl, ?_⟩
                refine ⟨Ext.refl _, ?_⟩
                refine ⟨_, ldk (k := 2) (Sub.refl _) (O483.all 0 rfl) (T_ward_Ward.g2 e_0), _, rfl, ?_⟩
                refine ⟨Ext.refl _, ?_⟩
                refine ⟨_, rfl, rfl, ?_⟩
                refine O483.stA 4 rfl rfl (Flats.cons trivial (Flats.cons trivial (Flats.cons trivial (Flats.cons trivial (Flats.cons trivial Flats.nil))))) fun h484 O485 => ?_
                refine O485.new fun h486 x487 O488 => ?_
                refine O488.st0 5 rfl (Nat.le_of_ble_eq_true rfl) trivial fun h490 O491 => ?_
                have O492 := O491.nil (aE (tell_int .i64)) none
                have O494 := O492.nm
                exact roadref3_Fallen.l0.walk (O494.pick [0, 1, 2, 4, 3, 6, 5]).nm e_0 (show T_ward_Ward.E _ (T_ward_Ward.mk (0 : Int) (0 : Int) (0 : Int) ([] : List T_ward_Child) ([] : List Int)) [(Value.int .i64 (0 : Int)), (Value.int .i64 (0 : Int)), (Value.int .i64 (0 : Int)), (Value.slice none 0 0), (Value.slice none 0 0)] from ⟨_, _, _, _, rfl, (by exact Nat.le_refl 0), Rd.nil, (by exact Nat.le_refl 0), Rd.nil⟩) (show T_ward_Plan.E _ (T_ward_Plan.mk ([] : List Int) ([] : List Int) false) [(Value.slice none 0 0), (Value.slice none 0 0), (Value.bool false)] from ⟨_, _, _, _, rfl, (by exact Nat.le_refl 0), Rd.nil, (by exact Nat.le_refl 0), Rd.nil⟩) rfl rfl rfl e
              · have O495 := O481.nm
                refine ⟨_, ldk (k := 2) (Sub.refl _) (O495.all 0 rfl) (T_ward_Ward.g2 e_0), _, rfl, ?_⟩
                refine ⟨Ext.refl _, ?_⟩
                refine ⟨_, ldk (k := 1) (Sub.refl _) (O495.all 0 rfl) (T_ward_Ward.g1 e_0), _, rfl, ?_⟩
                refine ⟨Ext.refl _, ?_⟩
                refine ⟨_, rfl, rfl, ?_⟩
                refine O495.stA 4 rfl rfl (Flats.cons trivial (Flats.cons trivial (Flats.cons trivial (Flats.cons trivial (Flats.cons trivial Flats.nil))))) fun h496 O497 => ?_
                refine O497.new fun h498 x499 O500 => ?_
                refine O500.st0 5 rfl (Nat.le_of_ble_eq_true rfl) trivial fun h502 O503 => ?_
                have O504 := O503.nil (aE (tell_int .i64)) none
                have O506 := O504.nm
                exact roadref3_Fallen.l0.walk (O506.pick [0, 1, 2, 4, 3, 6, 5]).nm e_0 (show T_ward_Ward.E _ (T_ward_Ward.mk (0 : Int) (0 : Int) (0 : Int) ([] : List T_ward_Child) ([] : List Int)) [(Value.int .i64 (0 : Int)), (Value.int .i64 (0 : Int)), (Value.int .i64 (0 : Int)), (Value.slice none 0 0), (Value.slice none 0 0)] from ⟨_, _, _, _, rfl, (by exact Nat.le_refl 0), Rd.nil, (by exact Nat.le_refl 0), Rd.nil⟩) (show T_ward_Plan.E _ (T_ward_Plan.mk ([] : List Int) ([] : List Int) false) [(Value.slice none 0 0), (Value.slice none 0 0), (Value.bool false)] from ⟨_, _, _, _, rfl, (by exact Nat.le_refl 0), Rd.nil, (by exact Nat.le_refl 0), Rd.nil⟩) rfl rfl rfl e
        · refine O11.new fun h507 x508 O509 => ?_
          refine ⟨x508, ?_⟩
          refine ⟨?_, ?_⟩
          · refine ⟨_, ldk (k := 1) (Sub.refl _) (O509.all 0 rfl) (T_ward_Ward.g1 e_0), _, rfl, ?_⟩
            refine ⟨Ext.refl _, ?_⟩
            refine ⟨?_, ?_⟩
            · refine ⟨_, ldk (k := 2) (Sub.refl _) (O509.all 0 rfl) (T_ward_Ward.g2 e_0), _, rfl, ?_⟩
              refine ⟨Ext.refl _, ?_⟩
              refine O509.appE0 T_ward_Child.T rfl rfl (Rd.srcE r46 T_ward_Child.T O509.s rfl) (by decide) g19 fun A513 c514 h515 x517 O516 => ?_
              refine ⟨_, _, _, rfl, ?_⟩
              have O519 := O516.nm
              refine ⟨_, rfl, rfl, ?_⟩
              refine O519.stA 3 rfl rfl (Flats.cons trivial (Flats.cons trivial (Flats.cons trivial (Flats.cons trivial (Flats.cons trivial Flats.nil))))) fun h520 O521 => ?_
              refine O521.new fun h522 x523 O524 => ?_
              refine O524.st0 5 rfl (Nat.le_of_ble_eq_true rfl) trivial fun h526 O527 => ?_
              have O528 := O527.nil (aE (tell_int .i64)) none
              have O530 := O528.nm
              exact roadref3_Fallen.l0.walk (O530.pick [0, 1, 2, 3, 4, 6, 5]).nm e_0 (show T_ward_Ward.E _ (T_ward_Ward.mk (0 : Int) (0 : Int) (0 : Int) ([] : List T_ward_Child) ([] : List Int)) [(Value.int .i64 (0 : Int)), (Value.int .i64 (0 : Int)), (Value.int .i64 (0 : Int)), (Value.slice none 0 0), (Value.slice none 0 0)] from ⟨_, _, _, _, rfl, (by exact Nat.le_refl 0), Rd.nil, (by exact Nat.le_refl 0), Rd.nil⟩) (show T_ward_Plan.E _ (T_ward_Plan.mk ([] : List Int) ([] : List Int) false) [(Value.slice none 0 0), (Value.slice none 0 0), (Value.bool false)] from ⟨_, _, _, _, rfl, (by exact Nat.le_refl 0), Rd.nil, (by exact Nat.le_refl 0), Rd.nil⟩) rfl rfl rfl e
            · refine O509.appE0 T_ward_Child.T rfl rfl (Rd.srcE r46 T_ward_Child.T O509.s rfl) (by decide) g19 fun A533 c534 h535 x537 O536 => ?_
              refine ⟨_, _, _, rfl, ?_⟩
              have O539 := O536.nm
              refine ⟨_, ldk (k := 2) (Sub.refl _) (O539.all 0 rfl) (T_ward_Ward.g2 e_0), _, rfl, ?_⟩
              refine ⟨Ext.refl _, ?_⟩
              refine ⟨_, rfl, rfl, ?_⟩
              refine O539.stA 3 rfl rfl (Flats.cons trivial (Flats.cons trivial (Flats.cons trivial (Flats.cons trivial (Flats.cons trivial Flats.nil))))) fun h540 O541 => ?_
              refine O541.new fun h542 x543 O544 => ?_
              refine O544.st0 5 rfl (Nat.le_of_ble_eq_true rfl) trivial fun h546 O547 => ?_
              have O548 := O547.nil (aE (tell_int .i64)) none
              have O550 := O548.nm
              exact roadref3_Fallen.l0.walk (O550.pick [0, 1, 2, 3, 4, 6, 5]).nm e_0 (show T_ward_Ward.E _ (T_ward_Ward.mk (0 : Int) (0 : Int) (0 : Int) ([] : List T_ward_Child) ([] : List Int)) [(Value.int .i64 (0 : Int)), (Value.int .i64 (0 : Int)), (Value.int .i64 (0 : Int)), (Value.slice none 0 0), (Value.slice none 0 0)] from ⟨_, _, _, _, rfl, (by exact Nat.le_refl 0), Rd.nil, (by exact Nat.le_refl 0), Rd.nil⟩) (show T_ward_Plan.E _ (T_ward_Plan.mk ([] : List Int) ([] : List Int) false) [(Value.slice none 0 0), (Value.slice none 0 0), (Value.bool false)] from ⟨_, _, _, _, rfl, (by exact Nat.le_refl 0), Rd.nil, (by exact Nat.le_refl 0), Rd.nil⟩) rfl rfl rfl e
          · refine ⟨?_, ?_⟩
            · refine ⟨_, ldk (k := 2) (Sub.refl _) (O509.all 0 rfl) (T_ward_Ward.g2 e_0), _, rfl, ?_⟩
              refine ⟨Ext.refl _, ?_⟩
              refine ⟨?_, ?_⟩
              · refine ⟨_, ldk (k := 1) (Sub.refl _) (O509.all 0 rfl) (T_ward_Ward.g1 e_0), _, rfl, ?_⟩
                refine ⟨Ext.refl _, ?_⟩
                refine O509.appE0 T_ward_Child.T rfl rfl (Rd.srcE r46 T_ward_Child.T O509.s rfl) (by decide) g19 fun A553 c554 h555 x557 O556 => ?_
                refine ⟨_, _, _, rfl, ?_⟩
                have O559 := O556.nm
                refine ⟨_, rfl, rfl, ?_⟩
                refine O559.stA 3 rfl rfl (Flats.cons trivial (Flats.cons trivial (Flats.cons trivial (Flats.cons trivial (Flats.cons trivial Flats.nil))))) fun h560 O561 => ?_
                refine O561.new fun h562 x563 O564 => ?_
                refine O564.st0 5 rfl (Nat.le_of_ble_eq_true rfl) trivial fun h566 O567 => ?_
                have O568 := O567.nil (aE (tell_int .i64)) none
                have O570 := O568.nm
                exact roadref3_Fallen.l0.walk (O570.pick [0, 1, 2, 3, 4, 6, 5]).nm e_0 (show T_ward_Ward.E _ (T_ward_Ward.mk (0 : Int) (0 : Int) (0 : Int) ([] : List T_ward_Child) ([] : List Int)) [(Value.int .i64 (0 : Int)), (Value.int .i64 (0 : Int)), (Value.int .i64 (0 : Int)), (Value.slice none 0 0), (Value.slice none 0 0)] from ⟨_, _, _, _, rfl, (by exact Nat.le_refl 0), Rd.nil, (by exact Nat.le_refl 0), Rd.nil⟩) (show T_ward_Plan.E _ (T_ward_Plan.mk ([] : List Int) ([] : List Int) false) [(Value.slice none 0 0), (Value.slice none 0 0), (Value.bool false)] from ⟨_, _, _, _, rfl, (by exact Nat.le_refl 0), Rd.nil, (by exact Nat.le_refl 0), Rd.nil⟩) rfl rfl rfl e
              · refine O509.appE0 T_ward_Child.T rfl rfl (Rd.srcE r46 T_ward_Child.T O509.s rfl) (by decide) g19 fun A573 c574 h575 x577 O576 => ?_
                refine ⟨_, _, _, rfl, ?_⟩
                have O579 := O576.nm
                refine ⟨_, ldk (k := 1) (Sub.refl _) (O579.all 0 rfl) (T_ward_Ward.g1 e_0), _, rfl, ?_⟩
                refine ⟨Ext.refl _, ?_⟩
                refine ⟨_, rfl, rfl, ?_⟩
                refine O579.stA 3 rfl rfl (Flats.cons trivial (Flats.cons trivial (Flats.cons trivial (Flats.cons trivial (Flats.cons trivial Flats.nil))))) fun h580 O581 => ?_
                refine O581.new fun h582 x583 O584 => ?_
                refine O584.st0 5 rfl (Nat.le_of_ble_eq_true rfl) trivial fun h586 O587 => ?_
                have O588 := O587.nil (aE (tell_int .i64)) none
                have O590 := O588.nm
                exact roadref3_Fallen.l0.walk (O590.pick [0, 1, 2, 3, 4, 6, 5]).nm e_0 (show T_ward_Ward.E _ (T_ward_Ward.mk (0 : Int) (0 : Int) (0 : Int) ([] : List T_ward_Child) ([] : List Int)) [(Value.int .i64 (0 : Int)), (Value.int .i64 (0 : Int)), (Value.int .i64 (0 : Int)), (Value.slice none 0 0), (Value.slice none 0 0)] from ⟨_, _, _, _, rfl, (by exact Nat.le_refl 0), Rd.nil, (by exact Nat.le_refl 0), Rd.nil⟩) (show T_ward_Plan.E _ (T_ward_Plan.mk ([] : List Int) ([] : List Int) false) [(Value.slice none 0 0), (Value.slice none 0 0), (Value.bool false)] from ⟨_, _, _, _, rfl, (by exact Nat.le_refl 0), Rd.nil, (by exact Nat.le_refl 0), Rd.nil⟩) rfl rfl rfl e
            · refine O509.appE0 T_ward_Child.T rfl rfl (Rd.srcE r46 T_ward_Child.T O509.s rfl) (by decide) g19 fun A593 c594 h595 x597 O596 => ?_
              refine ⟨_, _, _, rfl, ?_⟩
              refine ⟨?_, ?_⟩
              · have O599 := O596.nm
                refine ⟨_, ldk (k := 1) (Sub.refl _) (O599.all 0 rfl) (T_ward_Ward.g1 e_0), _, rfl, ?_⟩
                refine ⟨Ext.refl _, ?_⟩
                refine ⟨_, ldk (k := 2) (Sub.refl _) (O599.all 0 rfl) (T_ward_Ward.g2 e_0), _, rfl, ?_⟩
                refine ⟨Ext.refl _, ?_⟩
                refine ⟨_, rfl, rfl, ?_⟩
                refine O599.stA 3 rfl rfl (Flats.cons trivial (Flats.cons trivial (Flats.cons trivial (Flats.cons trivial (Flats.cons trivial Flats.nil))))) fun h600 O601 => ?_
                refine O601.new fun h602 x603 O604 => ?_
                refine O604.st0 5 rfl (Nat.le_of_ble_eq_true rfl) trivial fun h606 O607 => ?_
                have O608 := O607.nil (aE (tell_int .i64)) none
                have O610 := O608.nm
                exact roadref3_Fallen.l0.walk (O610.pick [0, 1, 2, 3, 4, 6, 5]).nm e_0 (show T_ward_Ward.E _ (T_ward_Ward.mk (0 : Int) (0 : Int) (0 : Int) ([] : List T_ward_Child) ([] : List Int)) [(Value.int .i64 (0 : Int)), (Value.int .i64 (0 : Int)), (Value.int .i64 (0 : Int)), (Value.slice none 0 0), (Value.slice none 0 0)] from ⟨_, _, _, _, rfl, (by exact Nat.le_refl 0), Rd.nil, (by exact Nat.le_refl 0), Rd.nil⟩) (show T_ward_Plan.E _ (T_ward_Plan.mk ([] : List Int) ([] : List Int) false) [(Value.slice none 0 0), (Value.slice none 0 0), (Value.bool false)] from ⟨_, _, _, _, rfl, (by exact Nat.le_refl 0), Rd.nil, (by exact Nat.le_refl 0), Rd.nil⟩) rfl rfl rfl e
              · have O611 := O596.nm
                refine ⟨_, ldk (k := 2) (Sub.refl _) (O611.all 0 rfl) (T_ward_Ward.g2 e_0), _, rfl, ?_⟩
                refine ⟨Ext.refl _, ?_⟩
                refine ⟨_, ldk (k := 1) (Sub.refl _) (O611.all 0 rfl) (T_ward_Ward.g1 e_0), _, rfl, ?_⟩
                refine ⟨Ext.refl _, ?_⟩
                refine ⟨_, rfl, rfl, ?_⟩
                refine O611.stA 3 rfl rfl (Flats.cons trivial (Flats.cons trivial (Flats.cons trivial (Flats.cons trivial (Flats.cons trivial Flats.nil))))) fun h612 O613 => ?_
                refine O613.new fun h614 x615 O616 => ?_
                refine O616.st0 5 rfl (Nat.le_of_ble_eq_true rfl) trivial fun h618 O619 => ?_
                have O620 := O619.nil (aE (tell_int .i64)) none
                have O622 := O620.nm
                exact roadref3_Fallen.l0.walk (O622.pick [0, 1, 2, 3, 4, 6, 5]).nm e_0 (show T_ward_Ward.E _ (T_ward_Ward.mk (0 : Int) (0 : Int) (0 : Int) ([] : List T_ward_Child) ([] : List Int)) [(Value.int .i64 (0 : Int)), (Value.int .i64 (0 : Int)), (Value.int .i64 (0 : Int)), (Value.slice none 0 0), (Value.slice none 0 0)] from ⟨_, _, _, _, rfl, (by exact Nat.le_refl 0), Rd.nil, (by exact Nat.le_refl 0), Rd.nil⟩) (show T_ward_Plan.E _ (T_ward_Plan.mk ([] : List Int) ([] : List Int) false) [(Value.slice none 0 0), (Value.slice none 0 0), (Value.bool false)] from ⟨_, _, _, _, rfl, (by exact Nat.le_refl 0), Rd.nil, (by exact Nat.le_refl 0), Rd.nil⟩) rfl rfl rfl e
  · refine ⟨?_, ?_⟩
    · refine ⟨_, ldk (k := 1) (Sub.refl _) (O11.all 0 rfl) (T_ward_Ward.g1 e_0), _, rfl, ?_⟩
      refine ⟨Ext.refl _, ?_⟩
      refine ⟨?_, ?_⟩
      · refine ⟨_, ld0 (Sub.refl _) (O11.all 0 rfl) (T_ward_Ward.g0 e_0), _, rfl, ?_⟩
        refine ⟨Ext.refl _, ?_⟩
        refine ⟨?_, ?_⟩
        · refine ⟨_, ldk (k := 2) (Sub.refl _) (O11.all 0 rfl) (T_ward_Ward.g2 e_0), _, rfl, ?_⟩
          refine ⟨Ext.refl _, ?_⟩
          refine ⟨?_, ?_⟩
          · refine O11.appE0 T_ward_Child.T rfl rfl (Rd.srcE r46 T_ward_Child.T O11.s rfl) (by decide) g19 fun A625 c626 h627 x629 O628 => ?_
            refine ⟨_, _, _, rfl, ?_⟩
            refine ⟨?_, ?_⟩
            · refine O628.new fun h631 x632 O633 => ?_
              refine ⟨x632, ?_⟩
              have O635 := O633.nm
              refine ⟨_, rfl, rfl, ?_⟩
              refine O635.stA 4 rfl rfl (Flats.cons trivial (Flats.cons trivial (Flats.cons trivial (Flats.cons trivial (Flats.cons trivial Flats.nil))))) fun h636 O637 => ?_
              refine O637.new fun h638 x639 O640 => ?_
              refine O640.st0 5 rfl (Nat.le_of_ble_eq_true rfl) trivial fun h642 O643 => ?_
              have O644 := O643.nil (aE (tell_int .i64)) none
              have O646 := O644.nm
              exact roadref3_Fallen.l0.walk (O646.pick [0, 1, 2, 4, 3, 6, 5]).nm e_0 (show T_ward_Ward.E _ (T_ward_Ward.mk (0 : Int) (0 : Int) (0 : Int) ([] : List T_ward_Child) ([] : List Int)) [(Value.int .i64 (0 : Int)), (Value.int .i64 (0 : Int)), (Value.int .i64 (0 : Int)), (Value.slice none 0 0), (Value.slice none 0 0)] from ⟨_, _, _, _, rfl, (by exact Nat.le_refl 0), Rd.nil, (by exact Nat.le_refl 0), Rd.nil⟩) (show T_ward_Plan.E _ (T_ward_Plan.mk ([] : List Int) ([] : List Int) false) [(Value.slice none 0 0), (Value.slice none 0 0), (Value.bool false)] from ⟨_, _, _, _, rfl, (by exact Nat.le_refl 0), Rd.nil, (by exact Nat.le_refl 0), Rd.nil⟩) rfl rfl rfl e
            · refine O628.new fun h647 x648 O649 => ?_
              refine ⟨x648, ?_⟩
              have O651 := O649.nm
              refine ⟨_, rfl, rfl, ?_⟩
              refine O651.stA 4 rfl rfl (Flats.cons trivial (Flats.cons trivial (Flats.cons trivial (Flats.cons trivial (Flats.cons trivial Flats.nil))))) fun h652 O653 => ?_
              refine O653.new fun h654 x655 O656 => ?_
              refine O656.st0 5 rfl (Nat.le_of_ble_eq_true rfl) trivial fun h658 O659 => ?_
              have O660 := O659.nil (aE (tell_int .i64)) none
              have O662 := O660.nm
              exact roadref3_Fallen.l0.walk (O662.pick [0, 1, 2, 4, 3, 6, 5]).nm e_0 (show T_ward_Ward.E _ (T_ward_Ward.mk (0 : Int) (0 : Int) (0 : Int) ([] : List T_ward_Child) ([] : List Int)) [(Value.int .i64 (0 : Int)), (Value.int .i64 (0 : Int)), (Value.int .i64 (0 : Int)), (Value.slice none 0 0), (Value.slice none 0 0)] from ⟨_, _, _, _, rfl, (by exact Nat.le_refl 0), Rd.nil, (by exact Nat.le_refl 0), Rd.nil⟩) (show T_ward_Plan.E _ (T_ward_Plan.mk ([] : List Int) ([] : List Int) false) [(Value.slice none 0 0), (Value.slice none 0 0), (Value.bool false)] from ⟨_, _, _, _, rfl, (by exact Nat.le_refl 0), Rd.nil, (by exact Nat.le_refl 0), Rd.nil⟩) rfl rfl rfl e
          · refine O11.new fun h663 x664 O665 => ?_
            refine ⟨x664, ?_⟩
            refine O665.appE0 T_ward_Child.T rfl rfl (Rd.srcE r46 T_ward_Child.T O665.s rfl) (by decide) g19 fun A669 c670 h671 x673 O672 => ?_
            refine ⟨_, _, _, rfl, ?_⟩
            have O675 := O672.nm
            refine ⟨_, rfl, rfl, ?_⟩
            refine O675.stA 3 rfl rfl (Flats.cons trivial (Flats.cons trivial (Flats.cons trivial (Flats.cons trivial (Flats.cons trivial Flats.nil))))) fun h676 O677 => ?_
            refine O677.new fun h678 x679 O680 => ?_
            refine O680.st0 5 rfl (Nat.le_of_ble_eq_true rfl) trivial fun h682 O683 => ?_
            have O684 := O683.nil (aE (tell_int .i64)) none
            have O686 := O684.nm
            exact roadref3_Fallen.l0.walk (O686.pick [0, 1, 2, 3, 4, 6, 5]).nm e_0 (show T_ward_Ward.E _ (T_ward_Ward.mk (0 : Int) (0 : Int) (0 : Int) ([] : List T_ward_Child) ([] : List Int)) [(Value.int .i64 (0 : Int)), (Value.int .i64 (0 : Int)), (Value.int .i64 (0 : Int)), (Value.slice none 0 0), (Value.slice none 0 0)] from ⟨_, _, _, _, rfl, (by exact Nat.le_refl 0), Rd.nil, (by exact Nat.le_refl 0), Rd.nil⟩) (show T_ward_Plan.E _ (T_ward_Plan.mk ([] : List Int) ([] : List Int) false) [(Value.slice none 0 0), (Value.slice none 0 0), (Value.bool false)] from ⟨_, _, _, _, rfl, (by exact Nat.le_refl 0), Rd.nil, (by exact Nat.le_refl 0), Rd.nil⟩) rfl rfl rfl e
        · refine ⟨?_, ?_⟩
          · refine O11.appE0 T_ward_Child.T rfl rfl (Rd.srcE r46 T_ward_Child.T O11.s rfl) (by decide) g19 fun A689 c690 h691 x693 O692 => ?_
            refine ⟨_, _, _, rfl, ?_⟩
            refine ⟨?_, ?_⟩
            · refine ⟨_, ldk (k := 2) (Sub.refl _) (O692.all 0 rfl) (T_ward_Ward.g2 e_0), _, rfl, ?_⟩
              refine ⟨Ext.refl _, ?_⟩
              refine ⟨?_, ?_⟩
              · refine O692.new fun h695 x696 O697 => ?_
                refine ⟨x696, ?_⟩
                have O699 := O697.nm
                refine ⟨_, rfl, rfl, ?_⟩
                refine O699.stA 4 rfl rfl (Flats.cons trivial (Flats.cons trivial (Flats.cons trivial (Flats.cons trivial (Flats.cons trivial Flats.nil))))) fun h700 O701 => ?_
                refine O701.new fun h702 x703 O704 => ?_
                refine O704.st0 5 rfl (Nat.le_of_ble_eq_true rfl) trivial fun h706 O707 => ?_
                have O708 := O707.nil (aE (tell_int .i64)) none
                have O710 := O708.nm
                exact roadref3_Fallen.l0.walk (O710.pick [0, 1, 2, 4, 3, 6, 5]).nm e_0 (show T_ward_Ward.E _ (T_ward_Ward.mk (0 : Int) (0 : Int) (0 : Int) ([] : List T_ward_Child) ([] : List Int)) [(Value.int .i64 (0 : Int)), (Value.int .i64 (0 : Int)), (Value.int .i64 (0 : Int)), (Value.slice none 0 0), (Value.slice none 0 0)] from ⟨_, _, _, _, rfl, (by exact Nat.le_refl 0), Rd.nil, (by exact Nat.le_refl 0), Rd.nil⟩) (show T_ward_Plan.E _ (T_ward_Plan.mk ([] : List Int) ([] : List Int) false) [(Value.slice none 0 0), (Value.slice none 0 0), (Value.bool false)] from ⟨_, _, _, _, rfl, (by exact Nat.le_refl 0), Rd.nil, (by exact Nat.le_refl 0), Rd.nil⟩) rfl rfl rfl e
              · refine O692.new fun h711 x712 O713 => ?_
                refine ⟨x712, ?_⟩
                have O715 := O713.nm
                refine ⟨_, rfl, rfl, ?_⟩
                refine O715.stA 4 rfl rfl (Flats.cons trivial (Flats.cons trivial (Flats.cons trivial (Flats.cons trivial (Flats.cons trivial Flats.nil))))) fun h716 O717 => ?_
                refine O717.new fun h718 x719 O720 => ?_
                refine O720.st0 5 rfl (Nat.le_of_ble_eq_true rfl) trivial fun h722 O723 => ?_
                have O724 := O723.nil (aE (tell_int .i64)) none
                have O726 := O724.nm
                exact roadref3_Fallen.l0.walk (O726.pick [0, 1, 2, 4, 3, 6, 5]).nm e_0 (show T_ward_Ward.E _ (T_ward_Ward.mk (0 : Int) (0 : Int) (0 : Int) ([] : List T_ward_Child) ([] : List Int)) [(Value.int .i64 (0 : Int)), (Value.int .i64 (0 : Int)), (Value.int .i64 (0 : Int)), (Value.slice none 0 0), (Value.slice none 0 0)] from ⟨_, _, _, _, rfl, (by exact Nat.le_refl 0), Rd.nil, (by exact Nat.le_refl 0), Rd.nil⟩) (show T_ward_Plan.E _ (T_ward_Plan.mk ([] : List Int) ([] : List Int) false) [(Value.slice none 0 0), (Value.slice none 0 0), (Value.bool false)] from ⟨_, _, _, _, rfl, (by exact Nat.le_refl 0), Rd.nil, (by exact Nat.le_refl 0), Rd.nil⟩) rfl rfl rfl e
            · refine O692.new fun h727 x728 O729 => ?_
              refine ⟨x728, ?_⟩
              have O731 := O729.nm
              refine ⟨_, ldk (k := 2) (Sub.refl _) (O731.all 0 rfl) (T_ward_Ward.g2 e_0), _, rfl, ?_⟩
              refine ⟨Ext.refl _, ?_⟩
              refine ⟨_, rfl, rfl, ?_⟩
              refine O731.stA 4 rfl rfl (Flats.cons trivial (Flats.cons trivial (Flats.cons trivial (Flats.cons trivial (Flats.cons trivial Flats.nil))))) fun h732 O733 => ?_
              refine O733.new fun h734 x735 O736 => ?_
              refine O736.st0 5 rfl (Nat.le_of_ble_eq_true rfl) trivial fun h738 O739 => ?_
              have O740 := O739.nil (aE (tell_int .i64)) none
              have O742 := O740.nm
              exact roadref3_Fallen.l0.walk (O742.pick [0, 1, 2, 4, 3, 6, 5]).nm e_0 (show T_ward_Ward.E _ (T_ward_Ward.mk (0 : Int) (0 : Int) (0 : Int) ([] : List T_ward_Child) ([] : List Int)) [(Value.int .i64 (0 : Int)), (Value.int .i64 (0 : Int)), (Value.int .i64 (0 : Int)), (Value.slice none 0 0), (Value.slice none 0 0)] from ⟨_, _, _, _, rfl, (by exact Nat.le_refl 0), Rd.nil, (by exact Nat.le_refl 0), Rd.nil⟩) (show T_ward_Plan.E _ (T_ward_Plan.mk ([] : List Int) ([] : List Int) false) [(Value.slice none 0 0), (Value.slice none 0 0), (Value.bool false)] from ⟨_, _, _, _, rfl, (by exact Nat.le_refl 0), Rd.nil, (by exact Nat.le_refl 0), Rd.nil⟩) rfl rfl rfl e
          · refine O11.new fun h743 x744 O745 => ?_
            refine ⟨x744, ?_⟩
            refine ⟨?_, ?_⟩
            · refine ⟨_, ldk (k := 2) (Sub.refl _) (O745.all 0 rfl) (T_ward_Ward.g2 e_0), _, rfl, ?_⟩
              refine ⟨Ext.refl _, ?_⟩
              refine O745.appE0 T_ward_Child.T rfl rfl (Rd.srcE r46 T_ward_Child.T O745.s rfl) (by decide) g19 fun A749 c750 h751 x753 O752 => ?_
              refine ⟨_, _, _, rfl, ?_⟩
              have O755 := O752.nm
              refine ⟨_, rfl, rfl, ?_⟩
              refine O755.stA 3 rfl rfl (Flats.cons trivial (Flats.cons trivial (Flats.cons trivial (Flats.cons trivial (Flats.cons trivial Flats.nil))))) fun h756 O757 => ?_
              refine O757.new fun h758 x759 O760 => ?_
              refine O760.st0 5 rfl (Nat.le_of_ble_eq_true rfl) trivial fun h762 O763 => ?_
              have O764 := O763.nil (aE (tell_int .i64)) none
              have O766 := O764.nm
              exact roadref3_Fallen.l0.walk (O766.pick [0, 1, 2, 3, 4, 6, 5]).nm e_0 (show T_ward_Ward.E _ (T_ward_Ward.mk (0 : Int) (0 : Int) (0 : Int) ([] : List T_ward_Child) ([] : List Int)) [(Value.int .i64 (0 : Int)), (Value.int .i64 (0 : Int)), (Value.int .i64 (0 : Int)), (Value.slice none 0 0), (Value.slice none 0 0)] from ⟨_, _, _, _, rfl, (by exact Nat.le_refl 0), Rd.nil, (by exact Nat.le_refl 0), Rd.nil⟩) (show T_ward_Plan.E _ (T_ward_Plan.mk ([] : List Int) ([] : List Int) false) [(Value.slice none 0 0), (Value.slice none 0 0), (Value.bool false)] from ⟨_, _, _, _, rfl, (by exact Nat.le_refl 0), Rd.nil, (by exact Nat.le_refl 0), Rd.nil⟩) rfl rfl rfl e
            · refine O745.appE0 T_ward_Child.T rfl rfl (Rd.srcE r46 T_ward_Child.T O745.s rfl) (by decide) g19 fun A769 c770 h771 x773 O772 => ?_
              refine ⟨_, _, _, rfl, ?_⟩
              have O775 := O772.nm
              refine ⟨_, ldk (k := 2) (Sub.refl _) (O775.all 0 rfl) (T_ward_Ward.g2 e_0), _, rfl, ?_⟩
              refine ⟨Ext.refl _, ?_⟩
              refine ⟨_, rfl, rfl, ?_⟩
              refine O775.stA 3 rfl rfl (Flats.cons trivial (Flats.cons trivial (Flats.cons trivial (Flats.cons trivial (Flats.cons trivial Flats.nil))))) fun h776 O777 => ?_
              refine O777.new fun h778 x779 O780 => ?_
              refine O780.st0 5 rfl (Nat.le_of_ble_eq_true rfl) trivial fun h782 O783 => ?_
              have O784 := O783.nil (aE (tell_int .i64)) none
              have O786 := O784.nm
              exact roadref3_Fallen.l0.walk (O786.pick [0, 1, 2, 3, 4, 6, 5]).nm e_0 (show T_ward_Ward.E _ (T_ward_Ward.mk (0 : Int) (0 : Int) (0 : Int) ([] : List T_ward_Child) ([] : List Int)) [(Value.int .i64 (0 : Int)), (Value.int .i64 (0 : Int)), (Value.int .i64 (0 : Int)), (Value.slice none 0 0), (Value.slice none 0 0)] from ⟨_, _, _, _, rfl, (by exact Nat.le_refl 0), Rd.nil, (by exact Nat.le_refl 0), Rd.nil⟩) (show T_ward_Plan.E _ (T_ward_Plan.mk ([] : List Int) ([] : List Int) false) [(Value.slice none 0 0), (Value.slice none 0 0), (Value.bool false)] from ⟨_, _, _, _, rfl, (by exact Nat.le_refl 0), Rd.nil, (by exact Nat.le_refl 0), Rd.nil⟩) rfl rfl rfl e
      · refine ⟨?_, ?_⟩
        · refine ⟨_, ldk (k := 2) (Sub.refl _) (O11.all 0 rfl) (T_ward_Ward.g2 e_0), _, rfl, ?_⟩
          refine ⟨Ext.refl _, ?_⟩
          refine ⟨?_, ?_⟩
          · refine ⟨_, ld0 (Sub.refl _) (O11.all 0 rfl) (T_ward_Ward.g0 e_0), _, rfl, ?_⟩
            refine ⟨Ext.refl _, ?_⟩
            refine ⟨?_, ?_⟩
            · refine O11.appE0 T_ward_Child.T rfl rfl (Rd.srcE r46 T_ward_Child.T O11.s rfl) (by decide) g19 fun A789 c790 h791 x793 O792 => ?_
              refine ⟨_, _, _, rfl, ?_⟩
              refine ⟨?_, ?_⟩
              · refine O792.new fun h795 x796 O797 => ?_
                refine ⟨x796, ?_⟩
                have O799 := O797.nm
                refine ⟨_, rfl, rfl, ?_⟩
                refine O799.stA 4 rfl rfl (Flats.cons trivial (Flats.cons trivial (Flats.cons trivial (Flats.cons trivial (Flats.cons trivial Flats.nil))))) fun h800 O801 => ?_
                refine O801.new fun h802 x803 O804 => ?_
                refine O804.st0 5 rfl (Nat.le_of_ble_eq_true rfl) trivial fun h806 O807 => ?_
                have O808 := O807.nil (aE (tell_int .i64)) none
                have O810 := O808.nm
                exact roadref3_Fallen.l0.walk (O810.pick [0, 1, 2, 4, 3, 6, 5]).nm e_0 (show T_ward_Ward.E _ (T_ward_Ward.mk (0 : Int) (0 : Int) (0 : Int) ([] : List T_ward_Child) ([] : List Int)) [(Value.int .i64 (0 : Int)), (Value.int .i64 (0 : Int)), (Value.int .i64 (0 : Int)), (Value.slice none 0 0), (Value.slice none 0 0)] from ⟨_, _, _, _, rfl, (by exact Nat.le_refl 0), Rd.nil, (by exact Nat.le_refl 0), Rd.nil⟩) (show T_ward_Plan.E _ (T_ward_Plan.mk ([] : List Int) ([] : List Int) false) [(Value.slice none 0 0), (Value.slice none 0 0), (Value.bool false)] from ⟨_, _, _, _, rfl, (by exact Nat.le_refl 0), Rd.nil, (by exact Nat.le_refl 0), Rd.nil⟩) rfl rfl rfl e
              · refine O792.new fun h811 x812 O813 => ?_
                refine ⟨x812, ?_⟩
                have O815 := O813.nm
                refine ⟨_, rfl, rfl, ?_⟩
                refine O815.stA 4 rfl rfl (Flats.cons trivial (Flats.cons trivial (Flats.cons trivial (Flats.cons trivial (Flats.cons trivial Flats.nil))))) fun h816 O817 => ?_
                refine O817.new fun h818 x819 O820 => ?_
                refine O820.st0 5 rfl (Nat.le_of_ble_eq_true rfl) trivial fun h822 O823 => ?_
                have O824 := O823.nil (aE (tell_int .i64)) none
                have O826 := O824.nm
                exact roadref3_Fallen.l0.walk (O826.pick [0, 1, 2, 4, 3, 6, 5]).nm e_0 (show T_ward_Ward.E _ (T_ward_Ward.mk (0 : Int) (0 : Int) (0 : Int) ([] : List T_ward_Child) ([] : List Int)) [(Value.int .i64 (0 : Int)), (Value.int .i64 (0 : Int)), (Value.int .i64 (0 : Int)), (Value.slice none 0 0), (Value.slice none 0 0)] from ⟨_, _, _, _, rfl, (by exact Nat.le_refl 0), Rd.nil, (by exact Nat.le_refl 0), Rd.nil⟩) (show T_ward_Plan.E _ (T_ward_Plan.mk ([] : List Int) ([] : List Int) false) [(Value.slice none 0 0), (Value.slice none 0 0), (Value.bool false)] from ⟨_, _, _, _, rfl, (by exact Nat.le_refl 0), Rd.nil, (by exact Nat.le_refl 0), Rd.nil⟩) rfl rfl rfl e
            · refine O11.new fun h827 x828 O829 => ?_
              refine ⟨x828, ?_⟩
              refine O829.appE0 T_ward_Child.T rfl rfl (Rd.srcE r46 T_ward_Child.T O829.s rfl) (by decide) g19 fun A833 c834 h835 x837 O836 => ?_
              refine ⟨_, _, _, rfl, ?_⟩
              have O839 := O836.nm
              refine ⟨_, rfl, rfl, ?_⟩
              refine O839.stA 3 rfl rfl (Flats.cons trivial (Flats.cons trivial (Flats.cons trivial (Flats.cons trivial (Flats.cons trivial Flats.nil))))) fun h840 O841 => ?_
              refine O841.new fun h842 x843 O844 => ?_
              refine O844.st0 5 rfl (Nat.le_of_ble_eq_true rfl) trivial fun h846 O847 => ?_
              have O848 := O847.nil (aE (tell_int .i64)) none
              have O850 := O848.nm
              exact roadref3_Fallen.l0.walk (O850.pick [0, 1, 2, 3, 4, 6, 5]).nm e_0 (show T_ward_Ward.E _ (T_ward_Ward.mk (0 : Int) (0 : Int) (0 : Int) ([] : List T_ward_Child) ([] : List Int)) [(Value.int .i64 (0 : Int)), (Value.int .i64 (0 : Int)), (Value.int .i64 (0 : Int)), (Value.slice none 0 0), (Value.slice none 0 0)] from ⟨_, _, _, _, rfl, (by exact Nat.le_refl 0), Rd.nil, (by exact Nat.le_refl 0), Rd.nil⟩) (show T_ward_Plan.E _ (T_ward_Plan.mk ([] : List Int) ([] : List Int) false) [(Value.slice none 0 0), (Value.slice none 0 0), (Value.bool false)] from ⟨_, _, _, _, rfl, (by exact Nat.le_refl 0), Rd.nil, (by exact Nat.le_refl 0), Rd.nil⟩) rfl rfl rfl e
          · refine ⟨?_, ?_⟩
            · refine O11.appE0 T_ward_Child.T rfl rfl (Rd.srcE r46 T_ward_Child.T O11.s rfl) (by decide) g19 fun A853 c854 h855 x857 O856 => ?_
              refine ⟨_, _, _, rfl, ?_⟩
              refine ⟨?_, ?_⟩
              · refine ⟨_, ld0 (Sub.refl _) (O856.all 0 rfl) (T_ward_Ward.g0 e_0), _, rfl, ?_⟩
                refine ⟨Ext.refl _, ?_⟩
                refine ⟨?_, ?_⟩
                · refine O856.new fun h859 x860 O861 => ?_
                  refine ⟨x860, ?_⟩
                  have O863 := O861.nm
                  refine ⟨_, rfl, rfl, ?_⟩
                  refine O863.stA 4 rfl rfl (Flats.cons trivial (Flats.cons trivial (Flats.cons trivial (Flats.cons trivial (Flats.cons trivial Flats.nil))))) fun h864 O865 => ?_
                  refine O865.new fun h866 x867 O868 => ?_
                  refine O868.st0 5 rfl (Nat.le_of_ble_eq_true rfl) trivial fun h870 O871 => ?_
                  have O872 := O871.nil (aE (tell_int .i64)) none
                  have O874 := O872.nm
                  exact roadref3_Fallen.l0.walk (O874.pick [0, 1, 2, 4, 3, 6, 5]).nm e_0 (show T_ward_Ward.E _ (T_ward_Ward.mk (0 : Int) (0 : Int) (0 : Int) ([] : List T_ward_Child) ([] : List Int)) [(Value.int .i64 (0 : Int)), (Value.int .i64 (0 : Int)), (Value.int .i64 (0 : Int)), (Value.slice none 0 0), (Value.slice none 0 0)] from ⟨_, _, _, _, rfl, (by exact Nat.le_refl 0), Rd.nil, (by exact Nat.le_refl 0), Rd.nil⟩) (show T_ward_Plan.E _ (T_ward_Plan.mk ([] : List Int) ([] : List Int) false) [(Value.slice none 0 0), (Value.slice none 0 0), (Value.bool false)] from ⟨_, _, _, _, rfl, (by exact Nat.le_refl 0), Rd.nil, (by exact Nat.le_refl 0), Rd.nil⟩) rfl rfl rfl e
                · refine O856.new fun h875 x876 O877 => ?_
                  refine ⟨x876, ?_⟩
                  have O879 := O877.nm
                  refine ⟨_, rfl, rfl, ?_⟩
                  refine O879.stA 4 rfl rfl (Flats.cons trivial (Flats.cons trivial (Flats.cons trivial (Flats.cons trivial (Flats.cons trivial Flats.nil))))) fun h880 O881 => ?_
                  refine O881.new fun h882 x883 O884 => ?_
                  refine O884.st0 5 rfl (Nat.le_of_ble_eq_true rfl) trivial fun h886 O887 => ?_
                  have O888 := O887.nil (aE (tell_int .i64)) none
                  have O890 := O888.nm
                  exact roadref3_Fallen.l0.walk (O890.pick [0, 1, 2, 4, 3, 6, 5]).nm e_0 (show T_ward_Ward.E _ (T_ward_Ward.mk (0 : Int) (0 : Int) (0 : Int) ([] : List T_ward_Child) ([] : List Int)) [(Value.int .i64 (0 : Int)), (Value.int .i64 (0 : Int)), (Value.int .i64 (0 : Int)), (Value.slice none 0 0), (Value.slice none 0 0)] from ⟨_, _, _, _, rfl, (by exact Nat.le_refl 0), Rd.nil, (by exact Nat.le_refl 0), Rd.nil⟩) (show T_ward_Plan.E _ (T_ward_Plan.mk ([] : List Int) ([] : List Int) false) [(Value.slice none 0 0), (Value.slice none 0 0), (Value.bool false)] from ⟨_, _, _, _, rfl, (by exact Nat.le_refl 0), Rd.nil, (by exact Nat.le_refl 0), Rd.nil⟩) rfl rfl rfl e
              · refine O856.new fun h891 x892 O893 => ?_
                refine ⟨x892, ?_⟩
                have O895 := O893.nm
                refine ⟨_, ld0 (Sub.refl _) (O895.all 0 rfl) (T_ward_Ward.g0 e_0), _, rfl, ?_⟩
                refine ⟨Ext.refl _, ?_⟩
                refine ⟨_, rfl, rfl, ?_⟩
                refine O895.stA 4 rfl rfl (Flats.cons trivial (Flats.cons trivial (Flats.cons trivial (Flats.cons trivial (Flats.cons trivial Flats.nil))))) fun h896 O897 => ?_
                refine O897.new fun h898 x899 O900 => ?_
                refine O900.st0 5 rfl (Nat.le_of_ble_eq_true rfl) trivial fun h902 O903 => ?_
                have O904 := O903.nil (aE (tell_int .i64)) none
                have O906 := O904.nm
                exact roadref3_Fallen.l0.walk (O906.pick [0, 1, 2, 4, 3, 6, 5]).nm e_0 (show T_ward_Ward.E _ (T_ward_Ward.mk (0 : Int) (0 : Int) (0 : Int) ([] : List T_ward_Child) ([] : List Int)) [(Value.int .i64 (0 : Int)), (Value.int .i64 (0 : Int)), (Value.int .i64 (0 : Int)), (Value.slice none 0 0), (Value.slice none 0 0)] from ⟨_, _, _, _, rfl, (by exact Nat.le_refl 0), Rd.nil, (by exact Nat.le_refl 0), Rd.nil⟩) (show T_ward_Plan.E _ (T_ward_Plan.mk ([] : List Int) ([] : List Int) false) [(Value.slice none 0 0), (Value.slice none 0 0), (Value.bool false)] from ⟨_, _, _, _, rfl, (by exact Nat.le_refl 0), Rd.nil, (by exact Nat.le_refl 0), Rd.nil⟩) rfl rfl rfl e
            · refine O11.new fun h907 x908 O909 => ?_
              refine ⟨x908, ?_⟩
              refine ⟨?_, ?_⟩
              · refine ⟨_, ld0 (Sub.refl _) (O909.all 0 rfl) (T_ward_Ward.g0 e_0), _, rfl, ?_⟩
                refine ⟨Ext.refl _, ?_⟩
                refine O909.appE0 T_ward_Child.T rfl rfl (Rd.srcE r46 T_ward_Child.T O909.s rfl) (by decide) g19 fun A913 c914 h915 x917 O916 => ?_
                refine ⟨_, _, _, rfl, ?_⟩
                have O919 := O916.nm
                refine ⟨_, rfl, rfl, ?_⟩
                refine O919.stA 3 rfl rfl (Flats.cons trivial (Flats.cons trivial (Flats.cons trivial (Flats.cons trivial (Flats.cons trivial Flats.nil))))) fun h920 O921 => ?_
                refine O921.new fun h922 x923 O924 => ?_
                refine O924.st0 5 rfl (Nat.le_of_ble_eq_true rfl) trivial fun h926 O927 => ?_
                have O928 := O927.nil (aE (tell_int .i64)) none
                have O930 := O928.nm
                exact roadref3_Fallen.l0.walk (O930.pick [0, 1, 2, 3, 4, 6, 5]).nm e_0 (show T_ward_Ward.E _ (T_ward_Ward.mk (0 : Int) (0 : Int) (0 : Int) ([] : List T_ward_Child) ([] : List Int)) [(Value.int .i64 (0 : Int)), (Value.int .i64 (0 : Int)), (Value.int .i64 (0 : Int)), (Value.slice none 0 0), (Value.slice none 0 0)] from ⟨_, _, _, _, rfl, (by exact Nat.le_refl 0), Rd.nil, (by exact Nat.le_refl 0), Rd.nil⟩) (show T_ward_Plan.E _ (T_ward_Plan.mk ([] : List Int) ([] : List Int) false) [(Value.slice none 0 0), (Value.slice none 0 0), (Value.bool false)] from ⟨_, _, _, _, rfl, (by exact Nat.le_refl 0), Rd.nil, (by exact Nat.le_refl 0), Rd.nil⟩) rfl rfl rfl e
              · refine O909.appE0 T_ward_Child.T rfl rfl (Rd.srcE r46 T_ward_Child.T O909.s rfl) (by decide) g19 fun A933 c934 h935 x937 O936 => ?_
                refine ⟨_, _, _, rfl, ?_⟩
                have O939 := O936.nm
                refine ⟨_, ld0 (Sub.refl _) (O939.all 0 rfl) (T_ward_Ward.g0 e_0), _, rfl, ?_⟩
                refine ⟨Ext.refl _, ?_⟩
                refine ⟨_, rfl, rfl, ?_⟩
                refine O939.stA 3 rfl rfl (Flats.cons trivial (Flats.cons trivial (Flats.cons trivial (Flats.cons trivial (Flats.cons trivial Flats.nil))))) fun h940 O941 => ?_
                refine O941.new fun h942 x943 O944 => ?_
                refine O944.st0 5 rfl (Nat.le_of_ble_eq_true rfl) trivial fun h946 O947 => ?_
                have O948 := O947.nil (aE (tell_int .i64)) none
                have O950 := O948.nm
                exact roadref3_Fallen.l0.walk (O950.pick [0, 1, 2, 3, 4, 6, 5]).nm e_0 (show T_ward_Ward.E _ (T_ward_Ward.mk (0 : Int) (0 : Int) (0 : Int) ([] : List T_ward_Child) ([] : List Int)) [(Value.int .i64 (0 : Int)), (Value.int .i64 (0 : Int)), (Value.int .i64 (0 : Int)), (Value.slice none 0 0), (Value.slice none 0 0)] from ⟨_, _, _, _, rfl, (by exact Nat.le_refl 0), Rd.nil, (by exact Nat.le_refl 0), Rd.nil⟩) (show T_ward_Plan.E _ (T_ward_Plan.mk ([] : List Int) ([] : List Int) false) [(Value.slice none 0 0), (Value.slice none 0 0), (Value.bool false)] from ⟨_, _, _, _, rfl, (by exact Nat.le_refl 0), Rd.nil, (by exact Nat.le_refl 0), Rd.nil⟩) rfl rfl rfl e
        · refine ⟨?_, ?_⟩
          · refine O11.appE0 T_ward_Child.T rfl rfl (Rd.srcE r46 T_ward_Child.T O11.s rfl) (by decide) g19 fun A953 c954 h955 x957 O956 => ?_
            refine ⟨_, _, _, rfl, ?_⟩
            refine ⟨?_, ?_⟩
            · refine ⟨_, ld0 (Sub.refl _) (O956.all 0 rfl) (T_ward_Ward.g0 e_0), _, rfl, ?_⟩
              refine ⟨Ext.refl _, ?_⟩
              refine ⟨?_, ?_⟩
              · refine ⟨_, ldk (k := 2) (Sub.refl _) (O956.all 0 rfl) (T_ward_Ward.g2 e_0), _, rfl, ?_⟩
                refine ⟨Ext.refl _, ?_⟩
                refine ⟨?_, ?_⟩
                · refine O956.new fun h959 x960 O961 => ?_
                  refine ⟨x960, ?_⟩
                  have O963 := O961.nm
                  refine ⟨_, rfl, rfl, ?_⟩
                  refine O963.stA 4 rfl rfl (Flats.cons trivial (Flats.cons trivial (Flats.cons trivial (Flats.cons trivial (Flats.cons trivial Flats.nil))))) fun h964 O965 => ?_
                  refine O965.new fun h966 x967 O968 => ?_
                  refine O968.st0 5 rfl (Nat.le_of_ble_eq_true rfl) trivial fun h970 O971 => ?_
                  have O972 := O971.nil (aE (tell_int .i64)) none
                  have O974 := O972.nm
                  exact roadref3_Fallen.l0.walk (O974.pick [0, 1, 2, 4, 3, 6, 5]).nm e_0 (show T_ward_Ward.E _ (T_ward_Ward.mk (0 : Int) (0 : Int) (0 : Int) ([] : List T_ward_Child) ([] : List Int)) [(Value.int .i64 (0 : Int)), (Value.int .i64 (0 : Int)), (Value.int .i64 (0 : Int)), (Value.slice none 0 0), (Value.slice none 0 0)] from ⟨_, _, _, _, rfl, (by exact Nat.le_refl 0), Rd.nil, (by exact Nat.le_refl 0), Rd.nil⟩) (show T_ward_Plan.E _ (T_ward_Plan.mk ([] : List Int) ([] : List Int) false) [(Value.slice none 0 0), (Value.slice none 0 0), (Value.bool false)] from ⟨_, _, _, _, rfl, (by exact Nat.le_refl 0), Rd.nil, (by exact Nat.le_refl 0), Rd.nil⟩) rfl rfl rfl e
                · refine O956.new fun h975 x976 O977 => ?_
                  refine ⟨x976, ?_⟩
                  have O979 := O977.nm
                  refine ⟨_, rfl, rfl, ?_⟩
                  refine O979.stA 4 rfl rfl (Flats.cons trivial (Flats.cons trivial (Flats.cons trivial (Flats.cons trivial (Flats.cons trivial Flats.nil))))) fun h980 O981 => ?_
                  refine O981.new fun h982 x983 O984 => ?_
                  refine O984.st0 5 rfl (Nat.le_of_ble_eq_true rfl) trivial fun h986 O987 => ?_
                  have O988 := O987.nil (aE (tell_int .i64)) none
                  have O990 := O988.nm
                  exact roadref3_Fallen.l0.walk (O990.pick [0, 1, 2, 4, 3, 6, 5]).nm e_0 (show T_ward_Ward.E _ (T_ward_Ward.mk (0 : Int) (0 : Int) (0 : Int) ([] : List T_ward_Child) ([] : List Int)) [(Value.int .i64 (0 : Int)), (Value.int .i64 (0 : Int)), (Value.int .i64 (0 : Int)), (Value.slice none 0 0), (Value.slice none 0 0)] from ⟨_, _, _, _, rfl, (by exact Nat.le_refl 0), Rd.nil, (by exact Nat.le_refl 0), Rd.nil⟩) (show T_ward_Plan.E _ (T_ward_Plan.mk ([] : List Int) ([] : List Int) false) [(Value.slice none 0 0), (Value.slice none 0 0), (Value.bool false)] from ⟨_, _, _, _, rfl, (by exact Nat.le_refl 0), Rd.nil, (by exact Nat.le_refl 0), Rd.nil⟩) rfl rfl rfl e
              · refine O956.new fun h991 x992 O993 => ?_
                refine ⟨x992, ?_⟩
                have O995 := O993.nm
                refine ⟨_, ldk (k := 2) (Sub.refl _) (O995.all 0 rfl) (T_ward_Ward.g2 e_0), _, rfl, ?_⟩
                refine ⟨Ext.refl _, ?_⟩
                refine ⟨_, rfl, rfl, ?_⟩
                refine O995.stA 4 rfl rfl (Flats.cons trivial (Flats.cons trivial (Flats.cons trivial (Flats.cons trivial (Flats.cons trivial Flats.nil))))) fun h996 O997 => ?_
                refine O997.new fun h998 x999 O1000 => ?_
                refine O1000.st0 5 rfl (Nat.le_of_ble_eq_true rfl) trivial fun h1002 O1003 => ?_
                have O1004 := O1003.nil (aE (tell_int .i64)) none
                have O1006 := O1004.nm
                exact roadref3_Fallen.l0.walk (O1006.pick [0, 1, 2, 4, 3, 6, 5]).nm e_0 (show T_ward_Ward.E _ (T_ward_Ward.mk (0 : Int) (0 : Int) (0 : Int) ([] : List T_ward_Child) ([] : List Int)) [(Value.int .i64 (0 : Int)), (Value.int .i64 (0 : Int)), (Value.int .i64 (0 : Int)), (Value.slice none 0 0), (Value.slice none 0 0)] from ⟨_, _, _, _, rfl, (by exact Nat.le_refl 0), Rd.nil, (by exact Nat.le_refl 0), Rd.nil⟩) (show T_ward_Plan.E _ (T_ward_Plan.mk ([] : List Int) ([] : List Int) false) [(Value.slice none 0 0), (Value.slice none 0 0), (Value.bool false)] from ⟨_, _, _, _, rfl, (by exact Nat.le_refl 0), Rd.nil, (by exact Nat.le_refl 0), Rd.nil⟩) rfl rfl rfl e
            · refine ⟨?_, ?_⟩
              · refine ⟨_, ldk (k := 2) (Sub.refl _) (O956.all 0 rfl) (T_ward_Ward.g2 e_0), _, rfl, ?_⟩
                refine ⟨Ext.refl _, ?_⟩
                refine ⟨?_, ?_⟩
                · refine ⟨_, ld0 (Sub.refl _) (O956.all 0 rfl) (T_ward_Ward.g0 e_0), _, rfl, ?_⟩
                  refine ⟨Ext.refl _, ?_⟩
                  refine ⟨?_, ?_⟩
                  · refine O956.new fun h1007 x1008 O1009 => ?_
                    refine ⟨x1008, ?_⟩
                    have O1011 := O1009.nm
                    refine ⟨_, rfl, rfl, ?_⟩
                    refine O1011.stA 4 rfl rfl (Flats.cons trivial (Flats.cons trivial (Flats.cons trivial (Flats.cons trivial (Flats.cons trivial Flats.nil))))) fun h1012 O1013 => ?_
                    refine O1013.new fun h1014 x1015 O1016 => ?_
                    refine O1016.st0 5 rfl (Nat.le_of_ble_eq_true rfl) trivial fun h1018 O1019 => ?_
                    have O1020 := O1019.nil (aE (tell_int .i64)) none
                    have O1022 := O1020.nm
                    exact roadref3_Fallen.l0.walk (O1022.pick [0, 1, 2, 4, 3, 6, 5]).nm e_0 (show T_ward_Ward.E _ (T_ward_Ward.mk (0 : Int) (0 : Int) (0 : Int) ([] : List T_ward_Child) ([] : List Int)) [(Value.int .i64 (0 : Int)), (Value.int .i64 (0 : Int)), (Value.int .i64 (0 : Int)), (Value.slice none 0 0), (Value.slice none 0 0)] from ⟨_, _, _, _, rfl, (by exact Nat.le_refl 0), Rd.nil, (by exact Nat.le_refl 0), Rd.nil⟩) (show T_ward_Plan.E _ (T_ward_Plan.mk ([] : List Int) ([] : List Int) false) [(Value.slice none 0 0), (Value.slice none 0 0), (Value.bool false)] from ⟨_, _, _, _, rfl, (by exact Nat.le_refl 0), Rd.nil, (by exact Nat.le_refl 0), Rd.nil⟩) rfl rfl rfl e
                  · refine O956.new fun h1023 x1024 O1025 => ?_
                    refine ⟨x1024, ?_⟩
                    have O1027 := O1025.nm
                    refine ⟨_, rfl, rfl, ?_⟩
                    refine O1027.stA 4 rfl rfl (Flats.cons trivial (Flats.cons trivial (Flats.cons trivial (Flats.cons trivial (Flats.cons trivial Flats.nil))))) fun h1028 O1029 => ?_
                    refine O1029.new fun h1030 x1031 O1032 => ?_
                    refine O1032.st0 5 rfl (Nat.le_of_ble_eq_true rfl) trivial fun h1034 O1035 => ?_
                    have O1036 := O1035.nil (aE (tell_int .i64)) none
                    have O1038 := O1036.nm
                    exact roadref3_Fallen.l0.walk (O1038.pick [0, 1, 2, 4, 3, 6, 5]).nm e_0 (show T_ward_Ward.E _ (T_ward_Ward.mk (0 : Int) (0 : Int) (0 : Int) ([] : List T_ward_Child) ([] : List Int)) [(Value.int .i64 (0 : Int)), (Value.int .i64 (0 : Int)), (Value.int .i64 (0 : Int)), (Value.slice none 0 0), (Value.slice none 0 0)] from ⟨_, _, _, _, rfl, (by exact Nat.le_refl 0), Rd.nil, (by exact Nat.le_refl 0), Rd.nil⟩) (show T_ward_Plan.E _ (T_ward_Plan.mk ([] : List Int) ([] : List Int) false) [(Value.slice none 0 0), (Value.slice none 0 0), (Value.bool false)] from ⟨_, _, _, _, rfl, (by exact Nat.le_refl 0), Rd.nil, (by exact Nat.le_refl 0), Rd.nil⟩) rfl rfl rfl e
                · refine O956.new fun h1039 x1040 O1041 => ?_
                  refine ⟨x1040, ?_⟩
                  have O1043 := O1041.nm
                  refine ⟨_, ld0 (Sub.refl _) (O1043.all 0 rfl) (T_ward_Ward.g0 e_0), _, rfl, ?_⟩
                  refine ⟨Ext.refl _, ?_⟩
                  refine ⟨_, rfl, rfl, ?_⟩
                  refine O1043.stA 4 rfl rfl (Flats.cons trivial (Flats.cons trivial (Flats.cons trivial (Flats.cons trivial (Flats.cons trivial Flats.nil))))) fun h1044 O1045 => ?_
                  refine O1045.new fun h1046 x1047 O1048 => ?_
                  refine O1048.st0 5 rfl (Nat.le_of_ble_eq_true rfl) trivial fun h1050 O1051 => ?_
                  have O1052 := O1051.nil (aE (tell_int .i64)) none
                  have O1054 := O1052.nm
                  exact roadref3_Fallen.l0.walk (O1054.pick [0, 1, 2, 4, 3, 6, 5]).nm e_0 (show T_ward_Ward.E _ (T_ward_Ward.mk (0 : Int) (0 : Int) (0 : Int) ([] : List T_ward_Child) ([] : List Int)) [(Value.int .i64 (0 : Int)), (Value.int .i64 (0 : Int)), (Value.int .i64 (0 : Int)), (Value.slice none 0 0), (Value.slice none 0 0)] from ⟨_, _, _, _, rfl, (by exact Nat.le_refl 0), Rd.nil, (by exact Nat.le_refl 0), Rd.nil⟩) (show T_ward_Plan.E _ (T_ward_Plan.mk ([] : List Int) ([] : List Int) false) [(Value.slice none 0 0), (Value.slice none 0 0), (Value.bool false)] from ⟨_, _, _, _, rfl, (by exact Nat.le_refl 0), Rd.nil, (by exact Nat.le_refl 0), Rd.nil⟩) rfl rfl rfl e
              · refine O956.new fun h1055 x1056 O1057 => ?_
                refine ⟨x1056, ?_⟩
                refine ⟨?_, ?_⟩
                · have O1059 := O1057.nm
                  refine ⟨_, ld0 (Sub.refl _) (O1059.all 0 rfl) (T_ward_Ward.g0 e_0), _, rfl, ?_⟩
                  refine ⟨Ext.refl _, ?_⟩
                  refine ⟨_, ldk (k := 2) (Sub.refl _) (O1059.all 0 rfl) (T_ward_Ward.g2 e_0), _, rfl, ?_⟩
                  refine ⟨Ext.refl _, ?_⟩
                  refine ⟨_, rfl, rfl, ?_⟩
                  refine O1059.stA 4 rfl rfl (Flats.cons trivial (Flats.cons trivial (Flats.cons trivial (Flats.cons trivial (Flats.cons trivial Flats.nil))))) fun h1060 O1061 => ?_
                  refine O1061.new fun h1062 x1063 O1064 => ?_
                  refine O1064.st0 5 rfl (Nat.le_of_ble_eq_true rfl) trivial fun h1066 O1067 => ?_
                  have O1068 := O1067.nil (aE (tell_int .i64)) none
                  have O1070 := O1068.nm
                  exact roadref3_Fallen.l0.walk (O1070.pick [0, 1, 2, 4, 3, 6, 5]).nm e_0 (show T_ward_Ward.E _ (T_ward_Ward.mk (0 : Int) (0 : Int) (0 : Int) ([] : List T_ward_Child) ([] : List Int)) [(Value.int .i64 (0 : Int)), (Value.int .i64 (0 : Int)), (Value.int .i64 (0 : Int)), (Value.slice none 0 0), (Value.slice none 0 0)] from ⟨_, _, _, _, rfl, (by exact Nat.le_refl 0), Rd.nil, (by exact Nat.le_refl 0), Rd.nil⟩) (show T_ward_Plan.E _ (T_ward_Plan.mk ([] : List Int) ([] : List Int) false) [(Value.slice none 0 0), (Value.slice none 0 0), (Value.bool false)] from ⟨_, _, _, _, rfl, (by exact Nat.le_refl 0), Rd.nil, (by exact Nat.le_refl 0), Rd.nil⟩) rfl rfl rfl e
                · have O1071 := O1057.nm
                  refine ⟨_, ldk (k := 2) (Sub.refl _) (O1071.all 0 rfl) (T_ward_Ward.g2 e_0), _, rfl, ?_⟩
                  refine ⟨Ext.refl _, ?_⟩
                  refine ⟨_, ld0 (Sub.refl _) (O1071.all 0 rfl) (T_ward_Ward.g0 e_0), _, rfl, ?_⟩
                  refine ⟨Ext.refl _, ?_⟩
                  refine ⟨_, rfl, rfl, ?_⟩
                  refine O1071.stA 4 rfl rfl (Flats.cons trivial (Flats.cons trivial (Flats.cons trivial (Flats.cons trivial (Flats.cons trivial Flats.nil))))) fun h1072 O1073 => ?_
                  refine O1073.new fun h1074 x1075 O1076 => ?_
                  refine O1076.st0 5 rfl (Nat.le_of_ble_eq_true rfl) trivial fun h1078 O1079 => ?_
                  have O1080 := O1079.nil (aE (tell_int .i64)) none
                  have O1082 := O1080.nm
                  exact roadref3_Fallen.l0.walk (O1082.pick [0, 1, 2, 4, 3, 6, 5]).nm e_0 (show T_ward_Ward.E _ (T_ward_Ward.mk (0 : Int) (0 : Int) (0 : Int) ([] : List T_ward_Child) ([] : List Int)) [(Value.int .i64 (0 : Int)), (Value.int .i64 (0 : Int)), (Value.int .i64 (0 : Int)), (Value.slice none 0 0), (Value.slice none 0 0)] from ⟨_, _, _, _, rfl, (by exact Nat.le_refl 0), Rd.nil, (by exact Nat.le_refl 0), Rd.nil⟩) (show T_ward_Plan.E _ (T_ward_Plan.mk ([] : List Int) ([] : List Int) false) [(Value.slice none 0 0), (Value.slice none 0 0), (Value.bool false)] from ⟨_, _, _, _, rfl, (by exact Nat.le_refl 0), Rd.nil, (by exact Nat.le_refl 0), Rd.nil⟩) rfl rfl rfl e
          · refine O11.new fun h1083 x1084 O1085 => ?_
            refine ⟨x1084, ?_⟩
            refine ⟨?_, ?_⟩
            · refine ⟨_, ld0 (Sub.refl _) (O1085.all 0 rfl) (T_ward_Ward.g0 e_0), _, rfl, ?_⟩
              refine ⟨Ext.refl _, ?_⟩
              refine ⟨?_, ?_⟩
              · refine ⟨_, ldk (k := 2) (Sub.refl _) (O1085.all 0 rfl) (T_ward_Ward.g2 e_0), _, rfl, ?_⟩
                refine ⟨Ext.refl _, ?_⟩
                refine O1085.appE0 T_ward_Child.T rfl rfl (Rd.srcE r46 T_ward_Child.T O1085.s rfl) (by decide) g19 fun A1089 c1090 h1091 x1093 O1092 => ?_
                refine ⟨_, _, _, rfl, ?_⟩
                have O1095 := O1092.nm
                refine ⟨_, rfl, rfl, ?_⟩
                refine O1095.stA 3 rfl rfl (Flats.cons trivial (Flats.cons trivial (Flats.cons trivial (Flats.cons trivial (Flats.cons trivial Flats.nil))))) fun h1096 O1097 => ?_
                refine O1097.new fun h1098 x1099 O1100 => ?_
                refine O1100.st0 5 rfl (Nat.le_of_ble_eq_true rfl) trivial fun h1102 O1103 => ?_
                have O1104 := O1103.nil (aE (tell_int .i64)) none
                have O1106 := O1104.nm
                exact roadref3_Fallen.l0.walk (O1106.pick [0, 1, 2, 3, 4, 6, 5]).nm e_0 (show T_ward_Ward.E _ (T_ward_Ward.mk (0 : Int) (0 : Int) (0 : Int) ([] : List T_ward_Child) ([] : List Int)) [(Value.int .i64 (0 : Int)), (Value.int .i64 (0 : Int)), (Value.int .i64 (0 : Int)), (Value.slice none 0 0), (Value.slice none 0 0)] from ⟨_, _, _, _, rfl, (by exact Nat.le_refl 0), Rd.nil, (by exact Nat.le_refl 0), Rd.nil⟩) (show T_ward_Plan.E _ (T_ward_Plan.mk ([] : List Int) ([] : List Int) false) [(Value.slice none 0 0), (Value.slice none 0 0), (Value.bool false)] from ⟨_, _, _, _, rfl, (by exact Nat.le_refl 0), Rd.nil, (by exact Nat.le_refl 0), Rd.nil⟩) rfl rfl rfl e
              · refine O1085.appE0 T_ward_Child.T rfl rfl (Rd.srcE r46 T_ward_Child.T O1085.s rfl) (by decide) g19 fun A1109 c1110 h1111 x1113 O1112 => ?_
                refine ⟨_, _, _, rfl, ?_⟩
                have O1115 := O1112.nm
                refine ⟨_, ldk (k := 2) (Sub.refl _) (O1115.all 0 rfl) (T_ward_Ward.g2 e_0), _, rfl, ?_⟩
                refine ⟨Ext.refl _, ?_⟩
                refine ⟨_, rfl, rfl, ?_⟩
                refine O1115.stA 3 rfl rfl (Flats.cons trivial (Flats.cons trivial (Flats.cons trivial (Flats.cons trivial (Flats.cons trivial Flats.nil))))) fun h1116 O1117 => ?_
                refine O1117.new fun h1118 x1119 O1120 => ?_
                refine O1120.st0 5 rfl (Nat.le_of_ble_eq_true rfl) trivial fun h1122 O1123 => ?_
                have O1124 := O1123.nil (aE (tell_int .i64)) none
                have O1126 := O1124.nm
                exact roadref3_Fallen.l0.walk (O1126.pick [0, 1, 2, 3, 4, 6, 5]).nm e_0 (show T_ward_Ward.E _ (T_ward_Ward.mk (0 : Int) (0 : Int) (0 : Int) ([] : List T_ward_Child) ([] : List Int)) [(Value.int .i64 (0 : Int)), (Value.int .i64 (0 : Int)), (Value.int .i64 (0 : Int)), (Value.slice none 0 0), (Value.slice none 0 0)] from ⟨_, _, _, _, rfl, (by exact Nat.le_refl 0), Rd.nil, (by exact Nat.le_refl 0), Rd.nil⟩) (show T_ward_Plan.E _ (T_ward_Plan.mk ([] : List Int) ([] : List Int) false) [(Value.slice none 0 0), (Value.slice none 0 0), (Value.bool false)] from ⟨_, _, _, _, rfl, (by exact Nat.le_refl 0), Rd.nil, (by exact Nat.le_refl 0), Rd.nil⟩) rfl rfl rfl e
            · refine ⟨?_, ?_⟩
              · refine ⟨_, ldk (k := 2) (Sub.refl _) (O1085.all 0 rfl) (T_ward_Ward.g2 e_0), _, rfl, ?_⟩
                refine ⟨Ext.refl _, ?_⟩
                refine ⟨?_, ?_⟩
                · refine ⟨_, ld0 (Sub.refl _) (O1085.all 0 rfl) (T_ward_Ward.g0 e_0), _, rfl, ?_⟩
                  refine ⟨Ext.refl _, ?_⟩
                  refine O1085.appE0 T_ward_Child.T rfl rfl (Rd.srcE r46 T_ward_Child.T O1085.s rfl) (by decide) g19 fun A1129 c1130 h1131 x1133 O1132 => ?_
                  refine ⟨_, _, _, rfl, ?_⟩
                  have O1135 := O1132.nm
                  refine ⟨_, rfl, rfl, ?_⟩
                  refine O1135.stA 3 rfl rfl (Flats.cons trivial (Flats.cons trivial (Flats.cons trivial (Flats.cons trivial (Flats.cons trivial Flats.nil))))) fun h1136 O1137 => ?_
                  refine O1137.new fun h1138 x1139 O1140 => ?_
                  refine O1140.st0 5 rfl (Nat.le_of_ble_eq_true rfl) trivial fun h1142 O1143 => ?_
                  have O1144 := O1143.nil (aE (tell_int .i64)) none
                  have O1146 := O1144.nm
                  exact roadref3_Fallen.l0.walk (O1146.pick [0, 1, 2, 3, 4, 6, 5]).nm e_0 (show T_ward_Ward.E _ (T_ward_Ward.mk (0 : Int) (0 : Int) (0 : Int) ([] : List T_ward_Child) ([] : List Int)) [(Value.int .i64 (0 : Int)), (Value.int .i64 (0 : Int)), (Value.int .i64 (0 : Int)), (Value.slice none 0 0), (Value.slice none 0 0)] from ⟨_, _, _, _, rfl, (by exact Nat.le_refl 0), Rd.nil, (by exact Nat.le_refl 0), Rd.nil⟩) (show T_ward_Plan.E _ (T_ward_Plan.mk ([] : List Int) ([] : List Int) false) [(Value.slice none 0 0), (Value.slice none 0 0), (Value.bool false)] from ⟨_, _, _, _, rfl, (by exact Nat.le_refl 0), Rd.nil, (by exact Nat.le_refl 0), Rd.nil⟩) rfl rfl rfl e
                · refine O1085.appE0 T_ward_Child.T rfl rfl (Rd.srcE r46 T_ward_Child.T O1085.s rfl) (by decide) g19 fun A1149 c1150 h1151 x1153 O1152 => ?_
                  refine ⟨_, _, _, rfl, ?_⟩
                  have O1155 := O1152.nm
                  refine ⟨_, ld0 (Sub.refl _) (O1155.all 0 rfl) (T_ward_Ward.g0 e_0), _, rfl, ?_⟩
                  refine ⟨Ext.refl _, ?_⟩
                  refine ⟨_, rfl, rfl, ?_⟩
                  refine O1155.stA 3 rfl rfl (Flats.cons trivial (Flats.cons trivial (Flats.cons trivial (Flats.cons trivial (Flats.cons trivial Flats.nil))))) fun h1156 O1157 => ?_
                  refine O1157.new fun h1158 x1159 O1160 => ?_
                  refine O1160.st0 5 rfl (Nat.le_of_ble_eq_true rfl) trivial fun h1162 O1163 => ?_
                  have O1164 := O1163.nil (aE (tell_int .i64)) none
                  have O1166 := O1164.nm
                  exact roadref3_Fallen.l0.walk (O1166.pick [0, 1, 2, 3, 4, 6, 5]).nm e_0 (show T_ward_Ward.E _ (T_ward_Ward.mk (0 : Int) (0 : Int) (0 : Int) ([] : List T_ward_Child) ([] : List Int)) [(Value.int .i64 (0 : Int)), (Value.int .i64 (0 : Int)), (Value.int .i64 (0 : Int)), (Value.slice none 0 0), (Value.slice none 0 0)] from ⟨_, _, _, _, rfl, (by exact Nat.le_refl 0), Rd.nil, (by exact Nat.le_refl 0), Rd.nil⟩) (show T_ward_Plan.E _ (T_ward_Plan.mk ([] : List Int) ([] : List Int) false) [(Value.slice none 0 0), (Value.slice none 0 0), (Value.bool false)] from ⟨_, _, _, _, rfl, (by exact Nat.le_refl 0), Rd.nil, (by exact Nat.le_refl 0), Rd.nil⟩) rfl rfl rfl e
              · refine O1085.appE0 T_ward_Child.T rfl rfl (Rd.srcE r46 T_ward_Child.T O1085.s rfl) (by decide) g19 fun A1169 c1170 h1171 x1173 O1172 => ?_
                refine ⟨_, _, _, rfl, ?_⟩
                refine ⟨?_, ?_⟩
                · have O1175 := O1172.nm
                  refine ⟨_, ld0 (Sub.refl _) (O1175.all 0 rfl) (T_ward_Ward.g0 e_0), _, rfl, ?_⟩
                  refine ⟨Ext.refl _, ?_⟩
                  refine ⟨_, ldk (k := 2) (Sub.refl _) (O1175.all 0 rfl) (T_ward_Ward.g2 e_0), _, rfl, ?_⟩
                  refine ⟨Ext.refl _, ?_⟩
                  refine ⟨_, rfl, rfl, ?_⟩
                  refine O1175.stA 3 rfl rfl (Flats.cons trivial (Flats.cons trivial (Flats.cons trivial (Flats.cons trivial (Flats.cons trivial Flats.nil))))) fun h1176 O1177 => ?_
                  refine O1177.new fun h1178 x1179 O1180 => ?_
                  refine O1180.st0 5 rfl (Nat.le_of_ble_eq_true rfl) trivial fun h1182 O1183 => ?_
                  have O1184 := O1183.nil (aE (tell_int .i64)) none
                  have O1186 := O1184.nm
                  exact roadref3_Fallen.l0.walk (O1186.pick [0, 1, 2, 3, 4, 6, 5]).nm e_0 (show T_ward_Ward.E _ (T_ward_Ward.mk (0 : Int) (0 : Int) (0 : Int) ([] : List T_ward_Child) ([] : List Int)) [(Value.int .i64 (0 : Int)), (Value.int .i64 (0 : Int)), (Value.int .i64 (0 : Int)), (Value.slice none 0 0), (Value.slice none 0 0)] from ⟨_, _, _, _, rfl, (by exact Nat.le_refl 0), Rd.nil, (by exact Nat.le_refl 0), Rd.nil⟩) (show T_ward_Plan.E _ (T_ward_Plan.mk ([] : List Int) ([] : List Int) false) [(Value.slice none 0 0), (Value.slice none 0 0), (Value.bool false)] from ⟨_, _, _, _, rfl, (by exact Nat.le_refl 0), Rd.nil, (by exact Nat.le_refl 0), Rd.nil⟩) rfl rfl rfl e
                · have O1187 := O1172.nm
                  refine ⟨_, ldk (k := 2) (Sub.refl _) (O1187.all 0 rfl) (T_ward_Ward.g2 e_0), _, rfl, ?_⟩
                  refine ⟨Ext.refl _, ?_⟩
                  refine ⟨_, ld0 (Sub.refl _) (O1187.all 0 rfl) (T_ward_Ward.g0 e_0), _, rfl, ?_⟩
                  refine ⟨Ext.refl _, ?_⟩
                  refine ⟨_, rfl, rfl, ?_⟩
                  refine O1187.stA 3 rfl rfl (Flats.cons trivial (Flats.cons trivial (Flats.cons trivial (Flats.cons trivial (Flats.cons trivial Flats.nil))))) fun h1188 O1189 => ?_
                  refine O1189.new fun h1190 x1191 O1192 => ?_
                  refine O1192.st0 5 rfl (Nat.le_of_ble_eq_true rfl) trivial fun h1194 O1195 => ?_
                  have O1196 := O1195.nil (aE (tell_int .i64)) none
                  have O1198 := O1196.nm
                  exact roadref3_Fallen.l0.walk (O1198.pick [0, 1, 2, 3, 4, 6, 5]).nm e_0 (show T_ward_Ward.E _ (T_ward_Ward.mk (0 : Int) (0 : Int) (0 : Int) ([] : List T_ward_Child) ([] : List Int)) [(Value.int .i64 (0 : Int)), (Value.int .i64 (0 : Int)), (Value.int .i64 (0 : Int)), (Value.slice none 0 0), (Value.slice none 0 0)] from ⟨_, _, _, _, rfl, (by exact Nat.le_refl 0), Rd.nil, (by exact Nat.le_refl 0), Rd.nil⟩) (show T_ward_Plan.E _ (T_ward_Plan.mk ([] : List Int) ([] : List Int) false) [(Value.slice none 0 0), (Value.slice none 0 0), (Value.bool false)] from ⟨_, _, _, _, rfl, (by exact Nat.le_refl 0), Rd.nil, (by exact Nat.le_refl 0), Rd.nil⟩) rfl rfl rfl e
    · refine ⟨?_, ?_⟩
      · refine ⟨_, ldk (k := 2) (Sub.refl _) (O11.all 0 rfl) (T_ward_Ward.g2 e_0), _, rfl, ?_⟩
        refine ⟨Ext.refl _, ?_⟩
        refine ⟨?_, ?_⟩
        · refine ⟨_, ld0 (Sub.refl _) (O11.all 0 rfl) (T_ward_Ward.g0 e_0), _, rfl, ?_⟩
          refine ⟨Ext.refl _, ?_⟩
          refine ⟨?_, ?_⟩
          · refine ⟨_, ldk (k := 1) (Sub.refl _) (O11.all 0 rfl) (T_ward_Ward.g1 e_0), _, rfl, ?_⟩
            refine ⟨Ext.refl _, ?_⟩
            refine ⟨?_, ?_⟩
            · refine O11.appE0 T_ward_Child.T rfl rfl (Rd.srcE r46 T_ward_Child.T O11.s rfl) (by decide) g19 fun A1201 c1202 h1203 x1205 O1204 => ?_
              refine ⟨_, _, _, rfl, ?_⟩
              refine ⟨?_, ?_⟩
              · refine O1204.new fun h1207 x1208 O1209 => ?_
                refine ⟨x1208, ?_⟩
                have O1211 := O1209.nm
                refine ⟨_, rfl, rfl, ?_⟩
                refine O1211.stA 4 rfl rfl (Flats.cons trivial (Flats.cons trivial (Flats.cons trivial (Flats.cons trivial (Flats.cons trivial Flats.nil))))) fun h1212 O1213 => ?_
                refine O1213.new fun h1214 x1215 O1216 => ?_
                refine O1216.st0 5 rfl (Nat.le_of_ble_eq_true rfl) trivial fun h1218 O1219 => ?_
                have O1220 := O1219.nil (aE (tell_int .i64)) none
                have O1222 := O1220.nm
                exact roadref3_Fallen.l0.walk (O1222.pick [0, 1, 2, 4, 3, 6, 5]).nm e_0 (show T_ward_Ward.E _ (T_ward_Ward.mk (0 : Int) (0 : Int) (0 : Int) ([] : List T_ward_Child) ([] : List Int)) [(Value.int .i64 (0 : Int)), (Value.int .i64 (0 : Int)), (Value.int .i64 (0 : Int)), (Value.slice none 0 0), (Value.slice none 0 0)] from ⟨_, _, _, _, rfl, (by exact Nat.le_refl 0), Rd.nil, (by exact Nat.le_refl 0), Rd.nil⟩) (show T_ward_Plan.E _ (T_ward_Plan.mk ([] : List Int) ([] : List Int) false) [(Value.slice none 0 0), (Value.slice none 0 0), (Value.bool false)] from ⟨_, _, _, _, rfl, (by exact Nat.le_refl 0), Rd.nil, (by exact Nat.le_refl 0), Rd.nil⟩) rfl rfl rfl e
              · refine O1204.new fun h1223 x1224 O1225 => ?_
                refine ⟨x1224, ?_⟩
                have O1227 := O1225.nm
                refine ⟨_, rfl, rfl, ?_⟩
                refine O1227.stA 4 rfl rfl (Flats.cons trivial (Flats.cons trivial (Flats.cons trivial (Flats.cons trivial (Flats.cons trivial Flats.nil))))) fun h1228 O1229 => ?_
                refine O1229.new fun h1230 x1231 O1232 => ?_
                refine O1232.st0 5 rfl (Nat.le_of_ble_eq_true rfl) trivial fun h1234 O1235 => ?_
                have O1236 := O1235.nil (aE (tell_int .i64)) none
                have O1238 := O1236.nm
                exact roadref3_Fallen.l0.walk (O1238.pick [0, 1, 2, 4, 3, 6, 5]).nm e_0 (show T_ward_Ward.E _ (T_ward_Ward.mk (0 : Int) (0 : Int) (0 : Int) ([] : List T_ward_Child) ([] : List Int)) [(Value.int .i64 (0 : Int)), (Value.int .i64 (0 : Int)), (Value.int .i64 (0 : Int)), (Value.slice none 0 0), (Value.slice none 0 0)] from ⟨_, _, _, _, rfl, (by exact Nat.le_refl 0), Rd.nil, (by exact Nat.le_refl 0), Rd.nil⟩) (show T_ward_Plan.E _ (T_ward_Plan.mk ([] : List Int) ([] : List Int) false) [(Value.slice none 0 0), (Value.slice none 0 0), (Value.bool false)] from ⟨_, _, _, _, rfl, (by exact Nat.le_refl 0), Rd.nil, (by exact Nat.le_refl 0), Rd.nil⟩) rfl rfl rfl e
            · refine O11.new fun h1239 x1240 O1241 => ?_
              refine ⟨x1240, ?_⟩
              refine O1241.appE0 T_ward_Child.T rfl rfl (Rd.srcE r46 T_ward_Child.T O1241.s rfl) (by decide) g19 fun A1245 c1246 h1247 x1249 O1248 => ?_
              refine ⟨_, _, _, rfl, ?_⟩
              have O1251 := O1248.nm
              refine ⟨_, rfl, rfl, ?_⟩
              refine O1251.stA 3 rfl rfl (Flats.cons trivial (Flats.cons trivial (Flats.cons trivial (Flats.cons trivial (Flats.cons trivial Flats.nil))))) fun h1252 O1253 => ?_
              refine O1253.new fun h1254 x1255 O1256 => ?_
              refine O1256.st0 5 rfl (Nat.le_of_ble_eq_true rfl) trivial fun h1258 O1259 => ?_
              have O1260 := O1259.nil (aE (tell_int .i64)) none
              have O1262 := O1260.nm
              exact roadref3_Fallen.l0.walk (O1262.pick [0, 1, 2, 3, 4, 6, 5]).nm e_0 (show T_ward_Ward.E _ (T_ward_Ward.mk (0 : Int) (0 : Int) (0 : Int) ([] : List T_ward_Child) ([] : List Int)) [(Value.int .i64 (0 : Int)), (Value.int .i64 (0 : Int)), (Value.int .i64 (0 : Int)), (Value.slice none 0 0), (Value.slice none 0 0)] from ⟨_, _, _, _, rfl, (by exact Nat.le_refl 0), Rd.nil, (by exact Nat.le_refl 0), Rd.nil⟩) (show T_ward_Plan.E _ (T_ward_Plan.mk ([] : List Int) ([] : List Int) false) [(Value.slice none 0 0), (Value.slice none 0 0), (Value.bool false)] from ⟨_, _, _, _, rfl, (by exact Nat.le_refl 0), Rd.nil, (by exact Nat.le_refl 0), Rd.nil⟩) rfl rfl rfl e
          · refine ⟨?_, ?_⟩
            · refine O11.appE0 T_ward_Child.T rfl rfl (Rd.srcE r46 T_ward_Child.T O11.s rfl) (by decide) g19 fun A1265 c1266 h1267 x1269 O1268 => ?_
              refine ⟨_, _, _, rfl, ?_⟩
              refine ⟨?_, ?_⟩
              · refine ⟨_, ldk (k := 1) (Sub.refl _) (O1268.all 0 rfl) (T_ward_Ward.g1 e_0), _, rfl, ?_⟩
                refine ⟨Ext.refl _, ?_⟩
                refine ⟨?_, ?_⟩
                · refine O1268.new fun h1271 x1272 O1273 => ?_
                  refine ⟨x1272, ?_⟩
                  have O1275 := O1273.nm
                  refine ⟨_, rfl, rfl, ?_⟩
                  refine O1275.stA 4 rfl rfl (Flats.cons trivial (Flats.cons trivial (Flats.cons trivial (Flats.cons trivial (Flats.cons trivial Flats.nil))))) fun h1276 O1277 => ?_
                  refine O1277.new fun h1278 x1279 O1280 => ?_
                  refine O1280.st0 5 rfl (Nat.le_of_ble_eq_true rfl) trivial fun h1282 O1283 => ?_
                  have O1284 := O1283.nil (aE (tell_int .i64)) none
                  have O1286 := O1284.nm
                  exact roadref3_Fallen.l0.walk (O1286.pick [0, 1, 2, 4, 3, 6, 5]).nm e_0 (show T_ward_Ward.E _ (T_ward_Ward.mk (0 : Int) (0 : Int) (0 : Int) ([] : List T_ward_Child) ([] : List Int)) [(Value.int .i64 (0 : Int)), (Value.int .i64 (0 : Int)), (Value.int .i64 (0 : Int)), (Value.slice none 0 0), (Value.slice none 0 0)] from ⟨_, _, _, _, rfl, (by exact Nat.le_refl 0), Rd.nil, (by exact Nat.le_refl 0), Rd.nil⟩) (show T_ward_Plan.E _ (T_ward_Plan.mk ([] : List Int) ([] : List Int) false) [(Value.slice none 0 0), (Value.slice none 0 0), (Value.bool false)] from ⟨_, _, _, _, rfl, (by exact Nat.le_refl 0), Rd.nil, (by exact Nat.le_refl 0), Rd.nil⟩) rfl rfl rfl e
                · refine O1268.new fun h1287 x1288 O1289 => ?_
                  refine ⟨x1288, ?_⟩
                  have O1291 := O1289.nm
                  refine ⟨_, rfl, rfl, ?_⟩
                  refine O1291.stA 4 rfl rfl (Flats.cons trivial (Flats.cons trivial (Flats.cons trivial (Flats.cons trivial (Flats.cons trivial Flats.nil))))) fun h1292 O1293 => ?_
                  refine O1293.new fun h1294 x1295 O1296 => ?_
                  refine O1296.st0 5 rfl (Nat.le_of_ble_eq_true rfl) trivial fun h1298 O1299 => ?_
                  have O1300 := O1299.nil (aE (tell_int .i64)) none
                  have O1302 := O1300.nm
                  exact roadref3_Fallen.l0.walk (O1302.pick [0, 1, 2, 4, 3, 6, 5]).nm e_0 (show T_ward_Ward.E _ (T_ward_Ward.mk (0 : Int) (0 : Int) (0 : Int) ([] : List T_ward_Child) ([] : List Int)) [(Value.int .i64 (0 : Int)), (Value.int .i64 (0 : Int)), (Value.int .i64 (0 : Int)), (Value.slice none 0 0), (Value.slice none 0 0)] from ⟨_, _, _, _, rfl, (by exact Nat.le_refl 0), Rd.nil, (by exact Nat.le_refl 0), Rd.nil⟩) (show T_ward_Plan.E _ (T_ward_Plan.mk ([] : List Int) ([] : List Int) false) [(Value.slice none 0 0), (Value.slice none 0 0), (Value.bool false)] from ⟨_, _, _, _, rfl, (by exact Nat.le_refl 0), Rd.nil, (by exact Nat.le_refl 0), Rd.nil⟩) rfl rfl rfl e
              · refine O1268.new fun h1303 x1304 O1305 => ?_
                refine ⟨x1304, ?_⟩
                have O1307 := O1305.nm
                refine ⟨_, ldk (k := 1) (Sub.refl _) (O1307.all 0 rfl) (T_ward_Ward.g1 e_0), _, rfl, ?_⟩
                refine ⟨Ext.refl _, ?_⟩
                refine ⟨_, rfl, rfl, ?_⟩
                refine O1307.stA 4 rfl rfl (Flats.cons trivial (Flats.cons trivial (Flats.cons trivial (Flats.cons trivial (Flats.cons trivial Flats.nil))))) fun h1308 O1309 => ?_
                refine O1309.new fun h1310 x1311 O1312 => ?_
                refine O1312.st0 5 rfl (Nat.le_of_ble_eq_true rfl) trivial fun h1314 O1315 => ?_
                have O1316 := O1315.nil (aE (tell_int .i64)) none
                have O1318 := O1316.nm
                exact roadref3_Fallen.l0.walk (O1318.pick [0, 1, 2, 4, 3, 6, 5]).nm e_0 (show T_ward_Ward.E _ (T_ward_Ward.mk (0 : Int) (0 : Int) (0 : Int) ([] : List T_ward_Child) ([] : List Int)) [(Value.int .i64 (0 : Int)), (Value.int .i64 (0 : Int)), (Value.int .i64 (0 : Int)), (Value.slice none 0 0), (Value.slice none 0 0)] from ⟨_, _, _, _, rfl, (by exact Nat.le_refl 0), Rd.nil, (by exact Nat.le_refl 0), Rd.nil⟩) (show T_ward_Plan.E _ (T_ward_Plan.mk ([] : List Int) ([] : List Int) false) [(Value.slice none 0 0), (Value.slice none 0 0), (Value.bool false)] from ⟨_, _, _, _, rfl, (by exact Nat.le_refl 0), Rd.nil, (by exact Nat.le_refl 0), Rd.nil⟩) rfl rfl rfl e
            · refine O11.new fun h1319 x1320 O1321 => ?_
              refine ⟨x1320, ?_⟩
              refine ⟨?_, ?_⟩
              · refine ⟨_, ldk (k := 1) (Sub.refl _) (O1321.all 0 rfl) (T_ward_Ward.g1 e_0), _, rfl, ?_⟩
                refine ⟨Ext.refl _, ?_⟩
                refine O1321.appE0 T_ward_Child.T rfl rfl (Rd.srcE r46 T_ward_Child.T O1321.s rfl) (by decide) g19 fun A1325 c1326 h1327 x1329 O1328 => ?_
                refine ⟨_, _, _, rfl, ?_⟩
                have O1331 := O1328.nm
                refine ⟨_, rfl, rfl, ?_⟩
                refine O1331.stA 3 rfl rfl (Flats.cons trivial (Flats.cons trivial (Flats.cons trivial (Flats.cons trivial (Flats.cons trivial Flats.nil))))) fun h1332 O1333 => ?_
                refine O1333.new fun h1334 x1335 O1336 => ?_
                refine O1336.st0 5 rfl (Nat.le_of_ble_eq_true rfl) trivial fun h1338 O1339 => ?_
                have O1340 := O1339.nil (aE (tell_int .i64)) none
                have O1342 := O1340.nm
                exact roadref3_Fallen.l0.walk (O1342.pick [0, 1, 2, 3, 4, 6, 5]).nm e_0 (show T_ward_Ward.E _ (T_ward_Ward.mk (0 : Int) (0 : Int) (0 : Int) ([] : List T_ward_Child) ([] : List Int)) [(Value.int .i64 (0 : Int)), (Value.int .i64 (0 : Int)), (Value.int .i64 (0 : Int)), (Value.slice none 0 0), (Value.slice none 0 0)] from ⟨_, _, _, _, rfl, (by exact Nat.le_refl 0), Rd.nil, (by exact Nat.le_refl 0), Rd.nil⟩) (show T_ward_Plan.E _ (T_ward_Plan.mk ([] : List Int) ([] : List Int) false) [(Value.slice none 0 0), (Value.slice none 0 0), (Value.bool false)] from ⟨_, _, _, _, rfl, (by exact Nat.le_refl 0), Rd.nil, (by exact Nat.le_refl 0), Rd.nil⟩) rfl rfl rfl e
              · refine O1321.appE0 T_ward_Child.T rfl rfl (Rd.srcE r46 T_ward_Child.T O1321.s rfl) (by decide) g19 fun A1345 c1346 h1347 x1349 O1348 => ?_
                refine ⟨_, _, _, rfl, ?_⟩
                have O1351 := O1348.nm
                refine ⟨_, ldk (k := 1) (Sub.refl _) (O1351.all 0 rfl) (T_ward_Ward.g1 e_0), _, rfl, ?_⟩
                refine ⟨Ext.refl _, ?_⟩
                refine ⟨_, rfl, rfl, ?_⟩
                refine O1351.stA 3 rfl rfl (Flats.cons trivial (Flats.cons trivial (Flats.cons trivial (Flats.cons trivial (Flats.cons trivial Flats.nil))))) fun h1352 O1353 => ?_
                refine O1353.new fun h1354 x1355 O1356 => ?_
                refine O1356.st0 5 rfl (Nat.le_of_ble_eq_true rfl) trivial fun h1358 O1359 => ?_
                have O1360 := O1359.nil (aE (tell_int .i64)) none
                have O1362 := O1360.nm
                exact roadref3_Fallen.l0.walk (O1362.pick [0, 1, 2, 3, 4, 6, 5]).nm e_0 (show T_ward_Ward.E _ (T_ward_Ward.mk (0 : Int) (0 : Int) (0 : Int) ([] : List T_ward_Child) ([] : List Int)) [(Value.int .i64 (0 : Int)), (Value.int .i64 (0 : Int)), (Value.int .i64 (0 : Int)), (Value.slice none 0 0), (Value.slice none 0 0)] from ⟨_, _, _, _, rfl, (by exact Nat.le_refl 0), Rd.nil, (by exact Nat.le_refl 0), Rd.nil⟩) (show T_ward_Plan.E _ (T_ward_Plan.mk ([] : List Int) ([] : List Int) false) [(Value.slice none 0 0), (Value.slice none 0 0), (Value.bool false)] from ⟨_, _, _, _, rfl, (by exact Nat.le_refl 0), Rd.nil, (by exact Nat.le_refl 0), Rd.nil⟩) rfl rfl rfl e
        · refine ⟨?_, ?_⟩
          · refine ⟨_, ldk (k := 1) (Sub.refl _) (O11.all 0 rfl) (T_ward_Ward.g1 e_0), _, rfl, ?_⟩
            refine ⟨Ext.refl _, ?_⟩
            refine ⟨?_, ?_⟩
            · refine ⟨_, ld0 (Sub.refl _) (O11.all 0 rfl) (T_ward_Ward.g0 e_0), _, rfl, ?_⟩
              refine ⟨Ext.refl _, ?_⟩
              refine ⟨?_, ?_⟩
              · refine O11.appE0 T_ward_Child.T rfl rfl (Rd.srcE r46 T_ward_Child.T O11.s rfl) (by decide) g19 fun A1365 c1366 h1367 x1369 O1368 => ?_
                refine ⟨_, _, _, rfl, ?_⟩
                refine ⟨?_, ?_⟩
                · refine O1368.new fun h1371 x1372 O1373 => ?_
                  refine ⟨x1372, ?_⟩
                  have O1375 := O1373.nm
                  refine ⟨_, rfl, rfl, ?_⟩
                  refine O1375.stA 4 rfl rfl (Flats.cons trivial (Flats.cons trivial (Flats.cons trivial (Flats.cons trivial (Flats.cons trivial Flats.nil))))) fun h1376 O1377 => ?_
                  refine O1377.new fun h1378 x1379 O1380 => ?_
                  refine O1380.st0 5 rfl (Nat.le_of_ble_eq_true rfl) trivial fun h1382 O1383 => ?_
                  have O1384 := O1383.nil (aE (tell_int .i64)) none
                  have O1386 := O1384.nm
                  exact roadref3_Fallen.l0.walk (O1386.pick [0, 1, 2, 4, 3, 6, 5]).nm e_0 (show T_ward_Ward.E _ (T_ward_Ward.mk (0 : Int) (0 : Int) (0 : Int) ([] : List T_ward_Child) ([] : List Int)) [(Value.int .i64 (0 : Int)), (Value.int .i64 (0 : Int)), (Value.int .i64 (0 : Int)), (Value.slice none 0 0), (Value.slice none 0 0)] from ⟨_, _, _, _, rfl, (by exact Nat.le_refl 0), Rd.nil, (by exact Nat.le_refl 0), Rd.nil⟩) (show T_ward_Plan.E _ (T_ward_Plan.mk ([] : List Int) ([] : List Int) false) [(Value.slice none 0 0), (Value.slice none 0 0), (Value.bool false)] from ⟨_, _, _, _, rfl, (by exact Nat.le_refl 0), Rd.nil, (by exact Nat.le_refl 0), Rd.nil⟩) rfl rfl rfl e
                · refine O1368.new fun h1387 x1388 O1389 => ?_
                  refine ⟨x1388, ?_⟩
                  have O1391 := O1389.nm
                  refine ⟨_, rfl, rfl, ?_⟩
                  refine O1391.stA 4 rfl rfl (Flats.cons trivial (Flats.cons trivial (Flats.cons trivial (Flats.cons trivial (Flats.cons trivial Flats.nil))))) fun h1392 O1393 => ?_
                  refine O1393.new fun h1394 x1395 O1396 => ?_
                  refine O1396.st0 5 rfl (Nat.le_of_ble_eq_true rfl) trivial fun h1398 O1399 => ?_
                  have O1400 := O1399.nil (aE (tell_int .i64)) none
                  have O1402 := O1400.nm
                  exact roadref3_Fallen.l0.walk (O1402.pick [0, 1, 2, 4, 3, 6, 5]).nm e_0 (show T_ward_Ward.E _ (T_ward_Ward.mk (0 : Int) (0 : Int) (0 : Int) ([] : List T_ward_Child) ([] : List Int)) [(Value.int .i64 (0 : Int)), (Value.int .i64 (0 : Int)), (Value.int .i64 (0 : Int)), (Value.slice none 0 0), (Value.slice none 0 0)] from ⟨_, _, _, _, rfl, (by exact Nat.le_refl 0), Rd.nil, (by exact Nat.le_refl 0), Rd.nil⟩) (show T_ward_Plan.E _ (T_ward_Plan.mk ([] : List Int) ([] : List Int) false) [(Value.slice none 0 0), (Value.slice none 0 0), (Value.bool false)] from ⟨_, _, _, _, rfl, (by exact Nat.le_refl 0), Rd.nil, (by exact Nat.le_refl 0), Rd.nil⟩) rfl rfl rfl e
              · refine O11.new fun h1403 x1404 O1405 => ?_
                refine ⟨x1404, ?_⟩
                refine O1405.appE0 T_ward_Child.T rfl rfl (Rd.srcE r46 T_ward_Child.T O1405.s rfl) (by decide) g19 fun A1409 c1410 h1411 x1413 O1412 => ?_
                refine ⟨_, _, _, rfl, ?_⟩
                have O1415 := O1412.nm
                refine ⟨_, rfl, rfl, ?_⟩
                refine O1415.stA 3 rfl rfl (Flats.cons trivial (Flats.cons trivial (Flats.cons trivial (Flats.cons trivial (Flats.cons trivial Flats.nil))))) fun h1416 O1417 => ?_
                refine O1417.new fun h1418 x1419 O1420 => ?_
                refine O1420.st0 5 rfl (Nat.le_of_ble_eq_true rfl) trivial fun h1422 O1423 => ?_
                have O1424 := O1423.nil (aE (tell_int .i64)) none
                have O1426 := O1424.nm
                exact roadref3_Fallen.l0.walk (O1426.pick [0, 1, 2, 3, 4, 6, 5]).nm e_0 (show T_ward_Ward.E _ (T_ward_Ward.mk (0 : Int) (0 : Int) (0 : Int) ([] : List T_ward_Child) ([] : List Int)) [(Value.int .i64 (0 : Int)), (Value.int .i64 (0 : Int)), (Value.int .i64 (0 : Int)), (Value.slice none 0 0), (Value.slice none 0 0)] from ⟨_, _, _, _, rfl, (by exact Nat.le_refl 0), Rd.nil, (by exact Nat.le_refl 0), Rd.nil⟩) (show T_ward_Plan.E _ (T_ward_Plan.mk ([] : List Int) ([] : List Int) false) [(Value.slice none 0 0), (Value.slice none 0 0), (Value.bool false)] from ⟨_, _, _, _, rfl, (by exact Nat.le_refl 0), Rd.nil, (by exact Nat.le_refl 0), Rd.nil⟩) rfl rfl rfl e
            · refine ⟨?_, ?_⟩
              · refine O11.appE0 T_ward_Child.T rfl rfl (Rd.srcE r46 T_ward_Child.T O11.s rfl) (by decide) g19 fun A1429 c1430 h1431 x1433 O1432 => ?_
                refine ⟨_, _, _, rfl, ?_⟩
                refine ⟨?_, ?_⟩
                · refine ⟨_, ld0 (Sub.refl _) (O1432.all 0 rfl) (T_ward_Ward.g0 e_0), _, rfl, ?_⟩
                  refine ⟨Ext.refl _, ?_⟩
                  refine ⟨?_, ?_⟩
                  · refine O1432.new fun h1435 x1436 O1437 => ?_
                    refine ⟨x1436, ?_⟩
                    have O1439 := O1437.nm
                    refine ⟨_, rfl, rfl, ?_⟩
                    refine O1439.stA 4 rfl rfl (Flats.cons trivial (Flats.cons trivial (Flats.cons trivial (Flats.cons trivial (Flats.cons trivial Flats.nil))))) fun h1440 O1441 => ?_
                    refine O1441.new fun h1442 x1443 O1444 => ?_
                    refine O1444.st0 5 rfl (Nat.le_of_ble_eq_true rfl) trivial fun h1446 O1447 => ?_
                    have O1448 := O1447.nil (aE (tell_int .i64)) none
                    have O1450 := O1448.nm
                    exact roadref3_Fallen.l0.walk (O1450.pick [0, 1, 2, 4, 3, 6, 5]).nm e_0 (show T_ward_Ward.E _ (T_ward_Ward.mk (0 : Int) (0 : Int) (0 : Int) ([] : List T_ward_Child) ([] : List Int)) [(Value.int .i64 (0 : Int)), (Value.int .i64 (0 : Int)), (Value.int .i64 (0 : Int)), (Value.slice none 0 0), (Value.slice none 0 0)] from ⟨_, _, _, _, rfl, (by exact Nat.le_refl 0), Rd.nil, (by exact Nat.le_refl 0), Rd.nil⟩) (show T_ward_Plan.E _ (T_ward_Plan.mk ([] : List Int) ([] : List Int) false) [(Value.slice none 0 0), (Value.slice none 0 0), (Value.bool false)] from ⟨_, _, _, _, rfl, (by exact Nat.le_refl 0), Rd.nil, (by exact Nat.le_refl 0), Rd.nil⟩) rfl rfl rfl e
                  · refine O1432.new fun h1451 x1452 O1453 => ?_
                    refine ⟨x1452, ?_⟩
                    have O1455 := O1453.nm
                    refine ⟨_, rfl, rfl, ?_⟩
                    refine O1455.stA 4 rfl rfl (Flats.cons trivial (Flats.cons trivial (Flats.cons trivial (Flats.cons trivial (Flats.cons trivial Flats.nil))))) fun h1456 O1457 => ?_
                    refine O1457.new fun h1458 x1459 O1460 => ?_
                    refine O1460.st0 5 rfl (Nat.le_of_ble_eq_true rfl) trivial fun h1462 O1463 => ?_
                    have O1464 := O1463.nil (aE (tell_int .i64)) none
                    have O1466 := O1464.nm
                    exact roadref3_Fallen.l0.walk (O1466.pick [0, 1, 2, 4, 3, 6, 5]).nm e_0 (show T_ward_Ward.E _ (T_ward_Ward.mk (0 : Int) (0 : Int) (0 : Int) ([] : List T_ward_Child) ([] : List Int)) [(Value.int .i64 (0 : Int)), (Value.int .i64 (0 : Int)), (Value.int .i64 (0 : Int)), (Value.slice none 0 0), (Value.slice none 0 0)] from ⟨_, _, _, _, rfl, (by exact Nat.le_refl 0), Rd.nil, (by exact Nat.le_refl 0), Rd.nil⟩) (show T_ward_Plan.E _ (T_ward_Plan.mk ([] : List Int) ([] : List Int) false) [(Value.slice none 0 0), (Value.slice none 0 0), (Value.bool false)] from ⟨_, _, _, _, rfl, (by exact Nat.le_refl 0), Rd.nil, (by exact Nat.le_refl 0), Rd.nil⟩) rfl rfl rfl e
                · refine O1432.new fun h1467 x1468 O1469 => ?_
                  refine ⟨x1468, ?_⟩
                  have O1471 := O1469.nm
                  refine ⟨_, ld0 (Sub.refl _) (O1471.all 0 rfl) (T_ward_Ward.g0 e_0), _, rfl, ?_⟩
                  refine ⟨Ext.refl _, ?_⟩
                  refine ⟨_, rfl, rfl, ?_⟩
                  refine O1471.stA 4 rfl rfl (Flats.cons trivial (Flats.cons trivial (Flats.cons trivial (Flats.cons trivial (Flats.cons trivial Flats.nil))))) fun h1472 O1473 => ?_
                  refine O1473.new fun h1474 x1475 O1476 => ?_
                  refine O1476.st0 5 rfl (Nat.le_of_ble_eq_true rfl) trivial fun h1478 O1479 => ?_
                  have O1480 := O1479.nil (aE (tell_int .i64)) none
                  have O1482 := O1480.nm
                  exact roadref3_Fallen.l0.walk (O1482.pick [0, 1, 2, 4, 3, 6, 5]).nm e_0 (show T_ward_Ward.E _ (T_ward_Ward.mk (0 : Int) (0 : Int) (0 : Int) ([] : List T_ward_Child) ([] : List Int)) [(Value.int .i64 (0 : Int)), (Value.int .i64 (0 : Int)), (Value.int .i64 (0 : Int)), (Value.slice none 0 0), (Value.slice none 0 0)] from ⟨_, _, _, _, rfl, (by exact Nat.le_refl 0), Rd.nil, (by exact Nat.le_refl 0), Rd.nil⟩) (show T_ward_Plan.E _ (T_ward_Plan.mk ([] : List Int) ([] : List Int) false) [(Value.slice none 0 0), (Value.slice none 0 0), (Value.bool false)] from ⟨_, _, _, _, rfl, (by exact Nat.le_refl 0), Rd.nil, (by exact Nat.le_refl 0), Rd.nil⟩) rfl rfl rfl e
              · refine O11.new fun h1483 x1484 O1485 => ?_
                refine ⟨x1484, ?_⟩
                refine ⟨?_, ?_⟩
                · refine ⟨_, ld0 (Sub.refl _) (O1485.all 0 rfl) (T_ward_Ward.g0 e_0), _, rfl, ?_⟩
                  refine ⟨Ext.refl _, ?_⟩
                  refine O1485.appE0 T_ward_Child.T rfl rfl (Rd.srcE r46 T_ward_Child.T O1485.s rfl) (by decide) g19 fun A1489 c1490 h1491 x1493 O1492 => ?_
                  refine ⟨_, _, _, rfl, ?_⟩
                  have O1495 := O1492.nm
                  refine ⟨_, rfl, rfl, ?_⟩
                  refine O1495.stA 3 rfl rfl (Flats.cons trivial (Flats.cons trivial (Flats.cons trivial (Flats.cons trivial (Flats.cons trivial Flats.nil))))) fun h1496 O1497 => ?_
                  refine O1497.new fun h1498 x1499 O1500 => ?_
                  refine O1500.st0 5 rfl (Nat.le_of_ble_eq_true rfl) trivial fun h1502 O1503 => ?_
                  have O1504 := O1503.nil (aE (tell_int .i64)) none
                  have O1506 := O1504.nm
                  exact roadref3_Fallen.l0.walk (O1506.pick [0, 1, 2, 3, 4, 6, 5]).nm e_0 (show T_ward_Ward.E _ (T_ward_Ward.mk (0 : Int) (0 : Int) (0 : Int) ([] : List T_ward_Child) ([] : List Int)) [(Value.int .i64 (0 : Int)), (Value.int .i64 (0 : Int)), (Value.int .i64 (0 : Int)), (Value.slice none 0 0), (Value.slice none 0 0)] from ⟨_, _, _, _, rfl, (by exact Nat.le_refl 0), Rd.nil, (by exact Nat.le_refl 0), Rd.nil⟩) (show T_ward_Plan.E _ (T_ward_Plan.mk ([] : List Int) ([] : List Int) false) [(Value.slice none 0 0), (Value.slice none 0 0), (Value.bool false)] from ⟨_, _, _, _, rfl, (by exact Nat.le_refl 0), Rd.nil, (by exact Nat.le_refl 0), Rd.nil⟩) rfl rfl rfl e
                · refine O1485.appE0 T_ward_Child.T rfl rfl (Rd.srcE r46 T_ward_Child.T O1485.s rfl) (by decide) g19 fun A1509 c1510 h1511 x1513 O1512 => ?_
                  refine ⟨_, _, _, rfl, ?_⟩
                  have O1515 := O1512.nm
                  refine ⟨_, ld0 (Sub.refl _) (O1515.all 0 rfl) (T_ward_Ward.g0 e_0), _, rfl, ?_⟩
                  refine ⟨Ext.refl _, ?_⟩
                  refine ⟨_, rfl, rfl, ?_⟩
                  refine O1515.stA 3 rfl rfl (Flats.cons trivial (Flats.cons trivial (Flats.cons trivial (Flats.cons trivial (Flats.cons trivial Flats.nil))))) fun h1516 O1517 => ?_
                  refine O1517.new fun h1518 x1519 O1520 => ?_
                  refine O1520.st0 5 rfl (Nat.le_of_ble_eq_true rfl) trivial fun h1522 O1523 => ?_
                  have O1524 := O1523.nil (aE (tell_int .i64)) none
                  have O1526 := O1524.nm
                  exact roadref3_Fallen.l0.walk (O1526.pick [0, 1, 2, 3, 4, 6, 5]).nm e_0 (show T_ward_Ward.E _ (T_ward_Ward.mk (0 : Int) (0 : Int) (0 : Int) ([] : List T_ward_Child) ([] : List Int)) [(Value.int .i64 (0 : Int)), (Value.int .i64 (0 : Int)), (Value.int .i64 (0 : Int)), (Value.slice none 0 0), (Value.slice none 0 0)] from ⟨_, _, _, _, rfl, (by exact Nat.le_refl 0), Rd.nil, (by exact Nat.le_refl 0), Rd.nil⟩) (show T_ward_Plan.E _ (T_ward_Plan.mk ([] : List Int) ([] : List Int) false) [(Value.slice none 0 0), (Value.slice none 0 0), (Value.bool false)] from ⟨_, _, _, _, rfl, (by exact Nat.le_refl 0), Rd.nil, (by exact Nat.le_refl 0), Rd.nil⟩) rfl rfl rfl e
          · refine ⟨?_, ?_⟩
            · refine O11.appE0 T_ward_Child.T rfl rfl (Rd.srcE r46 T_ward_Child.T O11.s rfl) (by decide) g19 fun A1529 c1530 h1531 x1533 O1532 => ?_
              refine ⟨_, _, _, rfl, ?_⟩
              refine ⟨?_, ?_⟩
              · refine ⟨_, ld0 (Sub.refl _) (O1532.all 0 rfl) (T_ward_Ward.g0 e_0), _, rfl, ?_⟩
                refine ⟨Ext.refl _, ?_⟩
                refine ⟨?_, ?_⟩
                · refine ⟨_, ldk (k := 1) (Sub.refl _) (O1532.all 0 rfl) (T_ward_Ward.g1 e_0), _, rfl, ?_⟩
                  refine ⟨Ext.refl _, ?_⟩
                  refine ⟨?_, ?_⟩
                  · refine O1532.new fun h1535 x1536 O1537 => ?_
                    refine ⟨x1536, ?_⟩
                    have O1539 := O1537.nm
                    refine ⟨_, rfl, rfl, ?_⟩
                    refine O1539.stA 4 rfl rfl (Flats.cons trivial (Flats.cons trivial (Flats.cons trivial (Flats.cons trivial (Flats.cons trivial Flats.nil))))) fun h1540 O1541 => ?_
                    refine O1541.new fun h1542 x1543 O1544 => ?_
                    refine O1544.st0 5 rfl (Nat.le_of_ble_eq_true rfl) trivial fun h1546 O1547 => ?_
                    have O1548 := O1547.nil (aE (tell_int .i64)) none
                    have O1550 := O1548.nm
                    exact roadref3_Fallen.l0.walk (O1550.pick [0, 1, 2, 4, 3, 6, 5]).nm e_0 (show T_ward_Ward.E _ (T_ward_Ward.mk (0 : Int) (0 : Int) (0 : Int) ([] : List T_ward_Child) ([] : List Int)) [(Value.int .i64 (0 : Int)), (Value.int .i64 (0 : Int)), (Value.int .i64 (0 : Int)), (Value.slice none 0 0), (Value.slice none 0 0)] from ⟨_, _, _, _, rfl, (by exact Nat.le_refl 0), Rd.nil, (by exact Nat.le_refl 0), Rd.nil⟩) (show T_ward_Plan.E _ (T_ward_Plan.mk ([] : List Int) ([] : List Int) false) [(Value.slice none 0 0), (Value.slice none 0 0), (Value.bool false)] from ⟨_, _, _, _, rfl, (by exact Nat.le_refl 0), Rd.nil, (by exact Nat.le_refl 0), Rd.nil⟩) rfl rfl rfl e
                  · refine O1532.new fun h1551 x1552 O1553 => ?_
                    refine ⟨x1552, ?_⟩
                    have O1555 := O1553.nm
                    refine ⟨_, rfl, rfl, ?_⟩
                    refine O1555.stA 4 rfl rfl (Flats.cons trivial (Flats.cons trivial (Flats.cons trivial (Flats.cons trivial (Flats.cons trivial Flats.nil))))) fun h1556 O1557 => ?_
                    refine O1557.new fun h1558 x1559 O1560 => ?_
                    refine O1560.st0 5 rfl (Nat.le_of_ble_eq_true rfl) trivial fun h1562 O1563 => ?_
                    have O1564 := O1563.nil (aE (tell_int .i64)) none
                    have O1566 := O1564.nm
                    exact roadref3_Fallen.l0.walk (O1566.pick [0, 1, 2, 4, 3, 6, 5]).nm e_0 (show T_ward_Ward.E _ (T_ward_Ward.mk (0 : Int) (0 : Int) (0 : Int) ([] : List T_ward_Child) ([] : List Int)) [(Value.int .i64 (0 : Int)), (Value.int .i64 (0 : Int)), (Value.int .i64 (0 : Int)), (Value.slice none 0 0), (Value.slice none 0 0)] from ⟨_, _, _, _, rfl, (by exact Nat.le_refl 0), Rd.nil, (by exact Nat.le_refl 0), Rd.nil⟩) (show T_ward_Plan.E _ (T_ward_Plan.mk ([] : List Int) ([] : List Int) false) [(Value.slice none 0 0), (Value.slice none 0 0), (Value.bool false)] from ⟨_, _, _, _, rfl, (by exact Nat.le_refl 0), Rd.nil, (by exact Nat.le_refl 0), Rd.nil⟩) rfl rfl rfl e
                · refine O1532.new fun h1567 x1568 O1569 => ?_
                  refine ⟨x1568, ?_⟩
                  have O1571 := O1569.nm
                  refine ⟨_, ldk (k := 1) (Sub.refl _) (O1571.all 0 rfl) (T_ward_Ward.g1 e_0), _, rfl, ?_⟩
                  refine ⟨Ext.refl _, ?_⟩
                  refine ⟨_, rfl, rfl, ?_⟩
                  refine O1571.stA 4 rfl rfl (Flats.cons trivial (Flats.cons trivial (Flats.cons trivial (Flats.cons trivial (Flats.cons trivial Flats.nil))))) fun h1572 O1573 => ?_
                  refine O1573.new fun h1574 x1575 O1576 => ?_
                  refine O1576.st0 5 rfl (Nat.le_of_ble_eq_true rfl) trivial fun h1578 O1579 => ?_
                  have O1580 := O1579.nil (aE (tell_int .i64)) none
                  have O1582 := O1580.nm
                  exact roadref3_Fallen.l0.walk (O1582.pick [0, 1, 2, 4, 3, 6, 5]).nm e_0 (show T_ward_Ward.E _ (T_ward_Ward.mk (0 : Int) (0 : Int) (0 : Int) ([] : List T_ward_Child) ([] : List Int)) [(Value.int .i64 (0 : Int)), (Value.int .i64 (0 : Int)), (Value.int .i64 (0 : Int)), (Value.slice none 0 0), (Value.slice none 0 0)] from ⟨_, _, _, _, rfl, (by exact Nat.le_refl 0), Rd.nil, (by exact Nat.le_refl 0), Rd.nil⟩) (show T_ward_Plan.E _ (T_ward_Plan.mk ([] : List Int) ([] : List Int) false) [(Value.slice none 0 0), (Value.slice none 0 0), (Value.bool false)] from ⟨_, _, _, _, rfl, (by exact Nat.le_refl 0), Rd.nil, (by exact Nat.le_refl 0), Rd.nil⟩) rfl rfl rfl e
              · refine ⟨?_, ?_⟩
                · refine ⟨_, ldk (k := 1) (Sub.refl _) (O1532.all 0 rfl) (T_ward_Ward.g1 e_0), _, rfl, ?_⟩
                  refine ⟨Ext.refl _, ?_⟩
                  refine ⟨?_, ?_⟩
                  · refine ⟨_, ld0 (Sub.refl _) (O1532.all 0 rfl) (T_ward_Ward.g0 e_0), _, rfl, ?_⟩
                    refine ⟨Ext.refl _, ?_⟩
                    refine ⟨?_, ?_⟩
                    · refine O1532.new fun h1583 x1584 O1585 => ?_
                      refine ⟨x1584, ?_⟩
                      have O1587 := O1585.nm
                      refine ⟨_, rfl, rfl, ?_⟩
                      refine O1587.stA 4 rfl rfl (Flats.cons trivial (Flats.cons trivial (Flats.cons trivial (Flats.cons trivial (Flats.cons trivial Flats.nil))))) fun h1588 O1589 => ?_
                      refine O1589.new fun h1590 x1591 O1592 => ?_
                      refine O1592.st0 5 rfl (Nat.le_of_ble_eq_true rfl) trivial fun h1594 O1595 => ?_
                      have O1596 := O1595.nil (aE (tell_int .i64)) none
                      have O1598 := O1596.nm
                      exact roadref3_Fallen.l0.walk (O1598.pick [0, 1, 2, 4, 3, 6, 5]).nm e_0 (show T_ward_Ward.E _ (T_ward_Ward.mk (0 : Int) (0 : Int) (0 : Int) ([] : List T_ward_Child) ([] : List Int)) [(Value.int .i64 (0 : Int)), (Value.int .i64 (0 : Int)), (Value.int .i64 (0 : Int)), (Value.slice none 0 0), (Value.slice none 0 0)] from ⟨_, _, _, _, rfl, (by exact Nat.le_refl 0), Rd.nil, (by exact Nat.le_refl 0), Rd.nil⟩) (show T_ward_Plan.E _ (T_ward_Plan.mk ([] : List Int) ([] : List Int) false) [(Value.slice none 0 0), (Value.slice none 0 0), (Value.bool false)] from ⟨_, _, _, _, rfl, (by exact Nat.le_refl 0), Rd.nil, (by exact Nat.le_refl 0), Rd.nil⟩) rfl rfl rfl e
                    · refine O1532.new fun h1599 x1600 O1601 => ?_
                      refine ⟨x1600, ?_⟩
                      have O1603 := O1601.nm
                      refine ⟨_, rfl, rfl, ?_⟩
                      refine O1603.stA 4 rfl rfl (Flats.cons trivial (Flats.cons trivial (Flats.cons trivial (Flats.cons trivial (Flats.cons trivial Flats.nil))))) fun h1604 O1605 => ?_
                      refine O1605.new fun h1606 x1607 O1608 => ?_
                      refine O1608.st0 5 rfl (Nat.le_of_ble_eq_true rfl) trivial fun h1610 O1611 => ?_
                      have O1612 := O1611.nil (aE (tell_int .i64)) none
                      have O1614 := O1612.nm
                      exact roadref3_Fallen.l0.walk (O1614.pick [0, 1, 2, 4, 3, 6, 5]).nm e_0 (show T_ward_Ward.E _ (T_ward_Ward.mk (0 : Int) (0 : Int) (0 : Int) ([] : List T_ward_Child) ([] : List Int)) [(Value.int .i64 (0 : Int)), (Value.int .i64 (0 : Int)), (Value.int .i64 (0 : Int)), (Value.slice none 0 0), (Value.slice none 0 0)] from ⟨_, _, _, _, rfl, (by exact Nat.le_refl 0), Rd.nil, (by exact Nat.le_refl 0), Rd.nil⟩) (show T_ward_Plan.E _ (T_ward_Plan.mk ([] : List Int) ([] : List Int) false) [(Value.slice none 0 0), (Value.slice none 0 0), (Value.bool false)] from ⟨_, _, _, _, rfl, (by exact Nat.le_refl 0), Rd.nil, (by exact Nat.le_refl 0), Rd.nil⟩) rfl rfl rfl e
                  · refine O1532.new fun h1615 x1616 O1617 => ?_
                    refine ⟨x1616, ?_⟩
                    have O1619 := O1617.nm
                    refine ⟨_, ld0 (Sub.refl _) (O1619.all 0 rfl) (T_ward_Ward.g0 e_0), _, rfl, ?_⟩
                    refine ⟨Ext.refl _, ?_⟩
                    refine ⟨_, rfl, rfl, ?_⟩
                    refine O1619.stA 4 rfl rfl (Flats.cons trivial (Flats.cons trivial (Flats.cons trivial (Flats.cons trivial (Flats.cons trivial Flats.nil))))) fun h1620 O1621 => ?_
                    refine O1621.new fun h1622 x1623 O1624 => ?_
                    refine O1624.st0 5 rfl (Nat.le_of_ble_eq_true rfl) trivial fun h1626 O1627 => ?_
                    have O1628 := O1627.nil (aE (tell_int .i64)) none
                    have O1630 := O1628.nm
                    exact roadref3_Fallen.l0.walk (O1630.pick [0, 1, 2, 4, 3, 6, 5]).nm e_0 (show T_ward_Ward.E _ (T_ward_Ward.mk (0 : Int) (0 : Int) (0 : Int) ([] : List T_ward_Child) ([] : List Int)) [(Value.int .i64 (0 : Int)), (Value.int .i64 (0 : Int)), (Value.int .i64 (0 : Int)), (Value.slice none 0 0), (Value.slice none 0 0)] from ⟨_, _, _, _, rfl, (by exact Nat.le_refl 0), Rd.nil, (by exact Nat.le_refl 0), Rd.nil⟩) (show T_ward_Plan.E _ (T_ward_Plan.mk ([] : List Int) ([] : List Int) false) [(Value.slice none 0 0), (Value.slice none 0 0), (Value.bool false)] from ⟨_, _, _, _, rfl, (by exact Nat.le_refl 0), Rd.nil, (by exact Nat.le_refl 0), Rd.nil⟩) rfl rfl rfl e
                · refine O1532.new fun h1631 x1632 O1633 => ?_
                  refine ⟨x1632, ?_⟩
                  refine ⟨?_, ?_⟩
                  · have O1635 := O1633.nm
                    refine ⟨_, ld0 (Sub.refl _) (O1635.all 0 rfl) (T_ward_Ward.g0 e_0), _, rfl, ?_⟩
                    refine ⟨Ext.refl _, ?_⟩
                    refine ⟨_, ldk (k := 1) (Sub.refl _) (O1635.all 0 rfl) (T_ward_Ward.g1 e_0), _, rfl, ?_⟩
                    refine ⟨Ext.refl _, ?_⟩
                    refine ⟨_, rfl, rfl, ?_⟩
                    refine O1635.stA 4 rfl rfl (Flats.cons trivial (Flats.cons trivial (Flats.cons trivial (Flats.cons trivial (Flats.cons trivial Flats.nil))))) fun h1636 O1637 => ?_
                    refine O1637.new fun h1638 x1639 O1640 => ?_
                    refine O1640.st0 5 rfl (Nat.le_of_ble_eq_true rfl) trivial fun h1642 O1643 => ?_
                    have O1644 := O1643.nil (aE (tell_int .i64)) none
                    have O1646 := O1644.nm
                    exact roadref3_Fallen.l0.walk (O1646.pick [0, 1, 2, 4, 3, 6, 5]).nm e_0 (show T_ward_Ward.E _ (T_ward_Ward.mk (0 : Int) (0 : Int) (0 : Int) ([] : List T_ward_Child) ([] : List Int)) [(Value.int .i64 (0 : Int)), (Value.int .i64 (0 : Int)), (Value.int .i64 (0 : Int)), (Value.slice none 0 0), (Value.slice none 0 0)] from ⟨_, _, _, _, rfl, (by exact Nat.le_refl 0), Rd.nil, (by exact Nat.le_refl 0), Rd.nil⟩) (show T_ward_Plan.E _ (T_ward_Plan.mk ([] : List Int) ([] : List Int) false) [(Value.slice none 0 0), (Value.slice none 0 0), (Value.bool false)] from ⟨_, _, _, _, rfl, (by exact Nat.le_refl 0), Rd.nil, (by exact Nat.le_refl 0), Rd.nil⟩) rfl rfl rfl e
                  · have O1647 := O1633.nm
                    refine ⟨_, ldk (k := 1) (Sub.refl _) (O1647.all 0 rfl) (T_ward_Ward.g1 e_0), _, rfl, ?_⟩
                    refine ⟨Ext.refl _, ?_⟩
                    refine ⟨_, ld0 (Sub.refl _) (O1647.all 0 rfl) (T_ward_Ward.g0 e_0), _, rfl, ?_⟩
                    refine ⟨Ext.refl _, ?_⟩
                    refine ⟨_, rfl, rfl, ?_⟩
                    refine O1647.stA 4 rfl rfl (Flats.cons trivial (Flats.cons trivial (Flats.cons trivial (Flats.cons trivial (Flats.cons trivial Flats.nil))))) fun h1648 O1649 => ?_
                    refine O1649.new fun h1650 x1651 O1652 => ?_
                    refine O1652.st0 5 rfl (Nat.le_of_ble_eq_true rfl) trivial fun h1654 O1655 => ?_
                    have O1656 := O1655.nil (aE (tell_int .i64)) none
                    have O1658 := O1656.nm
                    exact roadref3_Fallen.l0.walk (O1658.pick [0, 1, 2, 4, 3, 6, 5]).nm e_0 (show T_ward_Ward.E _ (T_ward_Ward.mk (0 : Int) (0 : Int) (0 : Int) ([] : List T_ward_Child) ([] : List Int)) [(Value.int .i64 (0 : Int)), (Value.int .i64 (0 : Int)), (Value.int .i64 (0 : Int)), (Value.slice none 0 0), (Value.slice none 0 0)] from ⟨_, _, _, _, rfl, (by exact Nat.le_refl 0), Rd.nil, (by exact Nat.le_refl 0), Rd.nil⟩) (show T_ward_Plan.E _ (T_ward_Plan.mk ([] : List Int) ([] : List Int) false) [(Value.slice none 0 0), (Value.slice none 0 0), (Value.bool false)] from ⟨_, _, _, _, rfl, (by exact Nat.le_refl 0), Rd.nil, (by exact Nat.le_refl 0), Rd.nil⟩) rfl rfl rfl e
            · refine O11.new fun h1659 x1660 O1661 => ?_
              refine ⟨x1660, ?_⟩
              refine ⟨?_, ?_⟩
              · refine ⟨_, ld0 (Sub.refl _) (O1661.all 0 rfl) (T_ward_Ward.g0 e_0), _, rfl, ?_⟩
                refine ⟨Ext.refl _, ?_⟩
                refine ⟨?_, ?_⟩
                · refine ⟨_, ldk (k := 1) (Sub.refl _) (O1661.all 0 rfl) (T_ward_Ward.g1 e_0), _, rfl, ?_⟩
                  refine ⟨Ext.refl _, ?_⟩
                  refine O1661.appE0 T_ward_Child.T rfl rfl (Rd.srcE r46 T_ward_Child.T O1661.s rfl) (by decide) g19 fun A1665 c1666 h1667 x1669 O1668 => ?_
                  refine ⟨_, _, _, rfl, ?_⟩
                  have O1671 := O1668.nm
                  refine ⟨_, rfl, rfl, ?_⟩
                  refine O1671.stA 3 rfl rfl (Flats.cons trivial (Flats.cons trivial (Flats.cons trivial (Flats.cons trivial (Flats.cons trivial Flats.nil))))) fun h1672 O1673 => ?_
                  refine O1673.new fun h1674 x1675 O1676 => ?_
                  refine O1676.st0 5 rfl (Nat.le_of_ble_eq_true rfl) trivial fun h1678 O1679 => ?_
                  have O1680 := O1679.nil (aE (tell_int .i64)) none
                  have O1682 := O1680.nm
                  exact roadref3_Fallen.l0.walk (O1682.pick [0, 1, 2, 3, 4, 6, 5]).nm e_0 (show T_ward_Ward.E _ (T_ward_Ward.mk (0 : Int) (0 : Int) (0 : Int) ([] : List T_ward_Child) ([] : List Int)) [(Value.int .i64 (0 : Int)), (Value.int .i64 (0 : Int)), (Value.int .i64 (0 : Int)), (Value.slice none 0 0), (Value.slice none 0 0)] from ⟨_, _, _, _, rfl, (by exact Nat.le_refl 0), Rd.nil, (by exact Nat.le_refl 0), Rd.nil⟩) (show T_ward_Plan.E _ (T_ward_Plan.mk ([] : List Int) ([] : List Int) false) [(Value.slice none 0 0), (Value.slice none 0 0), (Value.bool false)] from ⟨_, _, _, _, rfl, (by exact Nat.le_refl 0), Rd.nil, (by exact Nat.le_refl 0), Rd.nil⟩) rfl rfl rfl e
                · refine O1661.appE0 T_ward_Child.T rfl rfl (Rd.srcE r46 T_ward_Child.T O1661.s rfl) (by decide) g19 fun A1685 c1686 h1687 x1689 O1688 => ?_
                  refine ⟨_, _, _, rfl, ?_⟩
                  have O1691 := O1688.nm
                  refine ⟨_, ldk (k := 1) (Sub.refl _) (O1691.all 0 rfl) (T_ward_Ward.g1 e_0), _, rfl, ?_⟩
                  refine ⟨Ext.refl _, ?_⟩
                  refine ⟨_, rfl, rfl, ?_⟩
                  refine O1691.stA 3 rfl rfl (Flats.cons trivial (Flats.cons trivial (Flats.cons trivial (Flats.cons trivial (Flats.cons trivial Flats.nil))))) fun h1692 O1693 => ?_
                  refine O1693.new fun h1694 x1695 O1696 => ?_
                  refine O1696.st0 5 rfl (Nat.le_of_ble_eq_true rfl) trivial fun h1698 O1699 => ?_
                  have O1700 := O1699.nil (aE (tell_int .i64)) none
                  have O1702 := O1700.nm
                  exact roadref3_Fallen.l0.walk (O1702.pick [0, 1, 2, 3, 4, 6, 5]).nm e_0 (show T_ward_Ward.E _ (T_ward_Ward.mk (0 : Int) (0 : Int) (0 : Int) ([] : List T_ward_Child) ([] : List Int)) [(Value.int .i64 (0 : Int)), (Value.int .i64 (0 : Int)), (Value.int .i64 (0 : Int)), (Value.slice none 0 0), (Value.slice none 0 0)] from ⟨_, _, _, _, rfl, (by exact Nat.le_refl 0), Rd.nil, (by exact Nat.le_refl 0), Rd.nil⟩) (show T_ward_Plan.E _ (T_ward_Plan.mk ([] : List Int) ([] : List Int) false) [(Value.slice none 0 0), (Value.slice none 0 0), (Value.bool false)] from ⟨_, _, _, _, rfl, (by exact Nat.le_refl 0), Rd.nil, (by exact Nat.le_refl 0), Rd.nil⟩) rfl rfl rfl e
              · refine ⟨?_, ?_⟩
                · refine ⟨_, ldk (k := 1) (Sub.refl _) (O1661.all 0 rfl) (T_ward_Ward.g1 e_0), _, rfl, ?_⟩
                  refine ⟨Ext.refl _, ?_⟩
                  refine ⟨?_, ?_⟩
                  · refine ⟨_, ld0 (Sub.refl _) (O1661.all 0 rfl) (T_ward_Ward.g0 e_0), _, rfl, ?_⟩
                    refine ⟨Ext.refl _, ?_⟩
                    refine O1661.appE0 T_ward_Child.T rfl rfl (Rd.srcE r46 T_ward_Child.T O1661.s rfl) (by decide) g19 fun A1705 c1706 h1707 x1709 O1708 => ?_
                    refine ⟨_, _, _, rfl, ?_⟩
                    have O1711 := O1708.nm
                    refine ⟨_, rfl, rfl, ?_⟩
                    refine O1711.stA 3 rfl rfl (Flats.cons trivial (Flats.cons trivial (Flats.cons trivial (Flats.cons trivial (Flats.cons trivial Flats.nil))))) fun h1712 O1713 => ?_
                    refine O1713.new fun h1714 x1715 O1716 => ?_
                    refine O1716.st0 5 rfl (Nat.le_of_ble_eq_true rfl) trivial fun h1718 O1719 => ?_
                    have O1720 := O1719.nil (aE (tell_int .i64)) none
                    have O1722 := O1720.nm
                    exact roadref3_Fallen.l0.walk (O1722.pick [0, 1, 2, 3, 4, 6, 5]).nm e_0 (show T_ward_Ward.E _ (T_ward_Ward.mk (0 : Int) (0 : Int) (0 : Int) ([] : List T_ward_Child) ([] : List Int)) [(Value.int .i64 (0 : Int)), (Value.int .i64 (0 : Int)), (Value.int .i64 (0 : Int)), (Value.slice none 0 0), (Value.slice none 0 0)] from ⟨_, _, _, _, rfl, (by exact Nat.le_refl 0), Rd.nil, (by exact Nat.le_refl 0), Rd.nil⟩) (show T_ward_Plan.E _ (T_ward_Plan.mk ([] : List Int) ([] : List Int) false) [(Value.slice none 0 0), (Value.slice none 0 0), (Value.bool false)] from ⟨_, _, _, _, rfl, (by exact Nat.le_refl 0), Rd.nil, (by exact Nat.le_refl 0), Rd.nil⟩) rfl rfl rfl e
                  · refine O1661.appE0 T_ward_Child.T rfl rfl (Rd.srcE r46 T_ward_Child.T O1661.s rfl) (by decide) g19 fun A1725 c1726 h1727 x1729 O1728 => ?_
                    refine ⟨_, _, _, rfl, ?_⟩
                    have O1731 := O1728.nm
                    refine ⟨_, ld0 (Sub.refl _) (O1731.all 0 rfl) (T_ward_Ward.g0 e_0), _, rfl, ?_⟩
                    refine ⟨Ext.refl _, ?_⟩
                    refine ⟨_, rfl, rfl, ?_⟩
                    refine O1731.stA 3 rfl rfl (Flats.cons trivial (Flats.cons trivial (Flats.cons trivial (Flats.cons trivial (Flats.cons trivial Flats.nil))))) fun h1732 O1733 => ?_
                    refine O1733.new fun h1734 x1735 O1736 => ?_
                    refine O1736.st0 5 rfl (Nat.le_of_ble_eq_true rfl) trivial fun h1738 O1739 => ?_
                    have O1740 := O1739.nil (aE (tell_int .i64)) none
                    have O1742 := O1740.nm
                    exact roadref3_Fallen.l0.walk (O1742.pick [0, 1, 2, 3, 4, 6, 5]).nm e_0 (show T_ward_Ward.E _ (T_ward_Ward.mk (0 : Int) (0 : Int) (0 : Int) ([] : List T_ward_Child) ([] : List Int)) [(Value.int .i64 (0 : Int)), (Value.int .i64 (0 : Int)), (Value.int .i64 (0 : Int)), (Value.slice none 0 0), (Value.slice none 0 0)] from ⟨_, _, _, _, rfl, (by exact Nat.le_refl 0), Rd.nil, (by exact Nat.le_refl 0), Rd.nil⟩) (show T_ward_Plan.E _ (T_ward_Plan.mk ([] : List Int) ([] : List Int) false) [(Value.slice none 0 0), (Value.slice none 0 0), (Value.bool false)] from ⟨_, _, _, _, rfl, (by exact Nat.le_refl 0), Rd.nil, (by exact Nat.le_refl 0), Rd.nil⟩) rfl rfl rfl e
                · refine O1661.appE0 T_ward_Child.T rfl rfl (Rd.srcE r46 T_ward_Child.T O1661.s rfl) (by decide) g19 fun A1745 c1746 h1747 x1749 O1748 => ?_
                  refine ⟨_, _, _, rfl, ?_⟩
                  refine ⟨?_, ?_⟩
                  · have O1751 := O1748.nm
                    refine ⟨_, ld0 (Sub.refl _) (O1751.all 0 rfl) (T_ward_Ward.g0 e_0), _, rfl, ?_⟩
                    refine ⟨Ext.refl _, ?_⟩
                    refine ⟨_, ldk (k := 1) (Sub.refl _) (O1751.all 0 rfl) (T_ward_Ward.g1 e_0), _, rfl, ?_⟩
                    refine ⟨Ext.refl _, ?_⟩
                    refine ⟨_, rfl, rfl, ?_⟩
                    refine O1751.stA 3 rfl rfl (Flats.cons trivial (Flats.cons trivial (Flats.cons trivial (Flats.cons trivial (Flats.cons trivial Flats.nil))))) fun h1752 O1753 => ?_
                    refine O1753.new fun h1754 x1755 O1756 => ?_
                    refine O1756.st0 5 rfl (Nat.le_of_ble_eq_true rfl) trivial fun h1758 O1759 => ?_
                    have O1760 := O1759.nil (aE (tell_int .i64)) none
                    have O1762 := O1760.nm
                    exact roadref3_Fallen.l0.walk (O1762.pick [0, 1, 2, 3, 4, 6, 5]).nm e_0 (show T_ward_Ward.E _ (T_ward_Ward.mk (0 : Int) (0 : Int) (0 : Int) ([] : List T_ward_Child) ([] : List Int)) [(Value.int .i64 (0 : Int)), (Value.int .i64 (0 : Int)), (Value.int .i64 (0 : Int)), (Value.slice none 0 0), (Value.slice none 0 0)] from ⟨_, _, _, _, rfl, (by exact Nat.le_refl 0), Rd.nil, (by exact Nat.le_refl 0), Rd.nil⟩) (show T_ward_Plan.E _ (T_ward_Plan.mk ([] : List Int) ([] : List Int) false) [(Value.slice none 0 0), (Value.slice none 0 0), (Value.bool false)] from ⟨_, _, _, _, rfl, (by exact Nat.le_refl 0), Rd.nil, (by exact Nat.le_refl 0), Rd.nil⟩) rfl rfl rfl e
                  · have O1763 := O1748.nm
                    refine ⟨_, ldk (k := 1) (Sub.refl _) (O1763.all 0 rfl) (T_ward_Ward.g1 e_0), _, rfl, ?_⟩
                    refine ⟨Ext.refl _, ?_⟩
                    refine ⟨_, ld0 (Sub.refl _) (O1763.all 0 rfl) (T_ward_Ward.g0 e_0), _, rfl, ?_⟩
                    refine ⟨Ext.refl _, ?_⟩
                    refine ⟨_, rfl, rfl, ?_⟩
                    refine O1763.stA 3 rfl rfl (Flats.cons trivial (Flats.cons trivial (Flats.cons trivial (Flats.cons trivial (Flats.cons trivial Flats.nil))))) fun h1764 O1765 => ?_
                    refine O1765.new fun h1766 x1767 O1768 => ?_
                    refine O1768.st0 5 rfl (Nat.le_of_ble_eq_true rfl) trivial fun h1770 O1771 => ?_
                    have O1772 := O1771.nil (aE (tell_int .i64)) none
                    have O1774 := O1772.nm
                    exact roadref3_Fallen.l0.walk (O1774.pick [0, 1, 2, 3, 4, 6, 5]).nm e_0 (show T_ward_Ward.E _ (T_ward_Ward.mk (0 : Int) (0 : Int) (0 : Int) ([] : List T_ward_Child) ([] : List Int)) [(Value.int .i64 (0 : Int)), (Value.int .i64 (0 : Int)), (Value.int .i64 (0 : Int)), (Value.slice none 0 0), (Value.slice none 0 0)] from ⟨_, _, _, _, rfl, (by exact Nat.le_refl 0), Rd.nil, (by exact Nat.le_refl 0), Rd.nil⟩) (show T_ward_Plan.E _ (T_ward_Plan.mk ([] : List Int) ([] : List Int) false) [(Value.slice none 0 0), (Value.slice none 0 0), (Value.bool false)] from ⟨_, _, _, _, rfl, (by exact Nat.le_refl 0), Rd.nil, (by exact Nat.le_refl 0), Rd.nil⟩) rfl rfl rfl e
      · refine ⟨?_, ?_⟩
        · refine O11.appE0 T_ward_Child.T rfl rfl (Rd.srcE r46 T_ward_Child.T O11.s rfl) (by decide) g19 fun A1777 c1778 h1779 x1781 O1780 => ?_
          refine ⟨_, _, _, rfl, ?_⟩
          refine ⟨?_, ?_⟩
          · refine ⟨_, ld0 (Sub.refl _) (O1780.all 0 rfl) (T_ward_Ward.g0 e_0), _, rfl, ?_⟩
            refine ⟨Ext.refl _, ?_⟩
            refine ⟨?_, ?_⟩
            · refine ⟨_, ldk (k := 1) (Sub.refl _) (O1780.all 0 rfl) (T_ward_Ward.g1 e_0), _, rfl, ?_⟩
              refine ⟨Ext.refl _, ?_⟩
              refine ⟨?_, ?_⟩
              · refine ⟨_, ldk (k := 2) (Sub.refl _) (O1780.all 0 rfl) (T_ward_Ward.g2 e_0), _, rfl, ?_⟩
                refine ⟨Ext.refl _, ?_⟩
                refine ⟨?_, ?_⟩
                · refine O1780.new fun h1783 x1784 O1785 => ?_
                  refine ⟨x1784, ?_⟩
                  have O1787 := O1785.nm
                  refine ⟨_, rfl, rfl, ?_⟩
                  refine O1787.stA 4 rfl rfl (Flats.cons trivial (Flats.cons trivial (Flats.cons trivial (Flats.cons trivial (Flats.cons trivial Flats.nil))))) fun h1788 O1789 => ?_
                  refine O1789.new fun h1790 x1791 O1792 => ?_
                  refine O1792.st0 5 rfl (Nat.le_of_ble_eq_true rfl) trivial fun h1794 O1795 => ?_
                  have O1796 := O1795.nil (aE (tell_int .i64)) none
                  have O1798 := O1796.nm
                  exact roadref3_Fallen.l0.walk (O1798.pick [0, 1, 2, 4, 3, 6, 5]).nm e_0 (show T_ward_Ward.E _ (T_ward_Ward.mk (0 : Int) (0 : Int) (0 : Int) ([] : List T_ward_Child) ([] : List Int)) [(Value.int .i64 (0 : Int)), (Value.int .i64 (0 : Int)), (Value.int .i64 (0 : Int)), (Value.slice none 0 0), (Value.slice none 0 0)] from ⟨_, _, _, _, rfl, (by exact Nat.le_refl 0), Rd.nil, (by exact Nat.le_refl 0), Rd.nil⟩) (show T_ward_Plan.E _ (T_ward_Plan.mk ([] : List Int) ([] : List Int) false) [(Value.slice none 0 0), (Value.slice none 0 0), (Value.bool false)] from ⟨_, _, _, _, rfl, (by exact Nat.le_refl 0), Rd.nil, (by exact Nat.le_refl 0), Rd.nil⟩) rfl rfl rfl e
                · refine O1780.new fun h1799 x1800 O1801 => ?_
                  refine ⟨x1800, ?_⟩
                  have O1803 := O1801.nm
                  refine ⟨_, rfl, rfl, ?_⟩
                  refine O1803.stA 4 rfl rfl (Flats.cons trivial (Flats.cons trivial (Flats.cons trivial (Flats.cons trivial (Flats.cons trivial Flats.nil))))) fun h1804 O1805 => ?_
                  refine O1805.new fun h1806 x1807 O1808 => ?_
                  refine O1808.st0 5 rfl (Nat.le_of_ble_eq_true rfl) trivial fun h1810 O1811 => ?_
                  have O1812 := O1811.nil (aE (tell_int .i64)) none
                  have O1814 := O1812.nm
                  exact roadref3_Fallen.l0.walk (O1814.pick [0, 1, 2, 4, 3, 6, 5]).nm e_0 (show T_ward_Ward.E _ (T_ward_Ward.mk (0 : Int) (0 : Int) (0 : Int) ([] : List T_ward_Child) ([] : List Int)) [(Value.int .i64 (0 : Int)), (Value.int .i64 (0 : Int)), (Value.int .i64 (0 : Int)), (Value.slice none 0 0), (Value.slice none 0 0)] from ⟨_, _, _, _, rfl, (by exact Nat.le_refl 0), Rd.nil, (by exact Nat.le_refl 0), Rd.nil⟩) (show T_ward_Plan.E _ (T_ward_Plan.mk ([] : List Int) ([] : List Int) false) [(Value.slice none 0 0), (Value.slice none 0 0), (Value.bool false)] from ⟨_, _, _, _, rfl, (by exact Nat.le_refl 0), Rd.nil, (by exact Nat.le_refl 0), Rd.nil⟩) rfl rfl rfl e
              · refine O1780.new fun h1815 x1816 O1817 => ?_
                refine ⟨x1816, ?_⟩
                have O1819 := O1817.nm
                refine ⟨_, ldk (k := 2) (Sub.refl _) (O1819.all 0 rfl) (T_ward_Ward.g2 e_0), _, rfl, ?_⟩
                refine ⟨Ext.refl _, ?_⟩
                refine ⟨_, rfl, rfl, ?_⟩
                refine O1819.stA 4 rfl rfl (Flats.cons trivial (Flats.cons trivial (Flats.cons trivial (Flats.cons trivial (Flats.cons trivial Flats.nil))))) fun h1820 O1821 => ?_
                refine O1821.new fun h1822 x1823 O1824 => ?_
                refine O1824.st0 5 rfl (Nat.le_of_ble_eq_true rfl) trivial fun h1826 O1827 => ?_
                have O1828 := O1827.nil (aE (tell_int .i64)) none
                have O1830 := O1828.nm
                exact roadref3_Fallen.l0.walk (O1830.pick [0, 1, 2, 4, 3, 6, 5]).nm e_0 (show T_ward_Ward.E _ (T_ward_Ward.mk (0 : Int) (0 : Int) (0 : Int) ([] : List T_ward_Child) ([] : List Int)) [(Value.int .i64 (0 : Int)), (Value.int .i64 (0 : Int)), (Value.int .i64 (0 : Int)), (Value.slice none 0 0), (Value.slice none 0 0)] from ⟨_, _, _, _, rfl, (by exact Nat.le_refl 0), Rd.nil, (by exact Nat.le_refl 0), Rd.nil⟩) (show T_ward_Plan.E _ (T_ward_Plan.mk ([] : List Int) ([] : List Int) false) [(Value.slice none 0 0), (Value.slice none 0 0), (Value.bool false)] from ⟨_, _, _, _, rfl, (by exact Nat.le_refl 0), Rd.nil, (by exact Nat.le_refl 0), Rd.nil⟩) rfl rfl rfl e
            · refine ⟨?_, ?_⟩
              · refine ⟨_, ldk (k := 2) (Sub.refl _) (O1780.all 0 rfl) (T_ward_Ward.g2 e_0), _, rfl, ?_⟩
                refine ⟨Ext.refl _, ?_⟩
                refine ⟨?_, ?_⟩
                · refine ⟨_, ldk (k := 1) (Sub.refl _) (O1780.all 0 rfl) (T_ward_Ward.g1 e_0), _, rfl, ?_⟩
                  refine ⟨Ext.refl _, ?_⟩
                  refine ⟨?_, ?_⟩
                  · refine O1780.new fun h1831 x1832 O1833 => ?_
                    refine ⟨x1832, ?_⟩
                    have O1835 := O1833.nm
                    refine ⟨_, rfl, rfl, ?_⟩
                    refine O1835.stA 4 rfl rfl (Flats.cons trivial (Flats.cons trivial (Flats.cons trivial (Flats.cons trivial (Flats.cons trivial Flats.nil))))) fun h1836 O1837 => ?_
                    refine O1837.new fun h1838 x1839 O1840 => ?_
                    refine O1840.st0 5 rfl (Nat.le_of_ble_eq_true rfl) trivial fun h1842 O1843 => ?_
                    have O1844 := O1843.nil (aE (tell_int .i64)) none
                    have O1846 := O1844.nm
                    exact roadref3_Fallen.l0.walk (O1846.pick [0, 1, 2, 4, 3, 6, 5]).nm e_0 (show T_ward_Ward.E _ (T_ward_Ward.mk (0 : Int) (0 : Int) (0 : Int) ([] : List T_ward_Child) ([] : List Int)) [(Value.int .i64 (0 : Int)), (Value.int .i64 (0 : Int)), (Value.int .i64 (0 : Int)), (Value.slice none 0 0), (Value.slice none 0 0)] from ⟨_, _, _, _, rfl, (by exact Nat.le_refl 0), Rd.nil, (by exact Nat.le_refl 0), Rd.nil⟩) (show T_ward_Plan.E _ (T_ward_Plan.mk ([] : List Int) ([] : List Int) false) [(Value.slice none 0 0), (Value.slice none 0 0), (Value.bool false)] from ⟨_, _, _, _, rfl, (by exact Nat.le_refl 0), Rd.nil, (by exact Nat.le_refl 0), Rd.nil⟩) rfl rfl rfl e
                  · refine O1780.new fun h1847 x1848 O1849 => ?_
                    refine ⟨x1848, ?_⟩
                    have O1851 := O1849.nm
                    refine ⟨_, rfl, rfl, ?_⟩
                    refine O1851.stA 4 rfl rfl (Flats.cons trivial (Flats.cons trivial (Flats.cons trivial (Flats.cons trivial (Flats.cons trivial Flats.nil))))) fun h1852 O1853 => ?_
                    refine O1853.new fun h1854 x1855 O1856 => ?_
                    refine O1856.st0 5 rfl (Nat.le_of_ble_eq_true rfl) trivial fun h1858 O1859 => ?_
                    have O1860 := O1859.nil (aE (tell_int .i64)) none
                    have O1862 := O1860.nm
                    exact roadref3_Fallen.l0.walk (O1862.pick [0, 1, 2, 4, 3, 6, 5]).nm e_0 (show T_ward_Ward.E _ (T_ward_Ward.mk (0 : Int) (0 : Int) (0 : Int) ([] : List T_ward_Child) ([] : List Int)) [(Value.int .i64 (0 : Int)), (Value.int .i64 (0 : Int)), (Value.int .i64 (0 : Int)), (Value.slice none 0 0), (Value.slice none 0 0)] from ⟨_, _, _, _, rfl, (by exact Nat.le_refl 0), Rd.nil, (by exact Nat.le_refl 0), Rd.nil⟩) (show T_ward_Plan.E _ (T_ward_Plan.mk ([] : List Int) ([] : List Int) false) [(Value.slice none 0 0), (Value.slice none 0 0), (Value.bool false)] from ⟨_, _, _, _, rfl, (by exact Nat.le_refl 0), Rd.nil, (by exact Nat.le_refl 0), Rd.nil⟩) rfl rfl rfl e
                · refine O1780.new fun h1863 x1864 O1865 => ?_
                  refine ⟨x1864, ?_⟩
                  have O1867 := O1865.nm
                  refine ⟨_, ldk (k := 1) (Sub.refl _) (O1867.all 0 rfl) (T_ward_Ward.g1 e_0), _, rfl, ?_⟩
                  refine ⟨Ext.refl _, ?_⟩
                  refine ⟨_, rfl, rfl, ?_⟩
                  refine O1867.stA 4 rfl rfl (Flats.cons trivial (Flats.cons trivial (Flats.cons trivial (Flats.cons trivial (Flats.cons trivial Flats.nil))))) fun h1868 O1869 => ?_
                  refine O1869.new fun h1870 x1871 O1872 => ?_
                  refine O1872.st0 5 rfl (Nat.le_of_ble_eq_true rfl) trivial fun h1874 O1875 => ?_
                  have O1876 := O1875.nil (aE (tell_int .i64)) none
                  have O1878 := O1876.nm
                  exact roadref3_Fallen.l0.walk (O1878.pick [0, 1, 2, 4, 3, 6, 5]).nm e_0 (show T_ward_Ward.E _ (T_ward_Ward.mk (0 : Int) (0 : Int) (0 : Int) ([] : List T_ward_Child) ([] : List Int)) [(Value.int .i64 (0 : Int)), (Value.int .i64 (0 : Int)), (Value.int .i64 (0 : Int)), (Value.slice none 0 0), (Value.slice none 0 0)] from ⟨_, _, _, _, rfl, (by exact Nat.le_refl 0), Rd.nil, (by exact Nat.le_refl 0), Rd.nil⟩) (show T_ward_Plan.E _ (T_ward_Plan.mk ([] : List Int) ([] : List Int) false) [(Value.slice none 0 0), (Value.slice none 0 0), (Value.bool false)] from ⟨_, _, _, _, rfl, (by exact Nat.le_refl 0), Rd.nil, (by exact Nat.le_refl 0), Rd.nil⟩) rfl rfl rfl e
              · refine O1780.new fun h1879 x1880 O1881 => ?_
                refine ⟨x1880, ?_⟩
                refine ⟨?_, ?_⟩
                · have O1883 := O1881.nm
                  refine ⟨_, ldk (k := 1) (Sub.refl _) (O1883.all 0 rfl) (T_ward_Ward.g1 e_0), _, rfl, ?_⟩
                  refine ⟨Ext.refl _, ?_⟩
                  refine ⟨_, ldk (k := 2) (Sub.refl _) (O1883.all 0 rfl) (T_ward_Ward.g2 e_0), _, rfl, ?_⟩
                  refine ⟨Ext.refl _, ?_⟩
                  refine ⟨_, rfl, rfl, ?_⟩
                  refine O1883.stA 4 rfl rfl (Flats.cons trivial (Flats.cons trivial (Flats.cons trivial (Flats.cons trivial (Flats.cons trivial Flats.nil))))) fun h1884 O1885 => ?_
                  refine O1885.new fun h1886 x1887 O1888 => ?_
                  refine O1888.st0 5 rfl (Nat.le_of_ble_eq_true rfl) trivial fun h1890 O1891 => ?_
                  have O1892 := O1891.nil (aE (tell_int .i64)) none
                  have O1894 := O1892.nm
                  exact roadref3_Fallen.l0.walk (O1894.pick [0, 1, 2, 4, 3, 6, 5]).nm e_0 (show T_ward_Ward.E _ (T_ward_Ward.mk (0 : Int) (0 : Int) (0 : Int) ([] : List T_ward_Child) ([] : List Int)) [(Value.int .i64 (0 : Int)), (Value.int .i64 (0 : Int)), (Value.int .i64 (0 : Int)), (Value.slice none 0 0), (Value.slice none 0 0)] from ⟨_, _, _, _, rfl, (by exact Nat.le_refl 0), Rd.nil, (by exact Nat.le_refl 0), Rd.nil⟩) (show T_ward_Plan.E _ (T_ward_Plan.mk ([] : List Int) ([] : List Int) false) [(Value.slice none 0 0), (Value.slice none 0 0), (Value.bool false)] from ⟨_, _, _, _, rfl, (by exact Nat.le_refl 0), Rd.nil, (by exact Nat.le_refl 0), Rd.nil⟩) rfl rfl rfl e
                · have O1895 := O1881.nm
                  refine ⟨_, ldk (k := 2) (Sub.refl _) (O1895.all 0 rfl) (T_ward_Ward.g2 e_0), _, rfl, ?_⟩
                  refine ⟨Ext.refl _, ?_⟩
                  refine ⟨_, ldk (k := 1) (Sub.refl _) (O1895.all 0 rfl) (T_ward_Ward.g1 e_0), _, rfl, ?_⟩
                  refine ⟨Ext.refl _, ?_⟩
                  refine ⟨_, rfl, rfl, ?_⟩
                  refine O1895.stA 4 rfl rfl (Flats.cons trivial (Flats.cons trivial (Flats.cons trivial (Flats.cons trivial (Flats.cons trivial Flats.nil))))) fun h1896 O1897 => ?_
                  refine O1897.new fun h1898 x1899 O1900 => ?_
                  refine O1900.st0 5 rfl (Nat.le_of_ble_eq_true rfl) trivial fun h1902 O1903 => ?_
                  have O1904 := O1903.nil (aE (tell_int .i64)) none
                  have O1906 := O1904.nm
                  exact roadref3_Fallen.l0.walk (O1906.pick [0, 1, 2, 4, 3, 6, 5]).nm e_0 (show T_ward_Ward.E _ (T_ward_Ward.mk (0 : Int) (0 : Int) (0 : Int) ([] : List T_ward_Child) ([] : List Int)) [(Value.int .i64 (0 : Int)), (Value.int .i64 (0 : Int)), (Value.int .i64 (0 : Int)), (Value.slice none 0 0), (Value.slice none 0 0)] from ⟨_, _, _, _, rfl, (by exact Nat.le_refl 0), Rd.nil, (by exact Nat.le_refl 0), Rd.nil⟩) (show T_ward_Plan.E _ (T_ward_Plan.mk ([] : List Int) ([] : List Int) false) [(Value.slice none 0 0), (Value.slice none 0 0), (Value.bool false)] from ⟨_, _, _, _, rfl, (by exact Nat.le_refl 0), Rd.nil, (by exact Nat.le_refl 0), Rd.nil⟩) rfl rfl rfl e
          · refine ⟨?_, ?_⟩
            · refine ⟨_, ldk (k := 1) (Sub.refl _) (O1780.all 0 rfl) (T_ward_Ward.g1 e_0), _, rfl, ?_⟩
              refine ⟨Ext.refl _, ?_⟩
              refine ⟨?_, ?_⟩
              · refine ⟨_, ld0 (Sub.refl _) (O1780.all 0 rfl) (T_ward_Ward.g0 e_0), _, rfl, ?_⟩
                refine ⟨Ext.refl _, ?_⟩
                refine ⟨?_, ?_⟩
                · refine ⟨_, ldk (k := 2) (Sub.refl _) (O1780.all 0 rfl) (T_ward_Ward.g2 e_0), _, rfl, ?_⟩
                  refine ⟨Ext.refl _, ?_⟩
                  refine ⟨?_, ?_⟩
                  · refine O1780.new fun h1907 x1908 O1909 => ?_
                    refine ⟨x1908, ?_⟩
                    have O1911 := O1909.nm
                    refine ⟨_, rfl, rfl, ?_⟩
                    refine O1911.stA 4 rfl rfl (Flats.cons trivial (Flats.cons trivial (Flats.cons trivial (Flats.cons trivial (Flats.cons trivial Flats.nil))))) fun h1912 O1913 => ?_
                    refine O1913.new fun h1914 x1915 O1916 => ?_
                    refine O1916.st0 5 rfl (Nat.le_of_ble_eq_true rfl) trivial fun h1918 O1919 => ?_
                    have O1920 := O1919.nil (aE (tell_int .i64)) none
                    have O1922 := O1920.nm
                    exact roadref3_Fallen.l0.walk (O1922.pick [0, 1, 2, 4, 3, 6, 5]).nm e_0 (show T_ward_Ward.E _ (T_ward_Ward.mk (0 : Int) (0 : Int) (0 : Int) ([] : List T_ward_Child) ([] : List Int)) [(Value.int .i64 (0 : Int)), (Value.int .i64 (0 : Int)), (Value.int .i64 (0 : Int)), (Value.slice none 0 0), (Value.slice none 0 0)] from ⟨_, _, _, _, rfl, (by exact Nat.le_refl 0), Rd.nil, (by exact Nat.le_refl 0), Rd.nil⟩) (show T_ward_Plan.E _ (T_ward_Plan.mk ([] : List Int) ([] : List Int) false) [(Value.slice none 0 0), (Value.slice none 0 0), (Value.bool false)] from ⟨_, _, _, _, rfl, (by exact Nat.le_refl 0), Rd.nil, (by exact Nat.le_refl 0), Rd.nil⟩) rfl rfl rfl e
                  · refine O1780.new fun h1923 x1924 O1925 => ?_
                    refine ⟨x1924, ?_⟩
                    have O1927 := O1925.nm
                    refine ⟨_, rfl, rfl, ?_⟩
                    refine O1927.stA 4 rfl rfl (Flats.cons trivial (Flats.cons trivial (Flats.cons trivial (Flats.cons trivial (Flats.cons trivial Flats.nil))))) fun h1928 O1929 => ?_
                    refine O1929.new fun h1930 x1931 O1932 => ?_
                    refine O1932.st0 5 rfl (Nat.le_of_ble_eq_true rfl) trivial fun h1934 O1935 => ?_
                    have O1936 := O1935.nil (aE (tell_int .i64)) none
                    have O1938 := O1936.nm
                    exact roadref3_Fallen.l0.walk (O1938.pick [0, 1, 2, 4, 3, 6, 5]).nm e_0 (show T_ward_Ward.E _ (T_ward_Ward.mk (0 : Int) (0 : Int) (0 : Int) ([] : List T_ward_Child) ([] : List Int)) [(Value.int .i64 (0 : Int)), (Value.int .i64 (0 : Int)), (Value.int .i64 (0 : Int)), (Value.slice none 0 0), (Value.slice none 0 0)] from ⟨_, _, _, _, rfl, (by exact Nat.le_refl 0), Rd.nil, (by exact Nat.le_refl 0), Rd.nil⟩) (show T_ward_Plan.E _ (T_ward_Plan.mk ([] : List Int) ([] : List Int) false) [(Value.slice none 0 0), (Value.slice none 0 0), (Value.bool false)] from ⟨_, _, _, _, rfl, (by exact Nat.le_refl 0), Rd.nil, (by exact Nat.le_refl 0), Rd.nil⟩) rfl rfl rfl e
                · refine O1780.new fun h1939 x1940 O1941 => ?_
                  refine ⟨x1940, ?_⟩
                  have O1943 := O1941.nm
                  refine ⟨_, ldk (k := 2) (Sub.refl _) (O1943.all 0 rfl) (T_ward_Ward.g2 e_0), _, rfl, ?_⟩
                  refine ⟨Ext.refl _, ?_⟩
                  refine ⟨_, rfl, rfl, ?_⟩
                  refine O1943.stA 4 rfl rfl (Flats.cons trivial (Flats.cons trivial (Flats.cons trivial (Flats.cons trivial (Flats.cons trivial Flats.nil))))) fun h1944 O1945 => ?_
                  refine O1945.new fun h1946 x1947 O1948 => ?_
                  refine O1948.st0 5 rfl (Nat.le_of_ble_eq_true rfl) trivial fun h1950 O1951 => ?_
                  have O1952 := O1951.nil (aE (tell_int .i64)) none
                  have O1954 := O1952.nm
                  exact roadref3_Fallen.l0.walk (O1954.pick [0, 1, 2, 4, 3, 6, 5]).nm e_0 (show T_ward_Ward.E _ (T_ward_Ward.mk (0 : Int) (0 : Int) (0 : Int) ([] : List T_ward_Child) ([] : List Int)) [(Value.int .i64 (0 : Int)), (Value.int .i64 (0 : Int)), (Value.int .i64 (0 : Int)), (Value.slice none 0 0), (Value.slice none 0 0)] from ⟨_, _, _, _, rfl, (by exact Nat.le_refl 0), Rd.nil, (by exact Nat.le_refl 0), Rd.nil⟩) (show T_ward_Plan.E _ (T_ward_Plan.mk ([] : List Int) ([] : List Int) false) [(Value.slice none 0 0), (Value.slice none 0 0), (Value.bool false)] from ⟨_, _, _, _, rfl, (by exact Nat.le_refl 0), Rd.nil, (by exact Nat.le_refl 0), Rd.nil⟩) rfl rfl rfl e
              · refine ⟨?_, ?_⟩
                · refine ⟨_, ldk (k := 2) (Sub.refl _) (O1780.all 0 rfl) (T_ward_Ward.g2 e_0), _, rfl, ?_⟩
                  refine ⟨Ext.refl _, ?_⟩
                  refine ⟨?_, ?_⟩
                  · refine ⟨_, ld0 (Sub.refl _) (O1780.all 0 rfl) (T_ward_Ward.g0 e_0), _, rfl, ?_⟩
                    refine ⟨Ext.refl _, ?_⟩
                    refine ⟨?_, ?_⟩
                    · refine O1780.new fun h1955 x1956 O1957 => ?_
                      refine ⟨x1956, ?_⟩
                      have O1959 := O1957.nm
                      refine ⟨_, rfl, rfl, ?_⟩
                      refine O1959.stA 4 rfl rfl (Flats.cons trivial (Flats.cons trivial (Flats.cons trivial (Flats.cons trivial (Flats.cons trivial Flats.nil))))) fun h1960 O1961 => ?_
                      refine O1961.new fun h1962 x1963 O1964 => ?_
                      refine O1964.st0 5 rfl (Nat.le_of_ble_eq_true rfl) trivial fun h1966 O1967 => ?_
                      have O1968 := O1967.nil (aE (tell_int .i64)) none
                      have O1970 := O1968.nm
                      exact roadref3_Fallen.l0.walk (O1970.pick [0, 1, 2, 4, 3, 6, 5]).nm e_0 (show T_ward_Ward.E _ (T_ward_Ward.mk (0 : Int) (0 : Int) (0 : Int) ([] : List T_ward_Child) ([] : List Int)) [(Value.int .i64 (0 : Int)), (Value.int .i64 (0 : Int)), (Value.int .i64 (0 : Int)), (Value.slice none 0 0), (Value.slice none 0 0)] from ⟨_, _, _, _, rfl, (by exact Nat.le_refl 0), Rd.nil, (by exact Nat.le_refl 0), Rd.nil⟩) (show T_ward_Plan.E _ (T_ward_Plan.mk ([] : List Int) ([] : List Int) false) [(Value.slice none 0 0), (Value.slice none 0 0), (Value.bool false)] from ⟨_, _, _, _, rfl, (by exact Nat.le_refl 0), Rd.nil, (by exact Nat.le_refl 0), Rd.nil⟩) rfl rfl rfl e
                    · refine O1780.new fun h1971 x1972 O1973 => ?_
                      refine ⟨x1972, ?_⟩
                      have O1975 := O1973.nm
                      refine ⟨_, rfl, rfl, ?_⟩
                      refine O1975.stA 4 rfl rfl (Flats.cons trivial (Flats.cons trivial (Flats.cons trivial (Flats.cons trivial (Flats.cons trivial Flats.nil))))) fun h1976 O1977 => ?_
                      refine O1977.new fun h1978 x1979 O1980 => ?_
                      refine O1980.st0 5 rfl (Nat.le_of_ble_eq_true rfl) trivial fun h1982 O1983 => ?_
                      have O1984 := O1983.nil (aE (tell_int .i64)) none
                      have O1986 := O1984.nm
                      exact roadref3_Fallen.l0.walk (O1986.pick [0, 1, 2, 4, 3, 6, 5]).nm e_0 (show T_ward_Ward.E _ (T_ward_Ward.mk (0 : Int) (0 : Int) (0 : Int) ([] : List T_ward_Child) ([] : List Int)) [(Value.int .i64 (0 : Int)), (Value.int .i64 (0 : Int)), (Value.int .i64 (0 : Int)), (Value.slice none 0 0), (Value.slice none 0 0)] from ⟨_, _, _, _, rfl, (by exact Nat.le_refl 0), Rd.nil, (by exact Nat.le_refl 0), Rd.nil⟩) (show T_ward_Plan.E _ (T_ward_Plan.mk ([] : List Int) ([] : List Int) false) [(Value.slice none 0 0), (Value.slice none 0 0), (Value.bool false)] from ⟨_, _, _, _, rfl, (by exact Nat.le_refl 0), Rd.nil, (by exact Nat.le_refl 0), Rd.nil⟩) rfl rfl rfl e
                  · refine O1780.new fun h1987 x1988 O1989 => ?_
                    refine ⟨x1988, ?_⟩
                    have O1991 := O1989.nm
                    refine ⟨_, ld0 (Sub.refl _) (O1991.all 0 rfl) (T_ward_Ward.g0 e_0), _, rfl, ?_⟩
                    refine ⟨Ext.refl _, ?_⟩
                    refine ⟨_, rfl, rfl, ?_⟩
                    refine O1991.stA 4 rfl rfl (Flats.cons trivial (Flats.cons trivial (Flats.cons trivial (Flats.cons trivial (Flats.cons trivial Flats.nil))))) fun h1992 O1993 => ?_
                    refine O1993.new fun h1994 x1995 O1996 => ?_
                    refine O1996.st0 5 rfl (Nat.le_of_ble_eq_true rfl) trivial fun h1998 O1999 => ?_
                    have O2000 := O1999.nil (aE (tell_int .i64)) none
                    have O2002 := O2000.nm
                    exact roadref3_Fallen.l0.walk (O2002.pick [0, 1, 2, 4, 3, 6, 5]).nm e_0 (show T_ward_Ward.E _ (T_ward_Ward.mk (0 : Int) (0 : Int) (0 : Int) ([] : List T_ward_Child) ([] : List Int)) [(Value.int .i64 (0 : Int)), (Value.int .i64 (0 : Int)), (Value.int .i64 (0 : Int)), (Value.slice none 0 0), (Value.slice none 0 0)] from ⟨_, _, _, _, rfl, (by exact Nat.le_refl 0), Rd.nil, (by exact Nat.le_refl 0), Rd.nil⟩) (show T_ward_Plan.E _ (T_ward_Plan.mk ([] : List Int) ([] : List Int) false) [(Value.slice none 0 0), (Value.slice none 0 0), (Value.bool false)] from ⟨_, _, _, _, rfl, (by exact Nat.le_refl 0), Rd.nil, (by exact Nat.le_refl 0), Rd.nil⟩) rfl rfl rfl e
                · refine O1780.new fun h2003 x2004 O2005 => ?_
                  refine ⟨x2004, ?_⟩
                  refine ⟨?_, ?_⟩
                  · have O2007 := O2005.nm
                    refine ⟨_, ld0 (Sub.refl _) (O2007.all 0 rfl) (T_ward_Ward.g0 e_0), _, rfl, ?_⟩
                    refine ⟨Ext.refl _, ?_⟩
                    refine ⟨_, ldk (k := 2) (Sub.refl _) (O2007.all 0 rfl) (T_ward_Ward.g2 e_0), _, rfl, ?_⟩
                    refine ⟨Ext.refl _, ?_⟩
                    refine ⟨_, rfl, rfl, ?_⟩
                    refine O2007.stA 4 rfl rfl (Flats.cons trivial (Flats.cons trivial (Flats.cons trivial (Flats.cons trivial (Flats.cons trivial Flats.nil))))) fun h2008 O2009 => ?_
                    refine O2009.new fun h2010 x2011 O2012 => ?_
                    refine O2012.st0 5 rfl (Nat.le_of_ble_eq_true rfl) trivial fun h2014 O2015 => ?_
                    have O2016 := O2015.nil (aE (tell_int .i64)) none
                    have O2018 := O2016.nm
                    exact roadref3_Fallen.l0.walk (O2018.pick [0, 1, 2, 4, 3, 6, 5]).nm e_0 (show T_ward_Ward.E _ (T_ward_Ward.mk (0 : Int) (0 : Int) (0 : Int) ([] : List T_ward_Child) ([] : List Int)) [(Value.int .i64 (0 : Int)), (Value.int .i64 (0 : Int)), (Value.int .i64 (0 : Int)), (Value.slice none 0 0), (Value.slice none 0 0)] from ⟨_, _, _, _, rfl, (by exact Nat.le_refl 0), Rd.nil, (by exact Nat.le_refl 0), Rd.nil⟩) (show T_ward_Plan.E _ (T_ward_Plan.mk ([] : List Int) ([] : List Int) false) [(Value.slice none 0 0), (Value.slice none 0 0), (Value.bool false)] from ⟨_, _, _, _, rfl, (by exact Nat.le_refl 0), Rd.nil, (by exact Nat.le_refl 0), Rd.nil⟩) rfl rfl rfl e
                  · have O2019 := O2005.nm
                    refine ⟨_, ldk (k := 2) (Sub.refl _) (O2019.all 0 rfl) (T_ward_Ward.g2 e_0), _, rfl, ?_⟩
                    refine ⟨Ext.refl _, ?_⟩
                    refine ⟨_, ld0 (Sub.refl _) (O2019.all 0 rfl) (T_ward_Ward.g0 e_0), _, rfl, ?_⟩
                    refine ⟨Ext.refl _, ?_⟩
                    refine ⟨_, rfl, rfl, ?_⟩
                    refine O2019.stA 4 rfl rfl (Flats.cons trivial (Flats.cons trivial (Flats.cons trivial (Flats.cons trivial (Flats.cons trivial Flats.nil))))) fun h2020 O2021 => ?_
                    refine O2021.new fun h2022 x2023 O2024 => ?_
                    refine O2024.st0 5 rfl (Nat.le_of_ble_eq_true rfl) trivial fun h2026 O2027 => ?_
                    have O2028 := O2027.nil (aE (tell_int .i64)) none
                    have O2030 := O2028.nm
                    exact roadref3_Fallen.l0.walk (O2030.pick [0, 1, 2, 4, 3, 6, 5]).nm e_0 (show T_ward_Ward.E _ (T_ward_Ward.mk (0 : Int) (0 : Int) (0 : Int) ([] : List T_ward_Child) ([] : List Int)) [(Value.int .i64 (0 : Int)), (Value.int .i64 (0 : Int)), (Value.int .i64 (0 : Int)), (Value.slice none 0 0), (Value.slice none 0 0)] from ⟨_, _, _, _, rfl, (by exact Nat.le_refl 0), Rd.nil, (by exact Nat.le_refl 0), Rd.nil⟩) (show T_ward_Plan.E _ (T_ward_Plan.mk ([] : List Int) ([] : List Int) false) [(Value.slice none 0 0), (Value.slice none 0 0), (Value.bool false)] from ⟨_, _, _, _, rfl, (by exact Nat.le_refl 0), Rd.nil, (by exact Nat.le_refl 0), Rd.nil⟩) rfl rfl rfl e
            · refine ⟨?_, ?_⟩
              · refine ⟨_, ldk (k := 2) (Sub.refl _) (O1780.all 0 rfl) (T_ward_Ward.g2 e_0), _, rfl, ?_⟩
                refine ⟨Ext.refl _, ?_⟩
                refine ⟨?_, ?_⟩
                · refine ⟨_, ld0 (Sub.refl _) (O1780.all 0 rfl) (T_ward_Ward.g0 e_0), _, rfl, ?_⟩
                  refine ⟨Ext.refl _, ?_⟩
                  refine ⟨?_, ?_⟩
                  · refine ⟨_, ldk (k := 1) (Sub.refl _) (O1780.all 0 rfl) (T_ward_Ward.g1 e_0), _, rfl, ?_⟩
                    refine ⟨Ext.refl _, ?_⟩
                    refine ⟨?_, ?_⟩
                    · refine O1780.new fun h2031 x2032 O2033 => ?_
                      refine ⟨x2032, ?_⟩
                      have O2035 := O2033.nm
                      refine ⟨_, rfl, rfl, ?_⟩
                      refine O2035.stA 4 rfl rfl (Flats.cons trivial (Flats.cons trivial (Flats.cons trivial (Flats.cons trivial (Flats.cons trivial Flats.nil))))) fun h2036 O2037 => ?_
                      refine O2037.new fun h2038 x2039 O2040 => ?_
                      refine O2040.st0 5 rfl (Nat.le_of_ble_eq_true rfl) trivial fun h2042 O2043 => ?_
                      have O2044 := O2043.nil (aE (tell_int .i64)) none
                      have O2046 := O2044.nm
                      exact roadref3_Fallen.l0.walk (O2046.pick [0, 1, 2, 4, 3, 6, 5]).nm e_0 (show T_ward_Ward.E _ (T_ward_Ward.mk (0 : Int) (0 : Int) (0 : Int) ([] : List T_ward_Child) ([] : List Int)) [(Value.int .i64 (0 : Int)), (Value.int .i64 (0 : Int)), (Value.int .i64 (0 : Int)), (Value.slice none 0 0), (Value.slice none 0 0)] from ⟨_, _, _, _, rfl, (by exact Nat.le_refl 0), Rd.nil, (by exact Nat.le_refl 0), Rd.nil⟩) (show T_ward_Plan.E _ (T_ward_Plan.mk ([] : List Int) ([] : List Int) false) [(Value.slice none 0 0), (Value.slice none 0 0), (Value.bool false)] from ⟨_, _, _, _, rfl, (by exact Nat.le_refl 0), Rd.nil, (by exact Nat.le_refl 0), Rd.nil⟩) rfl rfl rfl e
                    · refine O1780.new fun h2047 x2048 O2049 => ?_
                      refine ⟨x2048, ?_⟩
                      have O2051 := O2049.nm
                      refine ⟨_, rfl, rfl, ?_⟩
                      refine O2051.stA 4 rfl rfl (Flats.cons trivial (Flats.cons trivial (Flats.cons trivial (Flats.cons trivial (Flats.cons trivial Flats.nil))))) fun h2052 O2053 => ?_
                      refine O2053.new fun h2054 x2055 O2056 => ?_
                      refine O2056.st0 5 rfl (Nat.le_of_ble_eq_true rfl) trivial fun h2058 O2059 => ?_
                      have O2060 := O2059.nil (aE (tell_int .i64)) none
                      have O2062 := O2060.nm
                      exact roadref3_Fallen.l0.walk (O2062.pick [0, 1, 2, 4, 3, 6, 5]).nm e_0 (show T_ward_Ward.E _ (T_ward_Ward.mk (0 : Int) (0 : Int) (0 : Int) ([] : List T_ward_Child) ([] : List Int)) [(Value.int .i64 (0 : Int)), (Value.int .i64 (0 : Int)), (Value.int .i64 (0 : Int)), (Value.slice none 0 0), (Value.slice none 0 0)] from ⟨_, _, _, _, rfl, (by exact Nat.le_refl 0), Rd.nil, (by exact Nat.le_refl 0), Rd.nil⟩) (show T_ward_Plan.E _ (T_ward_Plan.mk ([] : List Int) ([] : List Int) false) [(Value.slice none 0 0), (Value.slice none 0 0), (Value.bool false)] from ⟨_, _, _, _, rfl, (by exact Nat.le_refl 0), Rd.nil, (by exact Nat.le_refl 0), Rd.nil⟩) rfl rfl rfl e
                  · refine O1780.new fun h2063 x2064 O2065 => ?_
                    refine ⟨x2064, ?_⟩
                    have O2067 := O2065.nm
                    refine ⟨_, ldk (k := 1) (Sub.refl _) (O2067.all 0 rfl) (T_ward_Ward.g1 e_0), _, rfl, ?_⟩
                    refine ⟨Ext.refl _, ?_⟩
                    refine ⟨_, rfl, rfl, ?_⟩
                    refine O2067.stA 4 rfl rfl (Flats.cons trivial (Flats.cons trivial (Flats.cons trivial (Flats.cons trivial (Flats.cons trivial Flats.nil))))) fun h2068 O2069 => ?_
                    refine O2069.new fun h2070 x2071 O2072 => ?_
                    refine O2072.st0 5 rfl (Nat.le_of_ble_eq_true rfl) trivial fun h2074 O2075 => ?_
                    have O2076 := O2075.nil (aE (tell_int .i64)) none
                    have O2078 := O2076.nm
                    exact roadref3_Fallen.l0.walk (O2078.pick [0, 1, 2, 4, 3, 6, 5]).nm e_0 (show T_ward_Ward.E _ (T_ward_Ward.mk (0 : Int) (0 : Int) (0 : Int) ([] : List T_ward_Child) ([] : List Int)) [(Value.int .i64 (0 : Int)), (Value.int .i64 (0 : Int)), (Value.int .i64 (0 : Int)), (Value.slice none 0 0), (Value.slice none 0 0)] from ⟨_, _, _, _, rfl, (by exact Nat.le_refl 0), Rd.nil, (by exact Nat.le_refl 0), Rd.nil⟩) (show T_ward_Plan.E _ (T_ward_Plan.mk ([] : List Int) ([] : List Int) false) [(Value.slice none 0 0), (Value.slice none 0 0), (Value.bool false)] from ⟨_, _, _, _, rfl, (by exact Nat.le_refl 0), Rd.nil, (by exact Nat.le_refl 0), Rd.nil⟩) rfl rfl rfl e
                · refine ⟨?_, ?_⟩
                  · refine ⟨_, ldk (k := 1) (Sub.refl _) (O1780.all 0 rfl) (T_ward_Ward.g1 e_0), _, rfl, ?_⟩
                    refine ⟨Ext.refl _, ?_⟩
                    refine ⟨?_, ?_⟩
                    · refine ⟨_, ld0 (Sub.refl _) (O1780.all 0 rfl) (T_ward_Ward.g0 e_0), _, rfl, ?_⟩
                      refine ⟨Ext.refl _, ?_⟩
                      refine ⟨?_, ?_⟩
                      · refine O1780.new fun h2079 x2080 O2081 => ?_
                        refine ⟨x2080, ?_⟩
                        have O2083 := O2081.nm
                        refine ⟨_, rfl, rfl, ?_⟩
                        refine O2083.stA 4 rfl rfl (Flats.cons trivial (Flats.cons trivial (Flats.cons trivial (Flats.cons trivial (Flats.cons trivial Flats.nil))))) fun h2084 O2085 => ?_
                        refine O2085.new fun h2086 x2087 O2088 => ?_
                        refine O2088.st0 5 rfl (Nat.le_of_ble_eq_true rfl) trivial fun h2090 O2091 => ?_
                        have O2092 := O2091.nil (aE (tell_int .i64)) none
                        have O2094 := O2092.nm
                        exact roadref3_Fallen.l0.walk (O2094.pick [0, 1, 2, 4, 3, 6, 5]).nm e_0 (show T_ward_Ward.E _ (T_ward_Ward.mk (0 : Int) (0 : Int) (0 : Int) ([] : List T_ward_Child) ([] : List Int)) [(Value.int .i64 (0 : Int)), (Value.int .i64 (0 : Int)), (Value.int .i64 (0 : Int)), (Value.slice none 0 0), (Value.slice none 0 0)] from ⟨_, _, _, _, rfl, (by exact Nat.le_refl 0), Rd.nil, (by exact Nat.le_refl 0), Rd.nil⟩) (show T_ward_Plan.E _ (T_ward_Plan.mk ([] : List Int) ([] : List Int) false) [(Value.slice none 0 0), (Value.slice none 0 0), (Value.bool false)] from ⟨_, _, _, _, rfl, (by exact Nat.le_refl 0), Rd.nil, (by exact Nat.le_refl 0), Rd.nil⟩) rfl rfl rfl e
                      · refine O1780.new fun h2095 x2096 O2097 => ?_
                        refine ⟨x2096, ?_⟩
                        have O2099 := O2097.nm
                        refine ⟨_, rfl, rfl, ?_⟩
                        refine O2099.stA 4 rfl rfl (Flats.cons trivial (Flats.cons trivial (Flats.cons trivial (Flats.cons trivial (Flats.cons trivial Flats.nil))))) fun h2100 O2101 => ?_
                        refine O2101.new fun h2102 x2103 O2104 => ?_
                        refine O2104.st0 5 rfl (Nat.le_of_ble_eq_true rfl) trivial fun h2106 O2107 => ?_
                        have O2108 := O2107.nil (aE (tell_int .i64)) none
                        have O2110 := O2108.nm
                        exact roadref3_Fallen.l0.walk (O2110.pick [0, 1, 2, 4, 3, 6, 5]).nm e_0 (show T_ward_Ward.E _ (T_ward_Ward.mk (0 : Int) (0 : Int) (0 : Int) ([] : List T_ward_Child) ([] : List Int)) [(Value.int .i64 (0 : Int)), (Value.int .i64 (0 : Int)), (Value.int .i64 (0 : Int)), (Value.slice none 0 0), (Value.slice none 0 0)] from ⟨_, _, _, _, rfl, (by exact Nat.le_refl 0), Rd.nil, (by exact Nat.le_refl 0), Rd.nil⟩) (show T_ward_Plan.E _ (T_ward_Plan.mk ([] : List Int) ([] : List Int) false) [(Value.slice none 0 0), (Value.slice none 0 0), (Value.bool false)] from ⟨_, _, _, _, rfl, (by exact Nat.le_refl 0), Rd.nil, (by exact Nat.le_refl 0), Rd.nil⟩) rfl rfl rfl e
                    · refine O1780.new fun h2111 x2112 O2113 => ?_
                      refine ⟨x2112, ?_⟩
                      have O2115 := O2113.nm
                      refine ⟨_, ld0 (Sub.refl _) (O2115.all 0 rfl) (T_ward_Ward.g0 e_0), _, rfl, ?_⟩
                      refine ⟨Ext.refl _, ?_⟩
                      refine ⟨_, rfl, rfl, ?_⟩
                      refine O2115.stA 4 rfl rfl (Flats.cons trivial (Flats.cons trivial (Flats.cons trivial (Flats.cons trivial (Flats.cons trivial Flats.nil))))) fun h2116 O2117 => ?_
                      refine O2117.new fun h2118 x2119 O2120 => ?_
                      refine O2120.st0 5 rfl (Nat.le_of_ble_eq_true rfl) trivial fun h2122 O2123 => ?_
                      have O2124 := O2123.nil (aE (tell_int .i64)) none
                      have O2126 := O2124.nm
                      exact roadref3_Fallen.l0.walk (O2126.pick [0, 1, 2, 4, 3, 6, 5]).nm e_0 (show T_ward_Ward.E _ (T_ward_Ward.mk (0 : Int) (0 : Int) (0 : Int) ([] : List T_ward_Child) ([] : List Int)) [(Value.int .i64 (0 : Int)), (Value.int .i64 (0 : Int)), (Value.int .i64 (0 : Int)), (Value.slice none 0 0), (Value.slice none 0 0)] from ⟨_, _, _, _, rfl, (by exact Nat.le_refl 0), Rd.nil, (by exact Nat.le_refl 0), Rd.nil⟩) (show T_ward_Plan.E _ (T_ward_Plan.mk ([] : List Int) ([] : List Int) false) [(Value.slice none 0 0), (Value.slice none 0 0), (Value.bool false)] from ⟨_, _, _, _, rfl, (by exact Nat.le_refl 0), Rd.nil, (by exact Nat.le_refl 0), Rd.nil⟩) rfl rfl rfl e
                  · refine O1780.new fun h2127 x2128 O2129 => ?_
                    refine ⟨x2128, ?_⟩
                    refine ⟨?_, ?_⟩
                    · have O2131 := O2129.nm
                      refine ⟨_, ld0 (Sub.refl _) (O2131.all 0 rfl) (T_ward_Ward.g0 e_0), _, rfl, ?_⟩
                      refine ⟨Ext.refl _, ?_⟩
                      refine ⟨_, ldk (k := 1) (Sub.refl _) (O2131.all 0 rfl) (T_ward_Ward.g1 e_0), _, rfl, ?_⟩
                      refine ⟨Ext.refl _, ?_⟩
                      refine ⟨_, rfl, rfl, ?_⟩
                      refine O2131.stA 4 rfl rfl (Flats.cons trivial (Flats.cons trivial (Flats.cons trivial (Flats.cons trivial (Flats.cons trivial Flats.nil))))) fun h2132 O2133 => ?_
                      refine O2133.new fun h2134 x2135 O2136 => ?_
                      refine O2136.st0 5 rfl (Nat.le_of_ble_eq_true rfl) trivial fun h2138 O2139 => ?_
                      have O2140 := O2139.nil (aE (tell_int .i64)) none
                      have O2142 := O2140.nm
                      exact roadref3_Fallen.l0.walk (O2142.pick [0, 1, 2, 4, 3, 6, 5]).nm e_0 (show T_ward_Ward.E _ (T_ward_Ward.mk (0 : Int) (0 : Int) (0 : Int) ([] : List T_ward_Child) ([] : List Int)) [(Value.int .i64 (0 : Int)), (Value.int .i64 (0 : Int)), (Value.int .i64 (0 : Int)), (Value.slice none 0 0), (Value.slice none 0 0)] from ⟨_, _, _, _, rfl, (by exact Nat.le_refl 0), Rd.nil, (by exact Nat.le_refl 0), Rd.nil⟩) (show T_ward_Plan.E _ (T_ward_Plan.mk ([] : List Int) ([] : List Int) false) [(Value.slice none 0 0), (Value.slice none 0 0), (Value.bool false)] from ⟨_, _, _, _, rfl, (by exact Nat.le_refl 0), Rd.nil, (by exact Nat.le_refl 0), Rd.nil⟩) rfl rfl rfl e
                    · have O2143 := O2129.nm
                      refine ⟨_, ldk (k := 1) (Sub.refl _) (O2143.all 0 rfl) (T_ward_Ward.g1 e_0), _, rfl, ?_⟩
                      refine ⟨Ext.refl _, ?_⟩
                      refine ⟨_, ld0 (Sub.refl _) (O2143.all 0 rfl) (T_ward_Ward.g0 e_0), _, rfl, ?_⟩
                      refine ⟨Ext.refl _, ?_⟩
                      refine ⟨_, rfl, rfl, ?_⟩
                      refine O2143.stA 4 rfl rfl (Flats.cons trivial (Flats.cons trivial (Flats.cons trivial (Flats.cons trivial (Flats.cons trivial Flats.nil))))) fun h2144 O2145 => ?_
                      refine O2145.new fun h2146 x2147 O2148 => ?_
                      refine O2148.st0 5 rfl (Nat.le_of_ble_eq_true rfl) trivial fun h2150 O2151 => ?_
                      have O2152 := O2151.nil (aE (tell_int .i64)) none
                      have O2154 := O2152.nm
                      exact roadref3_Fallen.l0.walk (O2154.pick [0, 1, 2, 4, 3, 6, 5]).nm e_0 (show T_ward_Ward.E _ (T_ward_Ward.mk (0 : Int) (0 : Int) (0 : Int) ([] : List T_ward_Child) ([] : List Int)) [(Value.int .i64 (0 : Int)), (Value.int .i64 (0 : Int)), (Value.int .i64 (0 : Int)), (Value.slice none 0 0), (Value.slice none 0 0)] from ⟨_, _, _, _, rfl, (by exact Nat.le_refl 0), Rd.nil, (by exact Nat.le_refl 0), Rd.nil⟩) (show T_ward_Plan.E _ (T_ward_Plan.mk ([] : List Int) ([] : List Int) false) [(Value.slice none 0 0), (Value.slice none 0 0), (Value.bool false)] from ⟨_, _, _, _, rfl, (by exact Nat.le_refl 0), Rd.nil, (by exact Nat.le_refl 0), Rd.nil⟩) rfl rfl rfl e
              · refine O1780.new fun h2155 x2156 O2157 => ?_
                refine ⟨x2156, ?_⟩
                refine ⟨?_, ?_⟩
                · have O2159 := O2157.nm
                  refine ⟨_, ld0 (Sub.refl _) (O2159.all 0 rfl) (T_ward_Ward.g0 e_0), _, rfl, ?_⟩
                  refine ⟨Ext.refl _, ?_⟩
                  refine ⟨?_, ?_⟩
                  · refine ⟨_, ldk (k := 1) (Sub.refl _) (O2159.all 0 rfl) (T_ward_Ward.g1 e_0), _, rfl, ?_⟩
                    refine ⟨Ext.refl _, ?_⟩
                    refine ⟨_, ldk (k := 2) (Sub.refl _) (O2159.all 0 rfl) (T_ward_Ward.g2 e_0), _, rfl, ?_⟩
                    refine ⟨Ext.refl _, ?_⟩
                    refine ⟨_, rfl, rfl, ?_⟩
                    refine O2159.stA 4 rfl rfl (Flats.cons trivial (Flats.cons trivial (Flats.cons trivial (Flats.cons trivial (Flats.cons trivial Flats.nil))))) fun h2160 O2161 => ?_
                    refine O2161.new fun h2162 x2163 O2164 => ?_
                    refine O2164.st0 5 rfl (Nat.le_of_ble_eq_true rfl) trivial fun h2166 O2167 => ?_
                    have O2168 := O2167.nil (aE (tell_int .i64)) none
                    have O2170 := O2168.nm
                    exact roadref3_Fallen.l0.walk (O2170.pick [0, 1, 2, 4, 3, 6, 5]).nm e_0 (show T_ward_Ward.E _ (T_ward_Ward.mk (0 : Int) (0 : Int) (0 : Int) ([] : List T_ward_Child) ([] : List Int)) [(Value.int .i64 (0 : Int)), (Value.int .i64 (0 : Int)), (Value.int .i64 (0 : Int)), (Value.slice none 0 0), (Value.slice none 0 0)] from ⟨_, _, _, _, rfl, (by exact Nat.le_refl 0), Rd.nil, (by exact Nat.le_refl 0), Rd.nil⟩) (show T_ward_Plan.E _ (T_ward_Plan.mk ([] : List Int) ([] : List Int) false) [(Value.slice none 0 0), (Value.slice none 0 0), (Value.bool false)] from ⟨_, _, _, _, rfl, (by exact Nat.le_refl 0), Rd.nil, (by exact Nat.le_refl 0), Rd.nil⟩) rfl rfl rfl e
                  · refine ⟨_, ldk (k := 2) (Sub.refl _) (O2159.all 0 rfl) (T_ward_Ward.g2 e_0), _, rfl, ?_⟩
                    refine ⟨Ext.refl _, ?_⟩
                    refine ⟨_, ldk (k := 1) (Sub.refl _) (O2159.all 0 rfl) (T_ward_Ward.g1 e_0), _, rfl, ?_⟩
                    refine ⟨Ext.refl _, ?_⟩
                    refine ⟨_, rfl, rfl, ?_⟩
                    refine O2159.stA 4 rfl rfl (Flats.cons trivial (Flats.cons trivial (Flats.cons trivial (Flats.cons trivial (Flats.cons trivial Flats.nil))))) fun h2171 O2172 => ?_
                    refine O2172.new fun h2173 x2174 O2175 => ?_
                    refine O2175.st0 5 rfl (Nat.le_of_ble_eq_true rfl) trivial fun h2177 O2178 => ?_
                    have O2179 := O2178.nil (aE (tell_int .i64)) none
                    have O2181 := O2179.nm
                    exact roadref3_Fallen.l0.walk (O2181.pick [0, 1, 2, 4, 3, 6, 5]).nm e_0 (show T_ward_Ward.E _ (T_ward_Ward.mk (0 : Int) (0 : Int) (0 : Int) ([] : List T_ward_Child) ([] : List Int)) [(Value.int .i64 (0 : Int)), (Value.int .i64 (0 : Int)), (Value.int .i64 (0 : Int)), (Value.slice none 0 0), (Value.slice none 0 0)] from ⟨_, _, _, _, rfl, (by exact Nat.le_refl 0), Rd.nil, (by exact Nat.le_refl 0), Rd.nil⟩) (show T_ward_Plan.E _ (T_ward_Plan.mk ([] : List Int) ([] : List Int) false) [(Value.slice none 0 0), (Value.slice none 0 0), (Value.bool false)] from ⟨_, _, _, _, rfl, (by exact Nat.le_refl 0), Rd.nil, (by exact Nat.le_refl 0), Rd.nil⟩) rfl rfl rfl e
                · refine ⟨?_, ?_⟩
                  · have O2182 := O2157.nm
                    refine ⟨_, ldk (k := 1) (Sub.refl _) (O2182.all 0 rfl) (T_ward_Ward.g1 e_0), _, rfl, ?_⟩
                    refine ⟨Ext.refl _, ?_⟩
                    refine ⟨?_, ?_⟩
                    · refine ⟨_, ld0 (Sub.refl _) (O2182.all 0 rfl) (T_ward_Ward.g0 e_0), _, rfl, ?_⟩
                      refine ⟨Ext.refl _, ?_⟩
                      refine ⟨_, ldk (k := 2) (Sub.refl _) (O2182.all 0 rfl) (T_ward_Ward.g2 e_0), _, rfl, ?_⟩
                      refine ⟨Ext.refl _, ?_⟩
                      refine ⟨_, rfl, rfl, ?_⟩
                      refine O2182.stA 4 rfl rfl (Flats.cons trivial (Flats.cons trivial (Flats.cons trivial (Flats.cons trivial (Flats.cons trivial Flats.nil))))) fun h2183 O2184 => ?_
                      refine O2184.new fun h2185 x2186 O2187 => ?_
                      refine O2187.st0 5 rfl (Nat.le_of_ble_eq_true rfl) trivial fun h2189 O2190 => ?_
                      have O2191 := O2190.nil (aE (tell_int .i64)) none
                      have O2193 := O2191.nm
                      exact roadref3_Fallen.l0.walk (O2193.pick [0, 1, 2, 4, 3, 6, 5]).nm e_0 (show T_ward_Ward.E _ (T_ward_Ward.mk (0 : Int) (0 : Int) (0 : Int) ([] : List T_ward_Child) ([] : List Int)) [(Value.int .i64 (0 : Int)), (Value.int .i64 (0 : Int)), (Value.int .i64 (0 : Int)), (Value.slice none 0 0), (Value.slice none 0 0)] from ⟨_, _, _, _, rfl, (by exact Nat.le_refl 0), Rd.nil, (by exact Nat.le_refl 0), Rd.nil⟩) (show T_ward_Plan.E _ (T_ward_Plan.mk ([] : List Int) ([] : List Int) false) [(Value.slice none 0 0), (Value.slice none 0 0), (Value.bool false)] from ⟨_, _, _, _, rfl, (by exact Nat.le_refl 0), Rd.nil, (by exact Nat.le_refl 0), Rd.nil⟩) rfl rfl rfl e
                    · refine ⟨_, ldk (k := 2) (Sub.refl _) (O2182.all 0 rfl) (T_ward_Ward.g2 e_0), _, rfl, ?_⟩
                      refine ⟨Ext.refl _, ?_⟩
                      refine ⟨_, ld0 (Sub.refl _) (O2182.all 0 rfl) (T_ward_Ward.g0 e_0), _, rfl, ?_⟩
                      refine ⟨Ext.refl _, ?_⟩
                      refine ⟨_, rfl, rfl, ?_⟩
                      refine O2182.stA 4 rfl rfl (Flats.cons trivial (Flats.cons trivial (Flats.cons trivial (Flats.cons trivial (Flats.cons trivial Flats.nil))))) fun h2194 O2195 => ?_
                      refine O2195.new fun h2196 x2197 O2198 => ?_
                      refine O2198.st0 5 rfl (Nat.le_of_ble_eq_true rfl) trivial fun h2200 O2201 => ?_
                      have O2202 := O2201.nil (aE (tell_int .i64)) none
                      have O2204 := O2202.nm
                      exact roadref3_Fallen.l0.walk (O2204.pick [0, 1, 2, 4, 3, 6, 5]).nm e_0 (show T_ward_Ward.E _ (T_ward_Ward.mk (0 : Int) (0 : Int) (0 : Int) ([] : List T_ward_Child) ([] : List Int)) [(Value.int .i64 (0 : Int)), (Value.int .i64 (0 : Int)), (Value.int .i64 (0 : Int)), (Value.slice none 0 0), (Value.slice none 0 0)] from ⟨_, _, _, _, rfl, (by exact Nat.le_refl 0), Rd.nil, (by exact Nat.le_refl 0), Rd.nil⟩) (show T_ward_Plan.E _ (T_ward_Plan.mk ([] : List Int) ([] : List Int) false) [(Value.slice none 0 0), (Value.slice none 0 0), (Value.bool false)] from ⟨_, _, _, _, rfl, (by exact Nat.le_refl 0), Rd.nil, (by exact Nat.le_refl 0), Rd.nil⟩) rfl rfl rfl e
                  · have O2205 := O2157.nm
                    refine ⟨_, ldk (k := 2) (Sub.refl _) (O2205.all 0 rfl) (T_ward_Ward.g2 e_0), _, rfl, ?_⟩
                    refine ⟨Ext.refl _, ?_⟩
                    refine ⟨?_, ?_⟩
                    · refine ⟨_, ld0 (Sub.refl _) (O2205.all 0 rfl) (T_ward_Ward.g0 e_0), _, rfl, ?_⟩
                      refine ⟨Ext.refl _, ?_⟩
                      refine ⟨_, ldk (k := 1) (Sub.refl _) (O2205.all 0 rfl) (T_ward_Ward.g1 e_0), _, rfl, ?_⟩
                      refine ⟨Ext.refl _, ?_⟩
                      refine ⟨_, rfl, rfl, ?_⟩
                      refine O2205.stA 4 rfl rfl (Flats.cons trivial (Flats.cons trivial (Flats.cons trivial (Flats.cons trivial (Flats.cons trivial Flats.nil))))) fun h2206 O2207 => ?_
                      refine O2207.new fun h2208 x2209 O2210 => ?_
                      refine O2210.st0 5 rfl (Nat.le_of_ble_eq_true rfl) trivial fun h2212 O2213 => ?_
                      have O2214 := O2213.nil (aE (tell_int .i64)) none
                      have O2216 := O2214.nm
                      exact roadref3_Fallen.l0.walk (O2216.pick [0, 1, 2, 4, 3, 6, 5]).nm e_0 (show T_ward_Ward.E _ (T_ward_Ward.mk (0 : Int) (0 : Int) (0 : Int) ([] : List T_ward_Child) ([] : List Int)) [(Value.int .i64 (0 : Int)), (Value.int .i64 (0 : Int)), (Value.int .i64 (0 : Int)), (Value.slice none 0 0), (Value.slice none 0 0)] from ⟨_, _, _, _, rfl, (by exact Nat.le_refl 0), Rd.nil, (by exact Nat.le_refl 0), Rd.nil⟩) (show T_ward_Plan.E _ (T_ward_Plan.mk ([] : List Int) ([] : List Int) false) [(Value.slice none 0 0), (Value.slice none 0 0), (Value.bool false)] from ⟨_, _, _, _, rfl, (by exact Nat.le_refl 0), Rd.nil, (by exact Nat.le_refl 0), Rd.nil⟩) rfl rfl rfl e
                    · refine ⟨_, ldk (k := 1) (Sub.refl _) (O2205.all 0 rfl) (T_ward_Ward.g1 e_0), _, rfl, ?_⟩
                      refine ⟨Ext.refl _, ?_⟩
                      refine ⟨_, ld0 (Sub.refl _) (O2205.all 0 rfl) (T_ward_Ward.g0 e_0), _, rfl, ?_⟩
                      refine ⟨Ext.refl _, ?_⟩
                      refine ⟨_, rfl, rfl, ?_⟩
                      refine O2205.stA 4 rfl rfl (Flats.cons trivial (Flats.cons trivial (Flats.cons trivial (Flats.cons trivial (Flats.cons trivial Flats.nil))))) fun h2217 O2218 => ?_
                      refine O2218.new fun h2219 x2220 O2221 => ?_
                      refine O2221.st0 5 rfl (Nat.le_of_ble_eq_true rfl) trivial fun h2223 O2224 => ?_
                      have O2225 := O2224.nil (aE (tell_int .i64)) none
                      have O2227 := O2225.nm
                      exact roadref3_Fallen.l0.walk (O2227.pick [0, 1, 2, 4, 3, 6, 5]).nm e_0 (show T_ward_Ward.E _ (T_ward_Ward.mk (0 : Int) (0 : Int) (0 : Int) ([] : List T_ward_Child) ([] : List Int)) [(Value.int .i64 (0 : Int)), (Value.int .i64 (0 : Int)), (Value.int .i64 (0 : Int)), (Value.slice none 0 0), (Value.slice none 0 0)] from ⟨_, _, _, _, rfl, (by exact Nat.le_refl 0), Rd.nil, (by exact Nat.le_refl 0), Rd.nil⟩) (show T_ward_Plan.E _ (T_ward_Plan.mk ([] : List Int) ([] : List Int) false) [(Value.slice none 0 0), (Value.slice none 0 0), (Value.bool false)] from ⟨_, _, _, _, rfl, (by exact Nat.le_refl 0), Rd.nil, (by exact Nat.le_refl 0), Rd.nil⟩) rfl rfl rfl e
        · refine O11.new fun h2228 x2229 O2230 => ?_
          refine ⟨x2229, ?_⟩
          refine ⟨?_, ?_⟩
          · refine ⟨_, ld0 (Sub.refl _) (O2230.all 0 rfl) (T_ward_Ward.g0 e_0), _, rfl, ?_⟩
            refine ⟨Ext.refl _, ?_⟩
            refine ⟨?_, ?_⟩
            · refine ⟨_, ldk (k := 1) (Sub.refl _) (O2230.all 0 rfl) (T_ward_Ward.g1 e_0), _, rfl, ?_⟩
              refine ⟨Ext.refl _, ?_⟩
              refine ⟨?_, ?_⟩
              · refine ⟨_, ldk (k := 2) (Sub.refl _) (O2230.all 0 rfl) (T_ward_Ward.g2 e_0), _, rfl, ?_⟩
                refine ⟨Ext.refl _, ?_⟩
                refine O2230.appE0 T_ward_Child.T rfl rfl (Rd.srcE r46 T_ward_Child.T O2230.s rfl) (by decide) g19 fun A2234 c2235 h2236 x2238 O2237 => ?_
                refine ⟨_, _, _, rfl, ?_⟩
                have O2240 := O2237.nm
                refine ⟨_, rfl, rfl, ?_⟩
                refine O2240.stA 3 rfl rfl (Flats.cons trivial (Flats.cons trivial (Flats.cons trivial (Flats.cons trivial (Flats.cons trivial Flats.nil))))) fun h2241 O2242 => ?_
                refine O2242.new fun h2243 x2244 O2245 => ?_
                refine O2245.st0 5 rfl (Nat.le_of_ble_eq_true rfl) trivial fun h2247 O2248 => ?_
                have O2249 := O2248.nil (aE (tell_int .i64)) none
                have O2251 := O2249.nm
                exact roadref3_Fallen.l0.walk (O2251.pick [0, 1, 2, 3, 4, 6, 5]).nm e_0 (show T_ward_Ward.E _ (T_ward_Ward.mk (0 : Int) (0 : Int) (0 : Int) ([] : List T_ward_Child) ([] : List Int)) [(Value.int .i64 (0 : Int)), (Value.int .i64 (0 : Int)), (Value.int .i64 (0 : Int)), (Value.slice none 0 0), (Value.slice none 0 0)] from ⟨_, _, _, _, rfl, (by exact Nat.le_refl 0), Rd.nil, (by exact Nat.le_refl 0), Rd.nil⟩) (show T_ward_Plan.E _ (T_ward_Plan.mk ([] : List Int) ([] : List Int) false) [(Value.slice none 0 0), (Value.slice none 0 0), (Value.bool false)] from ⟨_, _, _, _, rfl, (by exact Nat.le_refl 0), Rd.nil, (by exact Nat.le_refl 0), Rd.nil⟩) rfl rfl rfl e
              · refine O2230.appE0 T_ward_Child.T rfl rfl (Rd.srcE r46 T_ward_Child.T O2230.s rfl) (by decide) g19 fun A2254 c2255 h2256 x2258 O2257 => ?_
                refine ⟨_, _, _, rfl, ?_⟩
                have O2260 := O2257.nm
                refine ⟨_, ldk (k := 2) (Sub.refl _) (O2260.all 0 rfl) (T_ward_Ward.g2 e_0), _, rfl, ?_⟩
                refine ⟨Ext.refl _, ?_⟩
                refine ⟨_, rfl, rfl, ?_⟩
                refine O2260.stA 3 rfl rfl (Flats.cons trivial (Flats.cons trivial (Flats.cons trivial (Flats.cons trivial (Flats.cons trivial Flats.nil))))) fun h2261 O2262 => ?_
                refine O2262.new fun h2263 x2264 O2265 => ?_
                refine O2265.st0 5 rfl (Nat.le_of_ble_eq_true rfl) trivial fun h2267 O2268 => ?_
                have O2269 := O2268.nil (aE (tell_int .i64)) none
                have O2271 := O2269.nm
                exact roadref3_Fallen.l0.walk (O2271.pick [0, 1, 2, 3, 4, 6, 5]).nm e_0 (show T_ward_Ward.E _ (T_ward_Ward.mk (0 : Int) (0 : Int) (0 : Int) ([] : List T_ward_Child) ([] : List Int)) [(Value.int .i64 (0 : Int)), (Value.int .i64 (0 : Int)), (Value.int .i64 (0 : Int)), (Value.slice none 0 0), (Value.slice none 0 0)] from ⟨_, _, _, _, rfl, (by exact Nat.le_refl 0), Rd.nil, (by exact Nat.le_refl 0), Rd.nil⟩) (show T_ward_Plan.E _ (T_ward_Plan.mk ([] : List Int) ([] : List Int) false) [(Value.slice none 0 0), (Value.slice none 0 0), (Value.bool false)] from ⟨_, _, _, _, rfl, (by exact Nat.le_refl 0), Rd.nil, (by exact Nat.le_refl 0), Rd.nil⟩) rfl rfl rfl e
            · refine ⟨?_, ?_⟩
              · refine ⟨_, ldk (k := 2) (Sub.refl _) (O2230.all 0 rfl) (T_ward_Ward.g2 e_0), _, rfl, ?_⟩
                refine ⟨Ext.refl _, ?_⟩
                refine ⟨?_, ?_⟩
                · refine ⟨_, ldk (k := 1) (Sub.refl _) (O2230.all 0 rfl) (T_ward_Ward.g1 e_0), _, rfl, ?_⟩
                  refine ⟨Ext.refl _, ?_⟩
                  refine O2230.appE0 T_ward_Child.T rfl rfl (Rd.srcE r46 T_ward_Child.T O2230.s rfl) (by decide) g19 fun A2274 c2275 h2276 x2278 O2277 => ?_
                  refine ⟨_, _, _, rfl, ?_⟩
                  have O2280 := O2277.nm
                  refine ⟨_, rfl, rfl, ?_⟩
                  refine O2280.stA 3 rfl rfl (Flats.cons trivial (Flats.cons trivial (Flats.cons trivial (Flats.cons trivial (Flats.cons trivial Flats.nil))))) fun h2281 O2282 => ?_
                  refine O2282.new fun h2283 x2284 O2285 => ?_
                  refine O2285.st0 5 rfl (Nat.le_of_ble_eq_true rfl) trivial fun h2287 O2288 => ?_
                  have O2289 := O2288.nil (aE (tell_int .i64)) none
                  have O2291 := O2289.nm
                  exact roadref3_Fallen.l0.walk (O2291.pick [0, 1, 2, 3, 4, 6, 5]).nm e_0 (show T_ward_Ward.E _ (T_ward_Ward.mk (0 : Int) (0 : Int) (0 : Int) ([] : List T_ward_Child) ([] : List Int)) [(Value.int .i64 (0 : Int)), (Value.int .i64 (0 : Int)), (Value.int .i64 (0 : Int)), (Value.slice none 0 0), (Value.slice none 0 0)] from ⟨_, _, _, _, rfl, (by exact Nat.le_refl 0), Rd.nil, (by exact Nat.le_refl 0), Rd.nil⟩) (show T_ward_Plan.E _ (T_ward_Plan.mk ([] : List Int) ([] : List Int) false) [(Value.slice none 0 0), (Value.slice none 0 0), (Value.bool false)] from ⟨_, _, _, _, rfl, (by exact Nat.le_refl 0), Rd.nil, (by exact Nat.le_refl 0), Rd.nil⟩) rfl rfl rfl e
                · refine O2230.appE0 T_ward_Child.T rfl rfl (Rd.srcE r46 T_ward_Child.T O2230.s rfl) (by decide) g19 fun A2294 c2295 h2296 x2298 O2297 => ?_
                  refine ⟨_, _, _, rfl, ?_⟩
                  have O2300 := O2297.nm
                  refine ⟨_, ldk (k := 1) (Sub.refl _) (O2300.all 0 rfl) (T_ward_Ward.g1 e_0), _, rfl, ?_⟩
                  refine ⟨Ext.refl _, ?_⟩
                  refine ⟨_, rfl, rfl, ?_⟩
                  refine O2300.stA 3 rfl rfl (Flats.cons trivial (Flats.cons trivial (Flats.cons trivial (Flats.cons trivial (Flats.cons trivial Flats.nil))))) fun h2301 O2302 => ?_
                  refine O2302.new fun h2303 x2304 O2305 => ?_
                  refine O2305.st0 5 rfl (Nat.le_of_ble_eq_true rfl) trivial fun h2307 O2308 => ?_
                  have O2309 := O2308.nil (aE (tell_int .i64)) none
                  have O2311 := O2309.nm
                  exact roadref3_Fallen.l0.walk (O2311.pick [0, 1, 2, 3, 4, 6, 5]).nm e_0 (show T_ward_Ward.E _ (T_ward_Ward.mk (0 : Int) (0 : Int) (0 : Int) ([] : List T_ward_Child) ([] : List Int)) [(Value.int .i64 (0 : Int)), (Value.int .i64 (0 : Int)), (Value.int .i64 (0 : Int)), (Value.slice none 0 0), (Value.slice none 0 0)] from ⟨_, _, _, _, rfl, (by exact Nat.le_refl 0), Rd.nil, (by exact Nat.le_refl 0), Rd.nil⟩) (show T_ward_Plan.E _ (T_ward_Plan.mk ([] : List Int) ([] : List Int) false) [(Value.slice none 0 0), (Value.slice none 0 0), (Value.bool false)] from ⟨_, _, _, _, rfl, (by exact Nat.le_refl 0), Rd.nil, (by exact Nat.le_refl 0), Rd.nil⟩) rfl rfl rfl e
              · refine O2230.appE0 T_ward_Child.T rfl rfl (Rd.srcE r46 T_ward_Child.T O2230.s rfl) (by decide) g19 fun A2314 c2315 h2316 x2318 O2317 => ?_
                refine ⟨_, _, _, rfl, ?_⟩
                refine ⟨?_, ?_⟩
                · have O2320 := O2317.nm
                  refine ⟨_, ldk (k := 1) (Sub.refl _) (O2320.all 0 rfl) (T_ward_Ward.g1 e_0), _, rfl, ?_⟩
                  refine ⟨Ext.refl _, ?_⟩
                  refine ⟨_, ldk (k := 2) (Sub.refl _) (O2320.all 0 rfl) (T_ward_Ward.g2 e_0), _, rfl, ?_⟩
                  refine ⟨Ext.refl _, ?_⟩
                  refine ⟨_, rfl, rfl, ?_⟩
                  refine O2320.stA 3 rfl rfl (Flats.cons trivial (Flats.cons trivial (Flats.cons trivial (Flats.cons trivial (Flats.cons trivial Flats.nil))))) fun h2321 O2322 => ?_
                  refine O2322.new fun h2323 x2324 O2325 => ?_
                  refine O2325.st0 5 rfl (Nat.le_of_ble_eq_true rfl) trivial fun h2327 O2328 => ?_
                  have O2329 := O2328.nil (aE (tell_int .i64)) none
                  have O2331 := O2329.nm
                  exact roadref3_Fallen.l0.walk (O2331.pick [0, 1, 2, 3, 4, 6, 5]).nm e_0 (show T_ward_Ward.E _ (T_ward_Ward.mk (0 : Int) (0 : Int) (0 : Int) ([] : List T_ward_Child) ([] : List Int)) [(Value.int .i64 (0 : Int)), (Value.int .i64 (0 : Int)), (Value.int .i64 (0 : Int)), (Value.slice none 0 0), (Value.slice none 0 0)] from ⟨_, _, _, _, rfl, (by exact Nat.le_refl 0), Rd.nil, (by exact Nat.le_refl 0), Rd.nil⟩) (show T_ward_Plan.E _ (T_ward_Plan.mk ([] : List Int) ([] : List Int) false) [(Value.slice none 0 0), (Value.slice none 0 0), (Value.bool false)] from ⟨_, _, _, _, rfl, (by exact Nat.le_refl 0), Rd.nil, (by exact Nat.le_refl 0), Rd.nil⟩) rfl rfl rfl e
                · have O2332 := O2317.nm
                  refine ⟨_, ldk (k := 2) (Sub.refl _) (O2332.all 0 rfl) (T_ward_Ward.g2 e_0), _, rfl, ?_⟩
                  refine ⟨Ext.refl _, ?_⟩
                  refine ⟨_, ldk (k := 1) (Sub.refl _) (O2332.all 0 rfl) (T_ward_Ward.g1 e_0), _, rfl, ?_⟩
                  refine ⟨Ext.refl _, ?_⟩
                  refine ⟨_, rfl, rfl, ?_⟩
                  refine O2332.stA 3 rfl rfl (Flats.cons trivial (Flats.cons trivial (Flats.cons trivial (Flats.cons trivial (Flats.cons trivial Flats.nil))))) fun h2333 O2334 => ?_
                  refine O2334.new fun h2335 x2336 O2337 => ?_
                  refine O2337.st0 5 rfl (Nat.le_of_ble_eq_true rfl) trivial fun h2339 O2340 => ?_
                  have O2341 := O2340.nil (aE (tell_int .i64)) none
                  have O2343 := O2341.nm
                  exact roadref3_Fallen.l0.walk (O2343.pick [0, 1, 2, 3, 4, 6, 5]).nm e_0 (show T_ward_Ward.E _ (T_ward_Ward.mk (0 : Int) (0 : Int) (0 : Int) ([] : List T_ward_Child) ([] : List Int)) [(Value.int .i64 (0 : Int)), (Value.int .i64 (0 : Int)), (Value.int .i64 (0 : Int)), (Value.slice none 0 0), (Value.slice none 0 0)] from ⟨_, _, _, _, rfl, (by exact Nat.le_refl 0), Rd.nil, (by exact Nat.le_refl 0), Rd.nil⟩) (show T_ward_Plan.E _ (T_ward_Plan.mk ([] : List Int) ([] : List Int) false) [(Value.slice none 0 0), (Value.slice none 0 0), (Value.bool false)] from ⟨_, _, _, _, rfl, (by exact Nat.le_refl 0), Rd.nil, (by exact Nat.le_refl 0), Rd.nil⟩) rfl rfl rfl e
          · refine ⟨?_, ?_⟩
            · refine ⟨_, ldk (k := 1) (Sub.refl _) (O2230.all 0 rfl) (T_ward_Ward.g1 e_0), _, rfl, ?_⟩
              refine ⟨Ext.refl _, ?_⟩
              refine ⟨?_, ?_⟩
              · refine ⟨_, ld0 (Sub.refl _) (O2230.all 0 rfl) (T_ward_Ward.g0 e_0), _, rfl, ?_⟩
                refine ⟨Ext.refl _, ?_⟩
                refine ⟨?_, ?_⟩
                · refine ⟨_, ldk (k := 2) (Sub.refl _) (O2230.all 0 rfl) (T_ward_Ward.g2 e_0), _, rfl, ?_⟩
                  refine ⟨Ext.refl _, ?_⟩
                  refine O2230.appE0 T_ward_Child.T rfl rfl (Rd.srcE r46 T_ward_Child.T O2230.s rfl) (by decide) g19 fun A2346 c2347 h2348 x2350 O2349 => ?_
                  refine ⟨_, _, _, rfl, ?_⟩
                  have O2352 := O2349.nm
                  refine ⟨_, rfl, rfl, ?_⟩
                  refine O2352.stA 3 rfl rfl (Flats.cons trivial (Flats.cons trivial (Flats.cons trivial (Flats.cons trivial (Flats.cons trivial Flats.nil))))) fun h2353 O2354 => ?_
                  refine O2354.new fun h2355 x2356 O2357 => ?_
                  refine O2357.st0 5 rfl (Nat.le_of_ble_eq_true rfl) trivial fun h2359 O2360 => ?_
                  have O2361 := O2360.nil (aE (tell_int .i64)) none
                  have O2363 := O2361.nm
                  exact roadref3_Fallen.l0.walk (O2363.pick [0, 1, 2, 3, 4, 6, 5]).nm e_0 (show T_ward_Ward.E _ (T_ward_Ward.mk (0 : Int) (0 : Int) (0 : Int) ([] : List T_ward_Child) ([] : List Int)) [(Value.int .i64 (0 : Int)), (Value.int .i64 (0 : Int)), (Value.int .i64 (0 : Int)), (Value.slice none 0 0), (Value.slice none 0 0)] from ⟨_, _, _, _, rfl, (by exact Nat.le_refl 0), Rd.nil, (by exact Nat.le_refl 0), Rd.nil⟩) (show T_ward_Plan.E _ (T_ward_Plan.mk ([] : List Int) ([] : List Int) false) [(Value.slice none 0 0), (Value.slice none 0 0), (Value.bool false)] from ⟨_, _, _, _, rfl, (by exact Nat.le_refl 0), Rd.nil, (by exact Nat.le_refl 0), Rd.nil⟩) rfl rfl rfl e
                · refine O2230.appE0 T_ward_Child.T rfl rfl (Rd.srcE r46 T_ward_Child.T O2230.s rfl) (by decide) g19 fun A2366 c2367 h2368 x2370 O2369 => ?_
                  refine ⟨_, _, _, rfl, ?_⟩
                  have O2372 := O2369.nm
                  refine ⟨_, ldk (k := 2) (Sub.refl _) (O2372.all 0 rfl) (T_ward_Ward.g2 e_0), _, rfl, ?_⟩
                  refine ⟨Ext.refl _, ?_⟩
                  refine ⟨_, rfl, rfl, ?_⟩
                  refine O2372.stA 3 rfl rfl (Flats.cons trivial (Flats.cons trivial (Flats.cons trivial (Flats.cons trivial (Flats.cons trivial Flats.nil))))) fun h2373 O2374 => ?_
                  refine O2374.new fun h2375 x2376 O2377 => ?_
                  refine O2377.st0 5 rfl (Nat.le_of_ble_eq_true rfl) trivial fun h2379 O2380 => ?_
                  have O2381 := O2380.nil (aE (tell_int .i64)) none
                  have O2383 := O2381.nm
                  exact roadref3_Fallen.l0.walk (O2383.pick [0, 1, 2, 3, 4, 6, 5]).nm e_0 (show T_ward_Ward.E _ (T_ward_Ward.mk (0 : Int) (0 : Int) (0 : Int) ([] : List T_ward_Child) ([] : List Int)) [(Value.int .i64 (0 : Int)), (Value.int .i64 (0 : Int)), (Value.int .i64 (0 : Int)), (Value.slice none 0 0), (Value.slice none 0 0)] from ⟨_, _, _, _, rfl, (by exact Nat.le_refl 0), Rd.nil, (by exact Nat.le_refl 0), Rd.nil⟩) (show T_ward_Plan.E _ (T_ward_Plan.mk ([] : List Int) ([] : List Int) false) [(Value.slice none 0 0), (Value.slice none 0 0), (Value.bool false)] from ⟨_, _, _, _, rfl, (by exact Nat.le_refl 0), Rd.nil, (by exact Nat.le_refl 0), Rd.nil⟩) rfl rfl rfl e
              · refine ⟨?_, ?_⟩
                · refine ⟨_, ldk (k := 2) (Sub.refl _) (O2230.all 0 rfl) (T_ward_Ward.g2 e_0), _, rfl, ?_⟩
                  refine ⟨Ext.refl _, ?_⟩
                  refine ⟨?_, ?_⟩
                  · refine ⟨_, ld0 (Sub.refl _) (O2230.all 0 rfl) (T_ward_Ward.g0 e_0), _, rfl, ?_⟩
                    refine ⟨Ext.refl _, ?_⟩
                    refine O2230.appE0 T_ward_Child.T rfl rfl (Rd.srcE r46 T_ward_Child.T O2230.s rfl) (by decide) g19 fun A2386 c2387 h2388 x2390 O2389 => ?_
                    refine ⟨_, _, _, rfl, ?_⟩
                    have O2392 := O2389.nm
                    refine ⟨_, rfl, rfl, ?_⟩
                    refine O2392.stA 3 rfl rfl (Flats.cons trivial (Flats.cons trivial (Flats.cons trivial (Flats.cons trivial (Flats.cons trivial Flats.nil))))) fun h2393 O2394 => ?_
                    refine O2394.new fun h2395 x2396 O2397 => ?_
                    refine O2397.st0 5 rfl (Nat.le_of_ble_eq_true rfl) trivial fun h2399 O2400 => ?_
                    have O2401 := O2400.nil (aE (tell_int .i64)) none
                    have O2403 := O2401.nm
                    exact roadref3_Fallen.l0.walk (O2403.pick [0, 1, 2, 3, 4, 6, 5]).nm e_0 (show T_ward_Ward.E _ (T_ward_Ward.mk (0 : Int) (0 : Int) (0 : Int) ([] : List T_ward_Child) ([] : List Int)) [(Value.int .i64 (0 : Int)), (Value.int .i64 (0 : Int)), (Value.int .i64 (0 : Int)), (Value.slice none 0 0), (Value.slice none 0 0)] from ⟨_, _, _, _, rfl, (by exact Nat.le_refl 0), Rd.nil, (by exact Nat.le_refl 0), Rd.nil⟩) (show T_ward_Plan.E _ (T_ward_Plan.mk ([] : List Int) ([] : List Int) false) [(Value.slice none 0 0), (Value.slice none 0 0), (Value.bool false)] from ⟨_, _, _, _, rfl, (by exact Nat.le_refl 0), Rd.nil, (by exact Nat.le_refl 0), Rd.nil⟩) rfl rfl rfl e
                  · refine O2230.appE0 T_ward_Child.T rfl rfl (Rd.srcE r46 T_ward_Child.T O2230.s rfl) (by decide) g19 fun A2406 c2407 h2408 x2410 O2409 => ?_
                    refine ⟨_, _, _, rfl, ?_⟩
                    have O2412 := O2409.nm
                    refine ⟨_, ld0 (Sub.refl _) (O2412.all 0 rfl) (T_ward_Ward.g0 e_0), _, rfl, ?_⟩
                    refine ⟨Ext.refl _, ?_⟩
                    refine ⟨_, rfl, rfl, ?_⟩
                    refine O2412.stA 3 rfl rfl (Flats.cons trivial (Flats.cons trivial (Flats.cons trivial (Flats.cons trivial (Flats.cons trivial Flats.nil))))) fun h2413 O2414 => ?_
                    refine O2414.new fun h2415 x2416 O2417 => ?_
                    refine O2417.st0 5 rfl (Nat.le_of_ble_eq_true rfl) trivial fun h2419 O2420 => ?_
                    have O2421 := O2420.nil (aE (tell_int .i64)) none
                    have O2423 := O2421.nm
                    exact roadref3_Fallen.l0.walk (O2423.pick [0, 1, 2, 3, 4, 6, 5]).nm e_0 (show T_ward_Ward.E _ (T_ward_Ward.mk (0 : Int) (0 : Int) (0 : Int) ([] : List T_ward_Child) ([] : List Int)) [(Value.int .i64 (0 : Int)), (Value.int .i64 (0 : Int)), (Value.int .i64 (0 : Int)), (Value.slice none 0 0), (Value.slice none 0 0)] from ⟨_, _, _, _, rfl, (by exact Nat.le_refl 0), Rd.nil, (by exact Nat.le_refl 0), Rd.nil⟩) (show T_ward_Plan.E _ (T_ward_Plan.mk ([] : List Int) ([] : List Int) false) [(Value.slice none 0 0), (Value.slice none 0 0), (Value.bool false)] from ⟨_, _, _, _, rfl, (by exact Nat.le_refl 0), Rd.nil, (by exact Nat.le_refl 0), Rd.nil⟩) rfl rfl rfl e
                · refine O2230.appE0 T_ward_Child.T rfl rfl (Rd.srcE r46 T_ward_Child.T O2230.s rfl) (by decide) g19 fun A2426 c2427 h2428 x2430 O2429 => ?_
                  refine ⟨_, _, _, rfl, ?_⟩
                  refine ⟨?_, ?_⟩
                  · have O2432 := O2429.nm
                    refine ⟨_, ld0 (Sub.refl _) (O2432.all 0 rfl) (T_ward_Ward.g0 e_0), _, rfl, ?_⟩
                    refine ⟨Ext.refl _, ?_⟩
                    refine ⟨_, ldk (k := 2) (Sub.refl _) (O2432.all 0 rfl) (T_ward_Ward.g2 e_0), _, rfl, ?_⟩
                    refine ⟨Ext.refl _, ?_⟩
                    refine ⟨_, rfl, rfl, ?_⟩
                    refine O2432.stA 3 rfl rfl (Flats.cons trivial (Flats.cons trivial (Flats.cons trivial (Flats.cons trivial (Flats.cons trivial Flats.nil))))) fun h2433 O2434 => ?_
                    refine O2434.new fun h2435 x2436 O2437 => ?_
                    refine O2437.st0 5 rfl (Nat.le_of_ble_eq_true rfl) trivial fun h2439 O2440 => ?_
                    have O2441 := O2440.nil (aE (tell_int .i64)) none
                    have O2443 := O2441.nm
                    exact roadref3_Fallen.l0.walk (O2443.pick [0, 1, 2, 3, 4, 6, 5]).nm e_0 (show T_ward_Ward.E _ (T_ward_Ward.mk (0 : Int) (0 : Int) (0 : Int) ([] : List T_ward_Child) ([] : List Int)) [(Value.int .i64 (0 : Int)), (Value.int .i64 (0 : Int)), (Value.int .i64 (0 : Int)), (Value.slice none 0 0), (Value.slice none 0 0)] from ⟨_, _, _, _, rfl, (by exact Nat.le_refl 0), Rd.nil, (by exact Nat.le_refl 0), Rd.nil⟩) (show T_ward_Plan.E _ (T_ward_Plan.mk ([] : List Int) ([] : List Int) false) [(Value.slice none 0 0), (Value.slice none 0 0), (Value.bool false)] from ⟨_, _, _, _, rfl, (by exact Nat.le_refl 0), Rd.nil, (by exact Nat.le_refl 0), Rd.nil⟩) rfl rfl rfl e
                  · have O2444 := O2429.nm
                    refine ⟨_, ldk (k := 2) (Sub.refl _) (O2444.all 0 rfl) (T_ward_Ward.g2 e_0), _, rfl, ?_⟩
                    refine ⟨Ext.refl _, ?_⟩
                    refine ⟨_, ld0 (Sub.refl _) (O2444.all 0 rfl) (T_ward_Ward.g0 e_0), _, rfl, ?_⟩
                    refine ⟨Ext.refl _, ?_⟩
                    refine ⟨_, rfl, rfl, ?_⟩
                    refine O2444.stA 3 rfl rfl (Flats.cons trivial (Flats.cons trivial (Flats.cons trivial (Flats.cons trivial (Flats.cons trivial Flats.nil))))) fun h2445 O2446 => ?_
                    refine O2446.new fun h2447 x2448 O2449 => ?_
                    refine O2449.st0 5 rfl (Nat.le_of_ble_eq_true rfl) trivial fun h2451 O2452 => ?_
                    have O2453 := O2452.nil (aE (tell_int .i64)) none
                    have O2455 := O2453.nm
                    exact roadref3_Fallen.l0.walk (O2455.pick [0, 1, 2, 3, 4, 6, 5]).nm e_0 (show T_ward_Ward.E _ (T_ward_Ward.mk (0 : Int) (0 : Int) (0 : Int) ([] : List T_ward_Child) ([] : List Int)) [(Value.int .i64 (0 : Int)), (Value.int .i64 (0 : Int)), (Value.int .i64 (0 : Int)), (Value.slice none 0 0), (Value.slice none 0 0)] from ⟨_, _, _, _, rfl, (by exact Nat.le_refl 0), Rd.nil, (by exact Nat.le_refl 0), Rd.nil⟩) (show T_ward_Plan.E _ (T_ward_Plan.mk ([] : List Int) ([] : List Int) false) [(Value.slice none 0 0), (Value.slice none 0 0), (Value.bool false)] from ⟨_, _, _, _, rfl, (by exact Nat.le_refl 0), Rd.nil, (by exact Nat.le_refl 0), Rd.nil⟩) rfl rfl rfl e
            · refine ⟨?_, ?_⟩
              · refine ⟨_, ldk (k := 2) (Sub.refl _) (O2230.all 0 rfl) (T_ward_Ward.g2 e_0), _, rfl, ?_⟩
                refine ⟨Ext.refl _, ?_⟩
                refine ⟨?_, ?_⟩
                · refine ⟨_, ld0 (Sub.refl _) (O2230.all 0 rfl) (T_ward_Ward.g0 e_0), _, rfl, ?_⟩
                  refine ⟨Ext.refl _, ?_⟩
                  refine ⟨?_, ?_⟩
                  · refine ⟨_, ldk (k := 1) (Sub.refl _) (O2230.all 0 rfl) (T_ward_Ward.g1 e_0), _, rfl, ?_⟩
                    refine ⟨Ext.refl _, ?_⟩
                    refine O2230.appE0 T_ward_Child.T rfl rfl (Rd.srcE r46 T_ward_Child.T O2230.s rfl) (by decide) g19 fun A2458 c2459 h2460 x2462 O2461 => ?_
                    refine ⟨_, _, _, rfl, ?_⟩
                    have O2464 := O2461.nm
                    refine ⟨_, rfl, rfl, ?_⟩
                    refine O2464.stA 3 rfl rfl (Flats.cons trivial (Flats.cons trivial (Flats.cons trivial (Flats.cons trivial (Flats.cons trivial Flats.nil))))) fun h2465 O2466 => ?_
                    refine O2466.new fun h2467 x2468 O2469 => ?_
                    refine O2469.st0 5 rfl (Nat.le_of_ble_eq_true rfl) trivial fun h2471 O2472 => ?_
                    have O2473 := O2472.nil (aE (tell_int .i64)) none
                    have O2475 := O2473.nm
                    exact roadref3_Fallen.l0.walk (O2475.pick [0, 1, 2, 3, 4, 6, 5]).nm e_0 (show T_ward_Ward.E _ (T_ward_Ward.mk (0 : Int) (0 : Int) (0 : Int) ([] : List T_ward_Child) ([] : List Int)) [(Value.int .i64 (0 : Int)), (Value.int .i64 (0 : Int)), (Value.int .i64 (0 : Int)), (Value.slice none 0 0), (Value.slice none 0 0)] from ⟨_, _, _, _, rfl, (by exact Nat.le_refl 0), Rd.nil, (by exact Nat.le_refl 0), Rd.nil⟩) (show T_ward_Plan.E _ (T_ward_Plan.mk ([] : List Int) ([] : List Int) false) [(Value.slice none 0 0), (Value.slice none 0 0), (Value.bool false)] from ⟨_, _, _, _, rfl, (by exact Nat.le_refl 0), Rd.nil, (by exact Nat.le_refl 0), Rd.nil⟩) rfl rfl rfl e
                  · refine O2230.appE0 T_ward_Child.T rfl rfl (Rd.srcE r46 T_ward_Child.T O2230.s rfl) (by decide) g19 fun A2478 c2479 h2480 x2482 O2481 => ?_
                    refine ⟨_, _, _, rfl, ?_⟩
                    have O2484 := O2481.nm
                    refine ⟨_, ldk (k := 1) (Sub.refl _) (O2484.all 0 rfl) (T_ward_Ward.g1 e_0), _, rfl, ?_⟩
                    refine ⟨Ext.refl _, ?_⟩
                    refine ⟨_, rfl, rfl, ?_⟩
                    refine O2484.stA 3 rfl rfl (Flats.cons trivial (Flats.cons trivial (Flats.cons trivial (Flats.cons trivial (Flats.cons trivial Flats.nil))))) fun h2485 O2486 => ?_
                    refine O2486.new fun h2487 x2488 O2489 => ?_
                    refine O2489.st0 5 rfl (Nat.le_of_ble_eq_true rfl) trivial fun h2491 O2492 => ?_
                    have O2493 := O2492.nil (aE (tell_int .i64)) none
                    have O2495 := O2493.nm
                    exact roadref3_Fallen.l0.walk (O2495.pick [0, 1, 2, 3, 4, 6, 5]).nm e_0 (show T_ward_Ward.E _ (T_ward_Ward.mk (0 : Int) (0 : Int) (0 : Int) ([] : List T_ward_Child) ([] : List Int)) [(Value.int .i64 (0 : Int)), (Value.int .i64 (0 : Int)), (Value.int .i64 (0 : Int)), (Value.slice none 0 0), (Value.slice none 0 0)] from ⟨_, _, _, _, rfl, (by exact Nat.le_refl 0), Rd.nil, (by exact Nat.le_refl 0), Rd.nil⟩) (show T_ward_Plan.E _ (T_ward_Plan.mk ([] : List Int) ([] : List Int) false) [(Value.slice none 0 0), (Value.slice none 0 0), (Value.bool false)] from ⟨_, _, _, _, rfl, (by exact Nat.le_refl 0), Rd.nil, (by exact Nat.le_refl 0), Rd.nil⟩) rfl rfl rfl e
                · refine ⟨?_, ?_⟩
                  · refine ⟨_, ldk (k := 1) (Sub.refl _) (O2230.all 0 rfl) (T_ward_Ward.g1 e_0), _, rfl, ?_⟩
                    refine ⟨Ext.refl _, ?_⟩
                    refine ⟨?_, ?_⟩
                    · refine ⟨_, ld0 (Sub.refl _) (O2230.all 0 rfl) (T_ward_Ward.g0 e_0), _, rfl, ?_⟩
                      refine ⟨Ext.refl _, ?_⟩
                      refine O2230.appE0 T_ward_Child.T rfl rfl (Rd.srcE r46 T_ward_Child.T O2230.s rfl) (by decide) g19 fun A2498 c2499 h2500 x2502 O2501 => ?_
                      refine ⟨_, _, _, rfl, ?_⟩
                      have O2504 := O2501.nm
                      refine ⟨_, rfl, rfl, ?_⟩
                      refine O2504.stA 3 rfl rfl (Flats.cons trivial (Flats.cons trivial (Flats.cons trivial (Flats.cons trivial (Flats.cons trivial Flats.nil))))) fun h2505 O2506 => ?_
                      refine O2506.new fun h2507 x2508 O2509 => ?_
                      refine O2509.st0 5 rfl (Nat.le_of_ble_eq_true rfl) trivial fun h2511 O2512 => ?_
                      have O2513 := O2512.nil (aE (tell_int .i64)) none
                      have O2515 := O2513.nm
                      exact roadref3_Fallen.l0.walk (O2515.pick [0, 1, 2, 3, 4, 6, 5]).nm e_0 (show T_ward_Ward.E _ (T_ward_Ward.mk (0 : Int) (0 : Int) (0 : Int) ([] : List T_ward_Child) ([] : List Int)) [(Value.int .i64 (0 : Int)), (Value.int .i64 (0 : Int)), (Value.int .i64 (0 : Int)), (Value.slice none 0 0), (Value.slice none 0 0)] from ⟨_, _, _, _, rfl, (by exact Nat.le_refl 0), Rd.nil, (by exact Nat.le_refl 0), Rd.nil⟩) (show T_ward_Plan.E _ (T_ward_Plan.mk ([] : List Int) ([] : List Int) false) [(Value.slice none 0 0), (Value.slice none 0 0), (Value.bool false)] from ⟨_, _, _, _, rfl, (by exact Nat.le_refl 0), Rd.nil, (by exact Nat.le_refl 0), Rd.nil⟩) rfl rfl rfl e
                    · refine O2230.appE0 T_ward_Child.T rfl rfl (Rd.srcE r46 T_ward_Child.T O2230.s rfl) (by decide) g19 fun A2518 c2519 h2520 x2522 O2521 => ?_
                      refine ⟨_, _, _, rfl, ?_⟩
                      have O2524 := O2521.nm
                      refine ⟨_, ld0 (Sub.refl _) (O2524.all 0 rfl) (T_ward_Ward.g0 e_0), _, rfl, ?_⟩
                      refine ⟨Ext.refl _, ?_⟩
                      refine ⟨_, rfl, rfl, ?_⟩
                      refine O2524.stA 3 rfl rfl (Flats.cons trivial (Flats.cons trivial (Flats.cons trivial (Flats.cons trivial (Flats.cons trivial Flats.nil))))) fun h2525 O2526 => ?_
                      refine O2526.new fun h2527 x2528 O2529 => ?_
                      refine O2529.st0 5 rfl (Nat.le_of_ble_eq_true rfl) trivial fun h2531 O2532 => ?_
                      have O2533 := O2532.nil (aE (tell_int .i64)) none
                      have O2535 := O2533.nm
                      exact roadref3_Fallen.l0.walk (O2535.pick [0, 1, 2, 3, 4, 6, 5]).nm e_0 (show T_ward_Ward.E _ (T_ward_Ward.mk (0 : Int) (0 : Int) (0 : Int) ([] : List T_ward_Child) ([] : List Int)) [(Value.int .i64 (0 : Int)), (Value.int .i64 (0 : Int)), (Value.int .i64 (0 : Int)), (Value.slice none 0 0), (Value.slice none 0 0)] from ⟨_, _, _, _, rfl, (by exact Nat.le_refl 0), Rd.nil, (by exact Nat.le_refl 0), Rd.nil⟩) (show T_ward_Plan.E _ (T_ward_Plan.mk ([] : List Int) ([] : List Int) false) [(Value.slice none 0 0), (Value.slice none 0 0), (Value.bool false)] from ⟨_, _, _, _, rfl, (by exact Nat.le_refl 0), Rd.nil, (by exact Nat.le_refl 0), Rd.nil⟩) rfl rfl rfl e
                  · refine O2230.appE0 T_ward_Child.T rfl rfl (Rd.srcE r46 T_ward_Child.T O2230.s rfl) (by decide) g19 fun A2538 c2539 h2540 x2542 O2541 => ?_
                    refine ⟨_, _, _, rfl, ?_⟩
                    refine ⟨?_, ?_⟩
                    · have O2544 := O2541.nm
                      refine ⟨_, ld0 (Sub.refl _) (O2544.all 0 rfl) (T_ward_Ward.g0 e_0), _, rfl, ?_⟩
                      refine ⟨Ext.refl _, ?_⟩
                      refine ⟨_, ldk (k := 1) (Sub.refl _) (O2544.all 0 rfl) (T_ward_Ward.g1 e_0), _, rfl, ?_⟩
                      refine ⟨Ext.refl _, ?_⟩
                      refine ⟨_, rfl, rfl, ?_⟩
                      refine O2544.stA 3 rfl rfl (Flats.cons trivial (Flats.cons trivial (Flats.cons trivial (Flats.cons trivial (Flats.cons trivial Flats.nil))))) fun h2545 O2546 => ?_
                      refine O2546.new fun h2547 x2548 O2549 => ?_
                      refine O2549.st0 5 rfl (Nat.le_of_ble_eq_true rfl) trivial fun h2551 O2552 => ?_
                      have O2553 := O2552.nil (aE (tell_int .i64)) none
                      have O2555 := O2553.nm
                      exact roadref3_Fallen.l0.walk (O2555.pick [0, 1, 2, 3, 4, 6, 5]).nm e_0 (show T_ward_Ward.E _ (T_ward_Ward.mk (0 : Int) (0 : Int) (0 : Int) ([] : List T_ward_Child) ([] : List Int)) [(Value.int .i64 (0 : Int)), (Value.int .i64 (0 : Int)), (Value.int .i64 (0 : Int)), (Value.slice none 0 0), (Value.slice none 0 0)] from ⟨_, _, _, _, rfl, (by exact Nat.le_refl 0), Rd.nil, (by exact Nat.le_refl 0), Rd.nil⟩) (show T_ward_Plan.E _ (T_ward_Plan.mk ([] : List Int) ([] : List Int) false) [(Value.slice none 0 0), (Value.slice none 0 0), (Value.bool false)] from ⟨_, _, _, _, rfl, (by exact Nat.le_refl 0), Rd.nil, (by exact Nat.le_refl 0), Rd.nil⟩) rfl rfl rfl e
                    · have O2556 := O2541.nm
                      refine ⟨_, ldk (k := 1) (Sub.refl _) (O2556.all 0 rfl) (T_ward_Ward.g1 e_0), _, rfl, ?_⟩
                      refine ⟨Ext.refl _, ?_⟩
                      refine ⟨_, ld0 (Sub.refl _) (O2556.all 0 rfl) (T_ward_Ward.g0 e_0), _, rfl, ?_⟩
                      refine ⟨Ext.refl _, ?_⟩
                      refine ⟨_, rfl, rfl, ?_⟩
                      refine O2556.stA 3 rfl rfl (Flats.cons trivial (Flats.cons trivial (Flats.cons trivial (Flats.cons trivial (Flats.cons trivial Flats.nil))))) fun h2557 O2558 => ?_
                      refine O2558.new fun h2559 x2560 O2561 => ?_
                      refine O2561.st0 5 rfl (Nat.le_of_ble_eq_true rfl) trivial fun h2563 O2564 => ?_
                      have O2565 := O2564.nil (aE (tell_int .i64)) none
                      have O2567 := O2565.nm
                      exact roadref3_Fallen.l0.walk (O2567.pick [0, 1, 2, 3, 4, 6, 5]).nm e_0 (show T_ward_Ward.E _ (T_ward_Ward.mk (0 : Int) (0 : Int) (0 : Int) ([] : List T_ward_Child) ([] : List Int)) [(Value.int .i64 (0 : Int)), (Value.int .i64 (0 : Int)), (Value.int .i64 (0 : Int)), (Value.slice none 0 0), (Value.slice none 0 0)] from ⟨_, _, _, _, rfl, (by exact Nat.le_refl 0), Rd.nil, (by exact Nat.le_refl 0), Rd.nil⟩) (show T_ward_Plan.E _ (T_ward_Plan.mk ([] : List Int) ([] : List Int) false) [(Value.slice none 0 0), (Value.slice none 0 0), (Value.bool false)] from ⟨_, _, _, _, rfl, (by exact Nat.le_refl 0), Rd.nil, (by exact Nat.le_refl 0), Rd.nil⟩) rfl rfl rfl e
              · refine O2230.appE0 T_ward_Child.T rfl rfl (Rd.srcE r46 T_ward_Child.T O2230.s rfl) (by decide) g19 fun A2570 c2571 h2572 x2574 O2573 => ?_
                refine ⟨_, _, _, rfl, ?_⟩
                refine ⟨?_, ?_⟩
                · have O2576 := O2573.nm
                  refine ⟨_, ld0 (Sub.refl _) (O2576.all 0 rfl) (T_ward_Ward.g0 e_0), _, rfl, ?_⟩
                  refine ⟨Ext.refl _, ?_⟩
                  refine ⟨?_, ?_⟩
                  · refine ⟨_, ldk (k := 1) (Sub.refl _) (O2576.all 0 rfl) (T_ward_Ward.g1 e_0), _, rfl, ?_⟩
                    refine ⟨Ext.refl _, ?_⟩
                    refine ⟨_, ldk (k := 2) (Sub.refl _) (O2576.all 0 rfl) (T_ward_Ward.g2 e_0), _, rfl, ?_⟩
                    refine ⟨Ext.refl _, ?_⟩
                    refine ⟨_, rfl, rfl, ?_⟩
                    refine O2576.stA 3 rfl rfl (Flats.cons trivial (Flats.cons trivial (Flats.cons trivial (Flats.cons trivial (Flats.cons trivial Flats.nil))))) fun h2577 O2578 => ?_
                    refine O2578.new fun h2579 x2580 O2581 => ?_
                    refine O2581.st0 5 rfl (Nat.le_of_ble_eq_true rfl) trivial fun h2583 O2584 => ?_
                    have O2585 := O2584.nil (aE (tell_int .i64)) none
                    have O2587 := O2585.nm
                    exact roadref3_Fallen.l0.walk (O2587.pick [0, 1, 2, 3, 4, 6, 5]).nm e_0 (show T_ward_Ward.E _ (T_ward_Ward.mk (0 : Int) (0 : Int) (0 : Int) ([] : List T_ward_Child) ([] : List Int)) [(Value.int .i64 (0 : Int)), (Value.int .i64 (0 : Int)), (Value.int .i64 (0 : Int)), (Value.slice none 0 0), (Value.slice none 0 0)] from ⟨_, _, _, _, rfl, (by exact Nat.le_refl 0), Rd.nil, (by exact Nat.le_refl 0), Rd.nil⟩) (show T_ward_Plan.E _ (T_ward_Plan.mk ([] : List Int) ([] : List Int) false) [(Value.slice none 0 0), (Value.slice none 0 0), (Value.bool false)] from ⟨_, _, _, _, rfl, (by exact Nat.le_refl 0), Rd.nil, (by exact Nat.le_refl 0), Rd.nil⟩) rfl rfl rfl e
                  · refine ⟨_, ldk (k := 2) (Sub.refl _) (O2576.all 0 rfl) (T_ward_Ward.g2 e_0), _, rfl, ?_⟩
                    refine ⟨Ext.refl _, ?_⟩
                    refine ⟨_, ldk (k := 1) (Sub.refl _) (O2576.all 0 rfl) (T_ward_Ward.g1 e_0), _, rfl, ?_⟩
                    refine ⟨Ext.refl _, ?_⟩
                    refine ⟨_, rfl, rfl, ?_⟩
                    refine O2576.stA 3 rfl rfl (Flats.cons trivial (Flats.cons trivial (Flats.cons trivial (Flats.cons trivial (Flats.cons trivial Flats.nil))))) fun h2588 O2589 => ?_
                    refine O2589.new fun h2590 x2591 O2592 => ?_
                    refine O2592.st0 5 rfl (Nat.le_of_ble_eq_true rfl) trivial fun h2594 O2595 => ?_
                    have O2596 := O2595.nil (aE (tell_int .i64)) none
                    have O2598 := O2596.nm
                    exact roadref3_Fallen.l0.walk (O2598.pick [0, 1, 2, 3, 4, 6, 5]).nm e_0 (show T_ward_Ward.E _ (T_ward_Ward.mk (0 : Int) (0 : Int) (0 : Int) ([] : List T_ward_Child) ([] : List Int)) [(Value.int .i64 (0 : Int)), (Value.int .i64 (0 : Int)), (Value.int .i64 (0 : Int)), (Value.slice none 0 0), (Value.slice none 0 0)] from ⟨_, _, _, _, rfl, (by exact Nat.le_refl 0), Rd.nil, (by exact Nat.le_refl 0), Rd.nil⟩) (show T_ward_Plan.E _ (T_ward_Plan.mk ([] : List Int) ([] : List Int) false) [(Value.slice none 0 0), (Value.slice none 0 0), (Value.bool false)] from ⟨_, _, _, _, rfl, (by exact Nat.le_refl 0), Rd.nil, (by exact Nat.le_refl 0), Rd.nil⟩) rfl rfl rfl e
                · refine ⟨?_, ?_⟩
                  · have O2599 := O2573.nm
                    refine ⟨_, ldk (k := 1) (Sub.refl _) (O2599.all 0 rfl) (T_ward_Ward.g1 e_0), _, rfl, ?_⟩
                    refine ⟨Ext.refl _, ?_⟩
                    refine ⟨?_, ?_⟩
                    · refine ⟨_, ld0 (Sub.refl _) (O2599.all 0 rfl) (T_ward_Ward.g0 e_0), _, rfl, ?_⟩
                      refine ⟨Ext.refl _, ?_⟩
                      refine ⟨_, ldk (k := 2) (Sub.refl _) (O2599.all 0 rfl) (T_ward_Ward.g2 e_0), _, rfl, ?_⟩
                      refine ⟨Ext.refl _, ?_⟩
                      refine ⟨_, rfl, rfl, ?_⟩
                      refine O2599.stA 3 rfl rfl (Flats.cons trivial (Flats.cons trivial (Flats.cons trivial (Flats.cons trivial (Flats.cons trivial Flats.nil))))) fun h2600 O2601 => ?_
                      refine O2601.new fun h2602 x2603 O2604 => ?_
                      refine O2604.st0 5 rfl (Nat.le_of_ble_eq_true rfl) trivial fun h2606 O2607 => ?_
                      have O2608 := O2607.nil (aE (tell_int .i64)) none
                      have O2610 := O2608.nm
                      exact roadref3_Fallen.l0.walk (O2610.pick [0, 1, 2, 3, 4, 6, 5]).nm e_0 (show T_ward_Ward.E _ (T_ward_Ward.mk (0 : Int) (0 : Int) (0 : Int) ([] : List T_ward_Child) ([] : List Int)) [(Value.int .i64 (0 : Int)), (Value.int .i64 (0 : Int)), (Value.int .i64 (0 : Int)), (Value.slice none 0 0), (Value.slice none 0 0)] from ⟨_, _, _, _, rfl, (by exact Nat.le_refl 0), Rd.nil, (by exact Nat.le_refl 0), Rd.nil⟩) (show T_ward_Plan.E _ (T_ward_Plan.mk ([] : List Int) ([] : List Int) false) [(Value.slice none 0 0), (Value.slice none 0 0), (Value.bool false)] from ⟨_, _, _, _, rfl, (by exact Nat.le_refl 0), Rd.nil, (by exact Nat.le_refl 0), Rd.nil⟩) rfl rfl rfl e
                    · refine ⟨_, ldk (k := 2) (Sub.refl _) (O2599.all 0 rfl) (T_ward_Ward.g2 e_0), _, rfl, ?_⟩
                      refine ⟨Ext.refl _, ?_⟩
                      refine ⟨_, ld0 (Sub.refl _) (O2599.all 0 rfl) (T_ward_Ward.g0 e_0), _, rfl, ?_⟩
                      refine ⟨Ext.refl _, ?_⟩
                      refine ⟨_, rfl, rfl, ?_⟩
                      refine O2599.stA 3 rfl rfl (Flats.cons trivial (Flats.cons trivial (Flats.cons trivial (Flats.cons trivial (Flats.cons trivial Flats.nil))))) fun h2611 O2612 => ?_
                      refine O2612.new fun h2613 x2614 O2615 => ?_
                      refine O2615.st0 5 rfl (Nat.le_of_ble_eq_true rfl) trivial fun h2617 O2618 => ?_
                      have O2619 := O2618.nil (aE (tell_int .i64)) none
                      have O2621 := O2619.nm
                      exact roadref3_Fallen.l0.walk (O2621.pick [0, 1, 2, 3, 4, 6, 5]).nm e_0 (show T_ward_Ward.E _ (T_ward_Ward.mk (0 : Int) (0 : Int) (0 : Int) ([] : List T_ward_Child) ([] : List Int)) [(Value.int .i64 (0 : Int)), (Value.int .i64 (0 : Int)), (Value.int .i64 (0 : Int)), (Value.slice none 0 0), (Value.slice none 0 0)] from ⟨_, _, _, _, rfl, (by exact Nat.le_refl 0), Rd.nil, (by exact Nat.le_refl 0), Rd.nil⟩) (show T_ward_Plan.E _ (T_ward_Plan.mk ([] : List Int) ([] : List Int) false) [(Value.slice none 0 0), (Value.slice none 0 0), (Value.bool false)] from ⟨_, _, _, _, rfl, (by exact Nat.le_refl 0), Rd.nil, (by exact Nat.le_refl 0), Rd.nil⟩) rfl rfl rfl e
                  · have O2622 := O2573.nm
                    refine ⟨_, ldk (k := 2) (Sub.refl _) (O2622.all 0 rfl) (T_ward_Ward.g2 e_0), _, rfl, ?_⟩
                    refine ⟨Ext.refl _, ?_⟩
                    refine ⟨?_, ?_⟩
                    · refine ⟨_, ld0 (Sub.refl _) (O2622.all 0 rfl) (T_ward_Ward.g0 e_0), _, rfl, ?_⟩
                      refine ⟨Ext.refl _, ?_⟩
                      refine ⟨_, ldk (k := 1) (Sub.refl _) (O2622.all 0 rfl) (T_ward_Ward.g1 e_0), _, rfl, ?_⟩
                      refine ⟨Ext.refl _, ?_⟩
                      refine ⟨_, rfl, rfl, ?_⟩
                      refine O2622.stA 3 rfl rfl (Flats.cons trivial (Flats.cons trivial (Flats.cons trivial (Flats.cons trivial (Flats.cons trivial Flats.nil))))) fun h2623 O2624 => ?_
                      refine O2624.new fun h2625 x2626 O2627 => ?_
                      refine O2627.st0 5 rfl (Nat.le_of_ble_eq_true rfl) trivial fun h2629 O2630 => ?_
                      have O2631 := O2630.nil (aE (tell_int .i64)) none
                      have O2633 := O2631.nm
                      exact roadref3_Fallen.l0.walk (O2633.pick [0, 1, 2, 3, 4, 6, 5]).nm e_0 (show T_ward_Ward.E _ (T_ward_Ward.mk (0 : Int) (0 : Int) (0 : Int) ([] : List T_ward_Child) ([] : List Int)) [(Value.int .i64 (0 : Int)), (Value.int .i64 (0 : Int)), (Value.int .i64 (0 : Int)), (Value.slice none 0 0), (Value.slice none 0 0)] from ⟨_, _, _, _, rfl, (by exact Nat.le_refl 0), Rd.nil, (by exact Nat.le_refl 0), Rd.nil⟩) (show T_ward_Plan.E _ (T_ward_Plan.mk ([] : List Int) ([] : List Int) false) [(Value.slice none 0 0), (Value.slice none 0 0), (Value.bool false)] from ⟨_, _, _, _, rfl, (by exact Nat.le_refl 0), Rd.nil, (by exact Nat.le_refl 0), Rd.nil⟩) rfl rfl rfl e
                    · refine ⟨_, ldk (k := 1) (Sub.refl _) (O2622.all 0 rfl) (T_ward_Ward.g1 e_0), _, rfl, ?_⟩
                      refine ⟨Ext.refl _, ?_⟩
                      refine ⟨_, ld0 (Sub.refl _) (O2622.all 0 rfl) (T_ward_Ward.g0 e_0), _, rfl, ?_⟩
                      refine ⟨Ext.refl _, ?_⟩
                      refine ⟨_, rfl, rfl, ?_⟩
                      refine O2622.stA 3 rfl rfl (Flats.cons trivial (Flats.cons trivial (Flats.cons trivial (Flats.cons trivial (Flats.cons trivial Flats.nil))))) fun h2634 O2635 => ?_
                      refine O2635.new fun h2636 x2637 O2638 => ?_
                      refine O2638.st0 5 rfl (Nat.le_of_ble_eq_true rfl) trivial fun h2640 O2641 => ?_
                      have O2642 := O2641.nil (aE (tell_int .i64)) none
                      have O2644 := O2642.nm
                      exact roadref3_Fallen.l0.walk (O2644.pick [0, 1, 2, 3, 4, 6, 5]).nm e_0 (show T_ward_Ward.E _ (T_ward_Ward.mk (0 : Int) (0 : Int) (0 : Int) ([] : List T_ward_Child) ([] : List Int)) [(Value.int .i64 (0 : Int)), (Value.int .i64 (0 : Int)), (Value.int .i64 (0 : Int)), (Value.slice none 0 0), (Value.slice none 0 0)] from ⟨_, _, _, _, rfl, (by exact Nat.le_refl 0), Rd.nil, (by exact Nat.le_refl 0), Rd.nil⟩) (show T_ward_Plan.E _ (T_ward_Plan.mk ([] : List Int) ([] : List Int) false) [(Value.slice none 0 0), (Value.slice none 0 0), (Value.bool false)] from ⟨_, _, _, _, rfl, (by exact Nat.le_refl 0), Rd.nil, (by exact Nat.le_refl 0), Rd.nil⟩) rfl rfl rfl e
end Go.Proofs.Ythnlhffpmlgmfab.Fw

end
