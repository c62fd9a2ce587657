/- Of each function the condition that has to be shown: written by a program of this work; held against the code in the ties. -/
import Derived.Test.YtlfmiplojpcklaaAxNetC
namespace Go.Proofs.Ytlfmiplojpcklaa.Net
open Go.Ax Go.Proofs
set_option linter.unusedVariables false
def vc_musterlaw08_NetSent_R2 (X : Nat → Option XDef) (J2 : AVal → AVal → AVal → AVal → Heap → Prop) (I1 : Nat → AVal → AVal → AVal → AVal → AVal → Heap → Prop) (n1 : Nat) (v11_i : AVal) : Prop :=
 ∀ v5_lost_1 v6_copies_1 v8_last_1 v10_delivered_1 h8, J2 v5_lost_1 v6_copies_1 v8_last_1 v10_delivered_1 h8 →
 ok (binA .add v11_i (.int .i64 1)) fun v35 =>
 ∃ m1, m1 < n1 ∧ I1 m1 v5_lost_1 v6_copies_1 v8_last_1 v10_delivered_1 v35 h8
def vc_musterlaw08_NetSent_A2 (X : Nat → Option XDef) (Q : AVal → Heap → Prop) (J2 : AVal → AVal → AVal → AVal → Heap → Prop) (v0_work : AVal) (v11_i : AVal) (v23 : AVal) (v4_sent : AVal) (v8_last : AVal) (v7_owner : AVal) (v6_copies : AVal) (v5_lost : AVal) (v10_delivered : AVal) (h7 : Heap) : Prop :=
 ok (oIA 1 v0_work v11_i) fun v38 =>
 ok (oLoad h7 none v38) fun v39 =>
 FnC X musterlow_Pick [v39, (.int .i64 1000003)] h7 fun v40 h9 =>
 FnC X net_Net_List [v23] h9 fun v42 h10 =>
 ok (oLen v42) fun v44 =>
 ok (binA .eql v44 (.int .i64 0)) fun v45 =>
 ok (gsel v45 false (some v40)) fun v47 =>
 ok (gsel v45 false (binA .rem v47 (.int .i64 5))) fun v48 =>
 ok (gsel v45 false (binA .lss v48 (.int .i64 2))) fun v49 =>
 ok (oPick v45 (.bool true) v49) fun v50 =>
 br v50 (
 ok (oLoad h10 none v4_sent) fun v53 =>
 (True) ∧
 ok (oLoad h10 none v4_sent) fun v54 =>
 (True) ∧
 ok (binA .add v54 (.int .i64 1)) fun v55 =>
 ok (oLoad h10 none v4_sent) fun v56 =>
 (True) ∧
 (((oLoad h10 none v4_sent) = some v56) ∧ ((oLoad h10 none v4_sent) = some v54) ∧ ((oLoad h10 none v4_sent) = some v53) ∧ True) ∧
 FnC X musterlaw08_body [v56] h10 fun v57 h11 =>
 (True) ∧
 (((oLoad h11 none v4_sent) = some v54) ∧ ((oLoad h11 none v4_sent) = some v53) ∧ True) ∧
 FnC X net_Net_Send [v23, v53, v55, v57] h11 fun v58 h12 =>
 (True) ∧
 ok (oExt 0 v58) fun v59 =>
 ok (oExt 1 v58) fun v60 =>
 (True) ∧
 ok (binA .neq v60 (.int .i64 0)) fun v62 =>
 ok (gsel v62 false (some v59)) fun v64 =>
 ok (gsel v62 false (some v8_last)) fun v65 =>
 ok (gsel v62 false (binA .add v65 (.int .i64 1))) fun v66 =>
 ok (gsel v62 false (binA .neq v64 v66)) fun v67 =>
 ok (oPick v62 (.bool true) v67) fun v68 =>
 br v68 (
 Q (.bool false) h12) (
 ok (oLoad h12 none v4_sent) fun v69 =>
 ok (binA .add v69 (.int .i64 1)) fun v70 =>
 ok2 (oStore h12 1 v4_sent v70) fun _ h13 =>
 ok (oLoad h13 none v7_owner) fun v72 =>
 ok (oLoad h13 none v4_sent) fun v74 =>
 ok (oIA 1 v72 v59) fun v75 =>
 ok2 (oStore h13 1 v75 v74) fun _ h14 =>
 ok2 (oBSl h14 1 1 [(.int .i64 0)] [(0, 1, (.int .i64 1))]) fun v77 h15 =>
 ok2 (appendA h15 1 8 v6_copies v77) fun v78 h16 =>
 J2 v5_lost v78 v59 v10_delivered h16)) (
 ok (binA .quo v40 (.int .i64 5)) fun v81 =>
 ok (oLen v42) fun v83 =>
 ok (binA .rem v81 v83) fun v84 =>
 ok (oIA 4 v42 v84) fun v85 =>
 ok (oLoad h10 (some 4) v85) fun v86 =>
 ok2 (oAlloc h10 [(.int .i64 0), (.int .i64 0), (.int .i64 0), .nilSlice]) fun v16_p h17 =>
 ok2 (oStore h17 4 v16_p v86) fun _ h18 =>
 ok (binA .rem v40 (.int .i64 5)) fun v88 =>
 ok (binA .eql v88 (.int .i64 2)) fun v90 =>
 br v90 (
 ok (oFA 0 v16_p) fun v93 =>
 ok (oLoad h18 none v93) fun v94 =>
 FnC X net_Net_Deliver [v23, v94] h18 fun v95 h19 =>
 ok (oExt 0 v95) fun v96 =>
 ok (oExt 1 v95) fun v97 =>
 callV X (.func (.func musterlaw08_NetSent_1) [] [v4_sent, v7_owner]) [v96, v97] h19 fun v98 h20 =>
 ok (unA .not v98) fun v99 =>
 br v99 (
 Q (.bool false) h20) (
 ok (binA .add v10_delivered (.int .i64 1)) fun v101 =>
 J2 v5_lost v6_copies v8_last v101 h20)) (
 ok (binA .eql v88 (.int .i64 3)) fun v103 =>
 br v103 (
 ok (oFA 0 v16_p) fun v105 =>
 ok (oLoad h18 none v105) fun v106 =>
 FnC X net_Net_Drop [v23, v106] h18 fun v107 h21 =>
 ok (binA .neq v107 (.int .i64 0)) fun v108 =>
 br v108 (
 Q (.bool false) h21) (
 ok (oLoad h21 none v7_owner) fun v110 =>
 ok (oFA 0 v16_p) fun v111 =>
 ok (oLoad h21 none v111) fun v112 =>
 ok (oIA 1 v110 v112) fun v113 =>
 ok (oLoad h21 none v113) fun v114 =>
 ok (binA .sub v114 (.int .i64 1)) fun v115 =>
 ok (oIA 1 v6_copies v115) fun v116 =>
 ok (oLoad h21 none v116) fun v117 =>
 ok (binA .sub v117 (.int .i64 1)) fun v118 =>
 ok (oIA 1 v6_copies v115) fun v119 =>
 ok2 (oStore h21 1 v119 v118) fun _ h22 =>
 ok (binA .add v5_lost (.int .i64 1)) fun v121 =>
 J2 v121 v6_copies v8_last v10_delivered h22)) (
 ok (binA .eql v88 (.int .i64 4)) fun v123 =>
 br v123 (
 ok (oFA 0 v16_p) fun v126 =>
 ok (oLoad h18 none v126) fun v127 =>
 FnC X net_Net_Double [v23, v127] h18 fun v128 h23 =>
 ok (oExt 0 v128) fun v129 =>
 ok (oExt 1 v128) fun v130 =>
 ok (binA .neq v130 (.int .i64 0)) fun v132 =>
 ok (gsel v132 false (some v129)) fun v134 =>
 ok (gsel v132 false (some v8_last)) fun v135 =>
 ok (gsel v132 false (binA .add v135 (.int .i64 1))) fun v136 =>
 ok (gsel v132 false (binA .neq v134 v136)) fun v137 =>
 ok (oPick v132 (.bool true) v137) fun v138 =>
 br v138 (
 Q (.bool false) h23) (
 ok (oLoad h23 none v7_owner) fun v140 =>
 (True) ∧
 ok (oLoad h23 none v7_owner) fun v142 =>
 (True) ∧
 ok (oFA 0 v16_p) fun v143 =>
 ok (oLoad h23 none v143) fun v144 =>
 (True) ∧
 ok (oIA 1 v142 v144) fun v145 =>
 ok (oLoad h23 none v145) fun v146 =>
 (True) ∧
 ok (oIA 1 v140 v129) fun v147 =>
 (((oLoad h23 none v145) = some v146) ∧ ((oLoad h23 none v143) = some v144) ∧ ((oLoad h23 none v7_owner) = some v142) ∧ ((oLoad h23 none v7_owner) = some v140) ∧ True) ∧
 ok2 (oStore h23 1 v147 v146) fun _ h24 =>
 (True) ∧
 (True) ∧
 ok (oLoad h24 none v7_owner) fun v149 =>
 ok (oIA 1 v149 v129) fun v151 =>
 ok (oLoad h24 none v151) fun v152 =>
 ok (binA .sub v152 (.int .i64 1)) fun v153 =>
 ok (oIA 1 v6_copies v153) fun v154 =>
 ok (oLoad h24 none v154) fun v155 =>
 ok (binA .add v155 (.int .i64 1)) fun v156 =>
 ok (oIA 1 v6_copies v153) fun v157 =>
 ok2 (oStore h24 1 v157 v156) fun _ h25 =>
 J2 v5_lost v6_copies v129 v10_delivered h25)) (
 J2 v5_lost v6_copies v8_last v10_delivered h18))))
def vc_musterlaw08_NetSent_L4 (X : Nat → Option XDef) (Q : AVal → Heap → Prop) (I4 : Nat → AVal → AVal → Heap → Prop) (v6_copies : AVal) (v10_delivered_2 : AVal) (v23 : AVal) (v8_last : AVal) (v5_lost : AVal) : Prop :=
 ∀ n4 v21_all v22_i h30, I4 n4 v21_all v22_i h30 →
 ok (oLen v6_copies) fun v182 =>
 ok (binA .lss v22_i v182) fun v183 =>
 br v183 (
 ok (oIA 1 v6_copies v22_i) fun v189 =>
 ok (oLoad h30 none v189) fun v190 =>
 ok (binA .add v21_all v190) fun v191 =>
 ok (binA .add v22_i (.int .i64 1)) fun v185 =>
 ∃ m4, m4 < n4 ∧ I4 m4 v191 v185 h30) (
 ok (binA .eql v10_delivered_2 v21_all) fun v194 =>
 ok (gsel v194 true (some v23)) fun v196 =>
 gP v194 true (fun K => FnC X net_Net_List [v196] h30 K) h30 fun v197 h31 =>
 ok (gsel v194 true (oLen v197)) fun v198 =>
 ok (gsel v194 true (binA .eql v198 (.int .i64 0))) fun v199 =>
 ok (oPick v194 v199 (.bool false)) fun v200 =>
 ok (gsel v200 true (some v8_last)) fun v202 =>
 ok (gsel v200 true (some v21_all)) fun v203 =>
 ok (gsel v200 true (some v5_lost)) fun v204 =>
 ok (gsel v200 true (binA .add v203 v204)) fun v205 =>
 ok (gsel v200 true (binA .eql v202 v205)) fun v206 =>
 ok (oPick v200 v206 (.bool false)) fun v207 =>
 gP v207 true (fun K => FnC X musterlaw08_awake [] h31 K) h31 fun v209 h32 =>
 ok (oPick v207 v209 (.bool false)) fun v210 =>
 Q v210 h32)
def vc_musterlaw08_NetSent_L3 (X : Nat → Option XDef) (Q : AVal → Heap → Prop) (I3 : Nat → AVal → AVal → Heap → Prop) (v159 : AVal) (v23 : AVal) (v4_sent : AVal) (v7_owner : AVal) (v6_copies : AVal) (v8_last : AVal) (v5_lost : AVal) : Prop :=
 ∀ n3 v10_delivered_2 v20_i h27, I3 n3 v10_delivered_2 v20_i h27 →
 ok (oLen v159) fun v162 =>
 ok (binA .lss v20_i v162) fun v163 =>
 br v163 (
 ok (oIA 4 v159 v20_i) fun v170 =>
 ok (oFA 0 v170) fun v171 =>
 ok (oLoad h27 none v171) fun v172 =>
 FnC X net_Net_Deliver [v23, v172] h27 fun v173 h28 =>
 ok (oExt 0 v173) fun v174 =>
 ok (oExt 1 v173) fun v175 =>
 callV X (.func (.func musterlaw08_NetSent_1) [] [v4_sent, v7_owner]) [v174, v175] h28 fun v176 h29 =>
 ok (unA .not v176) fun v177 =>
 br v177 (
 Q (.bool false) h29) (
 ok (binA .add v10_delivered_2 (.int .i64 1)) fun v179 =>
 ok (binA .add v20_i (.int .i64 1)) fun v165 =>
 ∃ m3, m3 < n3 ∧ I3 m3 v179 v165 h29)) (
 ∃ I4 : Nat → AVal → AVal → Heap → Prop, (∃ n4, I4 n4 (.int .i64 0) (.int .i64 0) h27) ∧
 vc_musterlaw08_NetSent_L4 X Q I4 v6_copies v10_delivered_2 v23 v8_last v5_lost)
def vc_musterlaw08_NetSent_L1 (X : Nat → Option XDef) (Q : AVal → Heap → Prop) (I1 : Nat → AVal → AVal → AVal → AVal → AVal → Heap → Prop) (v0_work : AVal) (v23 : AVal) (v4_sent : AVal) (v7_owner : AVal) : Prop :=
 ∀ n1 v5_lost v6_copies v8_last v10_delivered v11_i h7, I1 n1 v5_lost v6_copies v8_last v10_delivered v11_i h7 →
 ok (oLen v0_work) fun v28 =>
 ok (binA .lss v11_i v28) fun v29 =>
 ok (gsel v29 true (some v11_i)) fun v31 =>
 ok (gsel v29 true (binA .lss v31 (.int .i64 100))) fun v32 =>
 ok (oPick v29 v32 (.bool false)) fun v33 =>
 br v33 (
 ∃ J2 : AVal → AVal → AVal → AVal → Heap → Prop,
 vc_musterlaw08_NetSent_R2 X J2 I1 n1 v11_i ∧
 vc_musterlaw08_NetSent_A2 X Q J2 v0_work v11_i v23 v4_sent v8_last v7_owner v6_copies v5_lost v10_delivered h7) (
 FnC X net_Net_List [v23] h7 fun v159 h26 =>
 ∃ I3 : Nat → AVal → AVal → Heap → Prop, (∃ n3, I3 n3 v10_delivered (.int .i64 0) h26) ∧
 vc_musterlaw08_NetSent_L3 X Q I3 v159 v23 v4_sent v7_owner v6_copies v8_last v5_lost)
def vc_musterlaw08_NetSent (X : Nat → Option XDef) (Q : AVal → Heap → Prop) (v0_work : AVal) (h : Heap) : Prop :=
 FnC X net_New [] h fun v23 h1 =>
 ok2 (oAlloc h1 [(.int .i64 0)]) fun v4_sent h2 =>
 ok2 (oStore h2 1 v4_sent (.int .i64 0)) fun _ h3 =>
 ok2 (oMSl h3 1 [(.int .i64 0)] (.int .i64 400) (.int .i64 400)) fun v24 h4 =>
 ok2 (oAlloc h4 [.nilSlice]) fun v7_owner h5 =>
 ok2 (oStore h5 1 v7_owner v24) fun _ h6 =>
 ∃ I1 : Nat → AVal → AVal → AVal → AVal → AVal → Heap → Prop, (∃ n1, I1 n1 (.int .i64 0) .nilSlice (.int .i64 0) (.int .i64 0) (.int .i64 0) h6) ∧
 vc_musterlaw08_NetSent_L1 X Q I1 v0_work v23 v4_sent v7_owner
def vc_musterlaw08_NetSpares (X : Nat → Option XDef) (Q : AVal → Heap → Prop) (v0_b : AVal) (h : Heap) : Prop :=
 ok (oLen v0_b) fun v18 =>
 ok (oMin [v18, (.int .i64 3000)]) fun v19 =>
 ok (oSl 1 v0_b none (some v19) none) fun v20 =>
 FnC X musterlow_CopyBytes [v20] h fun v22 h1 =>
 FnC X net_New [] h1 fun v23 h2 =>
 FnC X net_Net_Send [v23, (.int .i64 1), (.int .i64 2), v22] h2 fun v27 h3 =>
 ok (oExt 0 v27) fun v28 =>
 ok (oExt 1 v27) fun v29 =>
 FnC X net_Net_Double [v23, (.int .i64 1)] h3 fun v32 h4 =>
 ok (oExt 0 v32) fun v33 =>
 ok (oExt 1 v32) fun v34 =>
 FnC X net_Net_List [v23] h4 fun v36 h5 =>
 FnC X net_Net_List [v23] h5 fun v38 h6 =>
 ok (binA .add v29 v34) fun v41 =>
 ok (binA .neq v41 (.int .i64 0)) fun v42 =>
 ok (gsel v42 false (some v36)) fun v44 =>
 ok (gsel v42 false (oLen v44)) fun v45 =>
 ok (gsel v42 false (binA .neq v45 (.int .i64 2))) fun v46 =>
 ok (oPick v42 (.bool true) v46) fun v47 =>
 ok (gsel v47 false (some v38)) fun v49 =>
 ok (gsel v47 false (oLen v49)) fun v50 =>
 ok (gsel v47 false (binA .neq v50 (.int .i64 2))) fun v51 =>
 ok (oPick v47 (.bool true) v51) fun v52 =>
 br v52 (
 Q (.bool false) h6) (
 ok (oIA 4 v36 (.int .i64 0)) fun v54 =>
 ok (oFA 3 v54) fun v55 =>
 ok (oLoad h6 none v55) fun v56 =>
 (True) ∧
 ok (oIA 4 v36 (.int .i64 1)) fun v58 =>
 ok (oFA 3 v58) fun v59 =>
 ok (oLoad h6 none v59) fun v60 =>
 (True) ∧
 ok (oIA 4 v38 (.int .i64 0)) fun v62 =>
 ok (oFA 3 v62) fun v63 =>
 ok (oLoad h6 none v63) fun v64 =>
 (True) ∧
 ok (oIA 4 v38 (.int .i64 1)) fun v66 =>
 ok (oFA 3 v66) fun v67 =>
 ok (oLoad h6 none v67) fun v68 =>
 (True) ∧
 okB (m_buildSlice .leaf h6.n 5 1 [.nilSlice] (vP [(0, 1, v56), (1, 1, v60), (2, 1, v64), (3, 1, v68), (4, 1, v22)])) fun v70 b1 =>
 (((oLoad (h6.push b1) none v67) = some v68) ∧ ((oLoad (h6.push b1) none v63) = some v64) ∧ ((oLoad (h6.push b1) none v59) = some v60) ∧ ((oLoad (h6.push b1) none v55) = some v56) ∧ True) ∧
 FnC X musterlow_ApartBytes [v70] (h6.push b1) fun v71 h7 =>
 (True) ∧
 (True) ∧
 FnC X net_Net_Deliver [v23, (.int .i64 1)] h7 fun v74 h8 =>
 ok (oExt 0 v74) fun v75 =>
 ok (oExt 1 v74) fun v76 =>
 ok2 (oAlloc h8 [(.int .i64 0), (.int .i64 0), (.int .i64 0), .nilSlice]) fun v12_p h9 =>
 ok2 (oStore h9 4 v12_p v75) fun _ h10 =>
 FnC X net_Net_Deliver [v23, (.int .i64 2)] h10 fun v79 h11 =>
 ok (oExt 0 v79) fun v80 =>
 ok (oExt 1 v79) fun v81 =>
 ok2 (oAlloc h11 [(.int .i64 0), (.int .i64 0), (.int .i64 0), .nilSlice]) fun v14_q h12 =>
 ok2 (oStore h12 4 v14_q v80) fun _ h13 =>
 ok (gsel v71 true (some v76)) fun v84 =>
 ok (gsel v71 true (some v81)) fun v85 =>
 ok (gsel v71 true (binA .add v84 v85)) fun v86 =>
 ok (gsel v71 true (binA .eql v86 (.int .i64 0))) fun v87 =>
 ok (oPick v71 v87 (.bool false)) fun v88 =>
 ok (gsel v88 true (oFA 3 v12_p)) fun v90 =>
 ok (gsel v88 true (oLoad h13 none v90)) fun v91 =>
 ok (gsel v88 true (some v20)) fun v92 =>
 gP v88 true (fun K => FnC X musterlow_SameBytes [v91, v92] h13 K) h13 fun v93 h14 =>
 ok (oPick v88 v93 (.bool false)) fun v94 =>
 ok (gsel v94 true (oFA 3 v14_q)) fun v96 =>
 ok (gsel v94 true (oLoad h14 none v96)) fun v97 =>
 ok (gsel v94 true (some v20)) fun v98 =>
 gP v94 true (fun K => FnC X musterlow_SameBytes [v97, v98] h14 K) h14 fun v99 h15 =>
 ok (oPick v94 v99 (.bool false)) fun v100 =>
 ok (gsel v100 true (oFA 3 v12_p)) fun v102 =>
 ok (gsel v100 true (oLoad h15 none v102)) fun v103 =>
 ok (gsel v100 true (oFA 3 v14_q)) fun v104 =>
 ok (gsel v100 true (oLoad h15 none v104)) fun v105 =>
 gP v100 true (fun K => ok2 (oBSl h15 2 1 [.nilSlice] [(0, 1, v103), (1, 1, v105)]) K) h15 fun v106 h16 =>
 gP v100 true (fun K => FnC X musterlow_ApartBytes [v106] h16 K) h16 fun v107 h17 =>
 ok (oPick v100 v107 (.bool false)) fun v108 =>
 gP v108 true (fun K => FnC X musterlaw08_awake [] h17 K) h17 fun v110 h18 =>
 ok (oPick v108 v110 (.bool false)) fun v111 =>
 Q v111 h18)
def vc_net_New (X : Nat → Option XDef) (Q : AVal → Heap → Prop) (h : Heap) : Prop :=
 ok2 (oMMap h) fun v1 h1 =>
 ok (oBuild [.nilMap, (.int .i64 0)] [(0, 1, v1)]) fun v2 =>
 ok2 (oBox h1 v2) fun v3 h2 =>
 Q v3 h2
def vc_musterlaw08_NetSent_1 (X : Nat → Option XDef) (Q : AVal → Heap → Prop) (v0_p v1_e v2 v3 : AVal) (h : Heap) : Prop :=
 ok2 (oBox h v0_p) fun v4_p h1 =>
 ok (binA .neq v1_e (.int .i64 0)) fun v9 =>
 ok (gsel v9 false (oFA 3 v4_p)) fun v11 =>
 ok (gsel v9 false (oLoad h1 none v11)) fun v12 =>
 ok (gsel v9 false (oLen v12)) fun v13 =>
 ok (gsel v9 false (binA .lss v13 (.int .i64 2))) fun v14 =>
 ok (oPick v9 (.bool true) v14) fun v15 =>
 br v15 (
 Q (.bool false) h1) (
 ok (oFA 3 v4_p) fun v16 =>
 ok (oLoad h1 none v16) fun v17 =>
 ok (oIA 1 v17 (.int .i64 0)) fun v18 =>
 ok (oLoad h1 none v18) fun v19 =>
 ok (oConv .i64 v19) fun v20 =>
 ok (binA .shl v20 (.int .u64 8)) fun v21 =>
 ok (oFA 3 v4_p) fun v22 =>
 ok (oLoad h1 none v22) fun v23 =>
 ok (oIA 1 v23 (.int .i64 1)) fun v24 =>
 ok (oLoad h1 none v24) fun v25 =>
 ok (oConv .i64 v25) fun v26 =>
 ok (binA .or v21 v26) fun v27 =>
 ok (oLoad h1 none v2) fun v29 =>
 (True) ∧
 ok (binA .lss v27 v29) fun v30 =>
 ok (gsel v30 true (oFA 1 v4_p)) fun v32 =>
 ok (gsel v30 true (oLoad h1 none v32)) fun v33 =>
 (True) ∧
 ok (gsel v30 true (some v27)) fun v34 =>
 ok (gsel v30 true (binA .eql v33 v34)) fun v35 =>
 ok (oPick v30 v35 (.bool false)) fun v36 =>
 ok (gsel v36 true (oFA 2 v4_p)) fun v38 =>
 ok (gsel v36 true (oLoad h1 none v38)) fun v39 =>
 (True) ∧
 ok (gsel v36 true (some v27)) fun v40 =>
 ok (gsel v36 true (binA .add v40 (.int .i64 1))) fun v41 =>
 ok (gsel v36 true (binA .eql v39 v41)) fun v42 =>
 ok (oPick v36 v42 (.bool false)) fun v43 =>
 ok (gsel v43 true (oFA 3 v4_p)) fun v45 =>
 ok (gsel v43 true (oLoad h1 none v45)) fun v46 =>
 (True) ∧
 ok (gsel v43 true (some v27)) fun v47 =>
 gcase v43 true (
 (((gsel v43 true (oLoad h1 none v45)) = some v46) ∧ ((gsel v36 true (oLoad h1 none v38)) = some v39) ∧ ((gsel v30 true (oLoad h1 none v32)) = some v33) ∧ ((oLoad h1 none v2) = some v29) ∧ True) ∧
 FnC X musterlaw08_body [v47] h1 fun v48 h2 =>
 (True) ∧
 gcase v43 true (
 (((gsel v43 true (oLoad h2 none v45)) = some v46) ∧ True) ∧
 FnC X musterlow_SameBytes [v46, v48] h2 fun v49 h3 =>
 (True) ∧
 ok (oPick v43 v49 (.bool false)) fun v50 =>
 ok (gsel v50 true (oLoad h3 none v3)) fun v52 =>
 (True) ∧
 ok (gsel v50 true (oFA 0 v4_p)) fun v53 =>
 ok (gsel v50 true (oLoad h3 none v53)) fun v54 =>
 (True) ∧
 ok (gsel v50 true (oIA 1 v52 v54)) fun v55 =>
 ok (gsel v50 true (oLoad h3 none v55)) fun v56 =>
 (True) ∧
 ok (gsel v50 true (some v27)) fun v57 =>
 ok (gsel v50 true (binA .add v57 (.int .i64 1))) fun v58 =>
 ok (gsel v50 true (binA .eql v56 v58)) fun v59 =>
 ok (oPick v50 v59 (.bool false)) fun v60 =>
 (((gsel v50 true (oLoad h3 none v55)) = some v56) ∧ ((gsel v50 true (oLoad h3 none v53)) = some v54) ∧ ((gsel v50 true (oLoad h3 none v3)) = some v52) ∧ True) ∧
 Q v60 h3) (
 ok (oPick v43 und (.bool false)) fun v50_1 =>
 ok (gsel v50_1 true (oLoad h2 none v3)) fun v52_1 =>
 (True) ∧
 ok (gsel v50_1 true (oFA 0 v4_p)) fun v53_1 =>
 ok (gsel v50_1 true (oLoad h2 none v53_1)) fun v54_1 =>
 (True) ∧
 ok (gsel v50_1 true (oIA 1 v52_1 v54_1)) fun v55_1 =>
 ok (gsel v50_1 true (oLoad h2 none v55_1)) fun v56_1 =>
 (True) ∧
 ok (gsel v50_1 true (some v27)) fun v57_1 =>
 ok (gsel v50_1 true (binA .add v57_1 (.int .i64 1))) fun v58_1 =>
 ok (gsel v50_1 true (binA .eql v56_1 v58_1)) fun v59_1 =>
 ok (oPick v50_1 v59_1 (.bool false)) fun v60_1 =>
 (((gsel v50_1 true (oLoad h2 none v55_1)) = some v56_1) ∧ ((gsel v50_1 true (oLoad h2 none v53_1)) = some v54_1) ∧ ((gsel v50_1 true (oLoad h2 none v3)) = some v52_1) ∧ ((gsel v43 true (oLoad h2 none v45)) = some v46) ∧ True) ∧
 Q v60_1 h2)) (
 gcase v43 true (
 (((gsel v43 true (oLoad h1 none v45)) = some v46) ∧ ((gsel v36 true (oLoad h1 none v38)) = some v39) ∧ ((gsel v30 true (oLoad h1 none v32)) = some v33) ∧ ((oLoad h1 none v2) = some v29) ∧ True) ∧
 FnC X musterlow_SameBytes [v46, und] h1 fun v49_1 h4 =>
 (True) ∧
 ok (oPick v43 v49_1 (.bool false)) fun v50_2 =>
 ok (gsel v50_2 true (oLoad h4 none v3)) fun v52_2 =>
 (True) ∧
 ok (gsel v50_2 true (oFA 0 v4_p)) fun v53_2 =>
 ok (gsel v50_2 true (oLoad h4 none v53_2)) fun v54_2 =>
 (True) ∧
 ok (gsel v50_2 true (oIA 1 v52_2 v54_2)) fun v55_2 =>
 ok (gsel v50_2 true (oLoad h4 none v55_2)) fun v56_2 =>
 (True) ∧
 ok (gsel v50_2 true (some v27)) fun v57_2 =>
 ok (gsel v50_2 true (binA .add v57_2 (.int .i64 1))) fun v58_2 =>
 ok (gsel v50_2 true (binA .eql v56_2 v58_2)) fun v59_2 =>
 ok (oPick v50_2 v59_2 (.bool false)) fun v60_2 =>
 (((gsel v50_2 true (oLoad h4 none v55_2)) = some v56_2) ∧ ((gsel v50_2 true (oLoad h4 none v53_2)) = some v54_2) ∧ ((gsel v50_2 true (oLoad h4 none v3)) = some v52_2) ∧ True) ∧
 Q v60_2 h4) (
 ok (oPick v43 und (.bool false)) fun v50_3 =>
 ok (gsel v50_3 true (oLoad h1 none v3)) fun v52_3 =>
 (True) ∧
 ok (gsel v50_3 true (oFA 0 v4_p)) fun v53_3 =>
 ok (gsel v50_3 true (oLoad h1 none v53_3)) fun v54_3 =>
 (True) ∧
 ok (gsel v50_3 true (oIA 1 v52_3 v54_3)) fun v55_3 =>
 ok (gsel v50_3 true (oLoad h1 none v55_3)) fun v56_3 =>
 (True) ∧
 ok (gsel v50_3 true (some v27)) fun v57_3 =>
 ok (gsel v50_3 true (binA .add v57_3 (.int .i64 1))) fun v58_3 =>
 ok (gsel v50_3 true (binA .eql v56_3 v58_3)) fun v59_3 =>
 ok (oPick v50_3 v59_3 (.bool false)) fun v60_3 =>
 (((gsel v50_3 true (oLoad h1 none v55_3)) = some v56_3) ∧ ((gsel v50_3 true (oLoad h1 none v53_3)) = some v54_3) ∧ ((gsel v50_3 true (oLoad h1 none v3)) = some v52_3) ∧ ((gsel v43 true (oLoad h1 none v45)) = some v46) ∧ ((gsel v36 true (oLoad h1 none v38)) = some v39) ∧ ((gsel v30 true (oLoad h1 none v32)) = some v33) ∧ ((oLoad h1 none v2) = some v29) ∧ True) ∧
 Q v60_3 h1)))
def vc_musterlow_SameBytes (X : Nat → Option XDef) (Q : AVal → Heap → Prop) (v0_a v1_b : AVal) (h : Heap) : Prop :=
 ok (oBytes h v0_a) fun v6 =>
 ok (oBytes h v1_b) fun v8 =>
 ok (binA .eql v6 v8) fun v9 =>
 Q v9 h
def vc_musterlaw08_body (X : Nat → Option XDef) (Q : AVal → Heap → Prop) (v0_i : AVal) (h : Heap) : Prop :=
 ok (binA .shr v0_i (.int .u64 8)) fun v4 =>
 ok (oConv .u8 v4) fun v5 =>
 ok (oConv .u8 v0_i) fun v7 =>
 ok2 (oBSl h 2 1 [(.int .u8 0)] [(0, 1, v5), (1, 1, v7)]) fun v8 h1 =>
 ok (binA .rem v0_i (.int .i64 20)) fun v11 =>
 FnC X musterlow_Made [v0_i, v11] h1 fun v12 h2 =>
 ok2 (appendA h2 1 1 v8 v12) fun v13 h3 =>
 Q v13 h3
def vc_musterlow_Pick_R1 (X : Nat → Option XDef) (Q : AVal → Heap → Prop) (J1 : AVal → Heap → Prop) : Prop :=
 ∀ v0_x_1 h1, J1 v0_x_1 h1 →
 Q v0_x_1 h1
def vc_musterlow_Pick_A1 (X : Nat → Option XDef) (J1 : AVal → Heap → Prop) (v9 : AVal) (v1_n : AVal) (h : Heap) : Prop :=
 ok (binA .lss v9 (.int .i64 0)) fun v11 =>
 br v11 (
 ok (binA .add v9 v1_n) fun v14 =>
 J1 v14 h) (
 J1 v9 h)
def vc_musterlow_Pick (X : Nat → Option XDef) (Q : AVal → Heap → Prop) (v0_x v1_n : AVal) (h : Heap) : Prop :=
 ok (binA .leq v1_n (.int .i64 0)) fun v6 =>
 br v6 (
 Q (.int .i64 0) h) (
 ok (binA .rem v0_x v1_n) fun v9 =>
 ∃ J1 : AVal → Heap → Prop,
 vc_musterlow_Pick_R1 X Q J1 ∧
 vc_musterlow_Pick_A1 X J1 v9 v1_n h)
def vc_net_Net_List_L1 (X : Nat → Option XDef) (Q : AVal → Heap → Prop) (I1 : Nat → AVal → AVal → Heap → Prop) (v15 : AVal) (v14 : AVal) (v0_n : AVal) : Prop :=
 ∀ n1 v3_out v16 h4, I1 n1 v3_out v16 h4 →
 ok (binA .lss v16 v15) fun v17 =>
 br v17 (
 ok (oIA 1 v14 v16) fun v18 =>
 ok (oLoad h4 none v18) fun v19 =>
 ok (oNil v0_n) fun v21 =>
 ok (oFA 0 v21) fun v22 =>
 ok (oLoad h4 none v22) fun v23 =>
 ok (oLook h4 false (.agg [(.int .i64 0), (.int .i64 0), (.int .i64 0), .nilSlice]) false v23 v19) fun v25 =>
 ok2 (oAlloc h4 [(.int .i64 0), (.int .i64 0), (.int .i64 0), .nilSlice]) fun v6_p h5 =>
 ok2 (oStore h5 4 v6_p v25) fun _ h6 =>
 ok (oFA 3 v6_p) fun v26 =>
 ok (oLoad h6 none v26) fun v27 =>
 FnC X slices_Clone_L_byte_byte [v27] h6 fun v28 h7 =>
 ok (oFA 3 v6_p) fun v29 =>
 ok2 (oStore h7 1 v29 v28) fun _ h8 =>
 ok (oLoad h8 (some 4) v6_p) fun v31 =>
 ok2 (oBSl h8 1 4 [(.int .i64 0), (.int .i64 0), (.int .i64 0), .nilSlice] [(0, 4, v31)]) fun v32 h9 =>
 ok2 (appendA h9 4 48 v3_out v32) fun v33 h10 =>
 ok (binA .add v16 (.int .i64 1)) fun v34 =>
 ∃ m1, m1 < n1 ∧ I1 m1 v33 v34 h10) (
 Q v3_out h4)
def vc_net_Net_List (X : Nat → Option XDef) (Q : AVal → Heap → Prop) (v0_n : AVal) (h : Heap) : Prop :=
 FnC X net_Net_none [v0_n] h fun v8 h1 =>
 br v8 (
 Q .nilSlice h1) (
 ok (oNil v0_n) fun v10 =>
 ok (oFA 0 v10) fun v11 =>
 ok (oLoad h1 none v11) fun v12 =>
 FnC X maps_Keys_map_int_api_Packet_int_api_Packet [v12] h1 fun v13 h2 =>
 FnC X slices_Sorted_int [v13] h2 fun v14 h3 =>
 ok (oLen v14) fun v15 =>
 ∃ I1 : Nat → AVal → AVal → Heap → Prop, (∃ n1, I1 n1 .nilSlice (.int .i64 0) h3) ∧
 vc_net_Net_List_L1 X Q I1 v15 v14 v0_n)
def vc_net_Net_Send (X : Nat → Option XDef) (Q : AVal → Heap → Prop) (v0_n v1_from v2_to v3_body : AVal) (h : Heap) : Prop :=
 FnC X net_Net_none [v0_n] h fun v12 h1 =>
 br v12 (
 Q (.tup [(.int .i64 0), (.int .i64 1)]) h1) (
 ok (oLen v3_body) fun v15 =>
 ok (binA .gtr v15 (.int .i64 65545)) fun v16 =>
 br v16 (
 Q (.tup [(.int .i64 0), (.int .i64 3)]) h1) (
 ok (oBuild [(.int .i64 0), (.int .i64 0), (.int .i64 0), .nilSlice] [(1, 1, v1_from), (2, 1, v2_to), (3, 1, v3_body)]) fun v21 =>
 FnC X net_Net_put [v0_n, v21] h1 fun v22 h2 =>
 ok (oExt 0 v22) fun v23 =>
 ok (oExt 1 v22) fun v24 =>
 Q (.tup [v23, v24]) h2))
def vc_net_Net_Deliver (X : Nat → Option XDef) (Q : AVal → Heap → Prop) (v0_n v1_number : AVal) (h : Heap) : Prop :=
 ok2 (oAlloc h [(.int .i64 0), (.int .i64 0), (.int .i64 0), .nilSlice]) fun v4 h1 =>
 FnC X net_Net_find [v0_n, v1_number] h1 fun v11 h2 =>
 ok (oExt 0 v11) fun v12 =>
 ok (oExt 1 v11) fun v13 =>
 ok2 (oAlloc h2 [(.int .i64 0), (.int .i64 0), (.int .i64 0), .nilSlice]) fun v6_p h3 =>
 ok2 (oStore h3 4 v6_p v12) fun _ h4 =>
 ok (binA .neq v13 (.int .i64 0)) fun v15 =>
 br v15 (
 ok (oBuild [(.int .i64 0), (.int .i64 0), (.int .i64 0), .nilSlice] []) fun v16 =>
 ok2 (oStore h4 4 v4 v16) fun _ h5 =>
 ok (oLoad h5 (some 4) v4) fun v4_1 =>
 Q (.tup [v4_1, v13]) h5) (
 ok (oNil v0_n) fun v19 =>
 ok (oFA 0 v19) fun v20 =>
 ok (oLoad h4 none v20) fun v21 =>
 ok2 (oMDel h4 false v21 v1_number) fun _ h6 =>
 ok (oFA 3 v6_p) fun v23 =>
 ok (oLoad h6 none v23) fun v24 =>
 FnC X slices_Clone_L_byte_byte [v24] h6 fun v25 h7 =>
 ok (oFA 3 v6_p) fun v26 =>
 ok2 (oStore h7 1 v26 v25) fun _ h8 =>
 ok (oLoad h8 (some 4) v6_p) fun v27 =>
 ok2 (oStore h8 4 v4 v27) fun _ h9 =>
 ok (oLoad h9 (some 4) v4) fun v4_2 =>
 Q (.tup [v4_2, (.int .i64 0)]) h9)
def vc_net_Net_Drop (X : Nat → Option XDef) (Q : AVal → Heap → Prop) (v0_n v1_number : AVal) (h : Heap) : Prop :=
 FnC X net_Net_Deliver [v0_n, v1_number] h fun v10 h1 =>
 ok (oExt 0 v10) fun v11 =>
 ok (oExt 1 v10) fun v12 =>
 ok2 (oAlloc h1 [(.int .i64 0), (.int .i64 0), (.int .i64 0), .nilSlice]) fun v5 h2 =>
 ok2 (oStore h2 4 v5 v11) fun _ h3 =>
 Q v12 h3
def vc_net_Net_Double (X : Nat → Option XDef) (Q : AVal → Heap → Prop) (v0_n v1_number : AVal) (h : Heap) : Prop :=
 FnC X net_Net_find [v0_n, v1_number] h fun v11 h1 =>
 ok (oExt 0 v11) fun v12 =>
 ok (oExt 1 v11) fun v13 =>
 ok2 (oAlloc h1 [(.int .i64 0), (.int .i64 0), (.int .i64 0), .nilSlice]) fun v6_p h2 =>
 ok2 (oStore h2 4 v6_p v12) fun _ h3 =>
 ok (binA .neq v13 (.int .i64 0)) fun v15 =>
 br v15 (
 Q (.tup [(.int .i64 0), v13]) h3) (
 ok (oLoad h3 (some 4) v6_p) fun v18 =>
 FnC X net_Net_put [v0_n, v18] h3 fun v19 h4 =>
 ok (oExt 0 v19) fun v20 =>
 ok (oExt 1 v19) fun v21 =>
 Q (.tup [v20, v21]) h4)
def vc_musterlaw08_awake (X : Nat → Option XDef) (Q : AVal → Heap → Prop) (h : Heap) : Prop :=
 FnC X net_New [] h fun v14 h1 =>
 ok2 (oBSl h1 1 1 [(.int .u8 0)] [(0, 1, (.int .u8 97))]) fun v17 h2 =>
 ok2 (oMark h2 v17) fun v18 h3 =>
 FnC X net_Net_Send [v14, (.int .i64 1), (.int .i64 2), v18] h3 fun v19 h4 =>
 ok (oExt 0 v19) fun v20 =>
 ok (oExt 1 v19) fun v21 =>
 ok2 (oBSl h4 1 1 [(.int .u8 0)] [(0, 1, (.int .u8 98))]) fun v24 h5 =>
 ok2 (oMark h5 v24) fun v25 h6 =>
 FnC X net_Net_Send [v14, (.int .i64 2), (.int .i64 1), v25] h6 fun v26 h7 =>
 ok (oExt 0 v26) fun v27 =>
 ok (oExt 1 v26) fun v28 =>
 FnC X net_Net_Double [v14, (.int .i64 1)] h7 fun v31 h8 =>
 ok (oExt 0 v31) fun v32 =>
 ok (oExt 1 v31) fun v33 =>
 FnC X net_Net_Deliver [v14, (.int .i64 3)] h8 fun v36 h9 =>
 ok (oExt 0 v36) fun v37 =>
 ok (oExt 1 v36) fun v38 =>
 ok2 (oAlloc h9 [(.int .i64 0), (.int .i64 0), (.int .i64 0), .nilSlice]) fun v8_p h10 =>
 ok2 (oStore h10 4 v8_p v37) fun _ h11 =>
 FnC X net_Net_Deliver [v14, (.int .i64 3)] h11 fun v41 h12 =>
 ok (oExt 0 v41) fun v42 =>
 ok (oExt 1 v41) fun v43 =>
 ok2 (oAlloc h12 [(.int .i64 0), (.int .i64 0), (.int .i64 0), .nilSlice]) fun v10 h13 =>
 ok2 (oStore h13 4 v10 v42) fun _ h14 =>
 FnC X net_Net_Drop [v14, (.int .i64 1)] h14 fun v45 h15 =>
 FnC X net_Net_List [v14] h15 fun v47 h16 =>
 ok (binA .add v21 v28) fun v50 =>
 ok (binA .add v50 v33) fun v52 =>
 ok (binA .add v52 v38) fun v54 =>
 ok (binA .add v54 v45) fun v56 =>
 ok (binA .eql v56 (.int .i64 0)) fun v57 =>
 ok (gsel v57 true (some v20)) fun v59 =>
 ok (gsel v57 true (binA .eql v59 (.int .i64 1))) fun v60 =>
 ok (oPick v57 v60 (.bool false)) fun v61 =>
 ok (gsel v61 true (some v27)) fun v63 =>
 ok (gsel v61 true (binA .eql v63 (.int .i64 2))) fun v64 =>
 ok (oPick v61 v64 (.bool false)) fun v65 =>
 ok (gsel v65 true (some v32)) fun v67 =>
 ok (gsel v65 true (binA .eql v67 (.int .i64 3))) fun v68 =>
 ok (oPick v65 v68 (.bool false)) fun v69 =>
 ok (gsel v69 true (oFA 0 v8_p)) fun v71 =>
 ok (gsel v69 true (oLoad h16 none v71)) fun v72 =>
 ok (gsel v69 true (binA .eql v72 (.int .i64 3))) fun v73 =>
 ok (oPick v69 v73 (.bool false)) fun v74 =>
 ok (gsel v74 true (oFA 1 v8_p)) fun v76 =>
 ok (gsel v74 true (oLoad h16 none v76)) fun v77 =>
 ok (gsel v74 true (binA .eql v77 (.int .i64 1))) fun v78 =>
 ok (oPick v74 v78 (.bool false)) fun v79 =>
 ok (gsel v79 true (oFA 2 v8_p)) fun v81 =>
 ok (gsel v79 true (oLoad h16 none v81)) fun v82 =>
 ok (gsel v79 true (binA .eql v82 (.int .i64 2))) fun v83 =>
 ok (oPick v79 v83 (.bool false)) fun v84 =>
 ok (gsel v84 true (oFA 3 v8_p)) fun v86 =>
 ok (gsel v84 true (oLoad h16 none v86)) fun v87 =>
 ok (gsel v84 true (oBytes h16 v87)) fun v88 =>
 ok (gsel v84 true (binA .eql v88 (.str ⟨#[97]⟩))) fun v89 =>
 ok (oPick v84 v89 (.bool false)) fun v90 =>
 ok (gsel v90 true (some v43)) fun v92 =>
 ok (gsel v90 true (binA .eql v92 (.int .i64 80))) fun v93 =>
 ok (oPick v90 v93 (.bool false)) fun v94 =>
 ok (gsel v94 true (some v47)) fun v96 =>
 ok (gsel v94 true (oLen v96)) fun v97 =>
 ok (gsel v94 true (binA .eql v97 (.int .i64 1))) fun v98 =>
 ok (oPick v94 v98 (.bool false)) fun v99 =>
 ok (gsel v99 true (some v47)) fun v101 =>
 ok (gsel v99 true (oIA 4 v101 (.int .i64 0))) fun v102 =>
 ok (gsel v99 true (oFA 0 v102)) fun v103 =>
 ok (gsel v99 true (oLoad h16 none v103)) fun v104 =>
 ok (gsel v99 true (binA .eql v104 (.int .i64 2))) fun v105 =>
 ok (oPick v99 v105 (.bool false)) fun v106 =>
 Q v106 h16
def vc_musterlow_CopyBytes (X : Nat → Option XDef) (Q : AVal → Heap → Prop) (v0_l : AVal) (h : Heap) : Prop :=
 ok2 (appendA h 1 1 .nilSlice v0_l) fun v6 h1 =>
 Q v6 h1
def vc_musterlow_ApartBytes_L2 (X : Nat → Option XDef) (I2 : Nat → AVal → Heap → Prop) (I1 : Nat → AVal → Heap → Prop) (n1 : Nat) (v0_ls : AVal) (v4_k : AVal) : Prop :=
 ∀ n2 v5_i h3, I2 n2 v5_i h3 →
 ok (oIA 1 v0_ls v4_k) fun v23 =>
 ok (oLoad h3 none v23) fun v24 =>
 ok (oLen v24) fun v25 =>
 ok (binA .lss v5_i v25) fun v26 =>
 br v26 (
 ok (oIA 1 v0_ls v4_k) fun v31 =>
 ok (oLoad h3 none v31) fun v32 =>
 (True) ∧
 (((oLoad h3 none v31) = some v32) ∧ True) ∧
 FnC X musterlow_markByte [v4_k, v5_i] h3 fun v36 h4 =>
 (True) ∧
 ok (oIA 1 v32 v5_i) fun v37 =>
 (((oLoad h4 none v31) = some v32) ∧ True) ∧
 ok2 (oStore h4 1 v37 v36) fun _ h5 =>
 (True) ∧
 (True) ∧
 ok (binA .add v5_i (.int .i64 1)) fun v28 =>
 ∃ m2, m2 < n2 ∧ I2 m2 v28 h5) (
 ok (binA .add v4_k (.int .i64 1)) fun v19 =>
 ∃ m1, m1 < n1 ∧ I1 m1 v19 h3)
def vc_musterlow_ApartBytes_L4 (X : Nat → Option XDef) (I4 : Nat → AVal → AVal → Heap → Prop) (I3 : Nat → AVal → Heap → Prop) (n3 : Nat) (v0_ls : AVal) (v6_k : AVal) (v13 : AVal) : Prop :=
 ∀ n4 v7_g v8_j h7, I4 n4 v7_g v8_j h7 →
 ok (binA .lss v8_j (.int .i64 40)) fun v49 =>
 br v49 (
 ok (oIA 1 v0_ls v6_k) fun v56 =>
 ok (oLoad h7 none v56) fun v57 =>
 ok (oLen v57) fun v58 =>
 ok (binA .add v58 v8_j) fun v60 =>
 FnC X musterlow_markByte [v6_k, v60] h7 fun v61 h8 =>
 ok2 (oBSl h8 1 1 [(.int .u8 0)] [(0, 1, v61)]) fun v62 h9 =>
 ok2 (appendA h9 1 1 v7_g v62) fun v63 h10 =>
 ok (binA .add v8_j (.int .i64 1)) fun v51 =>
 ∃ m4, m4 < n4 ∧ I4 m4 v63 v51 h10) (
 ok (oIA 1 v13 v6_k) fun v67 =>
 ok2 (oStore h7 1 v67 v7_g) fun _ h11 =>
 ok (binA .add v6_k (.int .i64 1)) fun v43 =>
 ∃ m3, m3 < n3 ∧ I3 m3 v43 h11)
def vc_musterlow_ApartBytes_R7 (X : Nat → Option XDef) (Q : AVal → Heap → Prop) (J7 : AVal → Heap → Prop) (I6 : Nat → AVal → Heap → Prop) (n6 : Nat) (v10_i : AVal) : Prop :=
 ∀ v115 h14, J7 v115 h14 →
 br v115 (
 Q (.bool false) h14) (
 ok (binA .add v10_i (.int .i64 1)) fun v82 =>
 ∃ m6, m6 < n6 ∧ I6 m6 v82 h14)
def vc_musterlow_ApartBytes_A7 (X : Nat → Option XDef) (J7 : AVal → Heap → Prop) (v13 : AVal) (v9_k : AVal) (v10_i : AVal) (v0_ls : AVal) (h13 : Heap) : Prop :=
 ok (oIA 1 v13 v9_k) fun v85 =>
 ok (oLoad h13 none v85) fun v86 =>
 (True) ∧
 ok (oIA 1 v86 v10_i) fun v88 =>
 ok (oLoad h13 none v88) fun v89 =>
 (True) ∧
 (((oLoad h13 none v88) = some v89) ∧ ((oLoad h13 none v85) = some v86) ∧ True) ∧
 FnC X musterlow_markByte [v9_k, v10_i] h13 fun v92 h15 =>
 (True) ∧
 ok (binA .neq v89 v92) fun v93 =>
 ok (gsel v93 false (some v10_i)) fun v95 =>
 ok (gsel v93 false (some v0_ls)) fun v96 =>
 ok (gsel v93 false (some v9_k)) fun v97 =>
 ok (gsel v93 false (oIA 1 v96 v97)) fun v98 =>
 ok (gsel v93 false (oLoad h15 none v98)) fun v99 =>
 (True) ∧
 ok (gsel v93 false (oLen v99)) fun v100 =>
 ok (gsel v93 false (binA .lss v95 v100)) fun v101 =>
 ok (gsel v93 false (some v101)) fun v102 =>
 ok (gsel v102 true (some v0_ls)) fun v103 =>
 ok (gsel v102 true (some v9_k)) fun v104 =>
 ok (gsel v102 true (oIA 1 v103 v104)) fun v105 =>
 ok (gsel v102 true (oLoad h15 none v105)) fun v106 =>
 (True) ∧
 ok (gsel v102 true (some v10_i)) fun v107 =>
 ok (gsel v102 true (oIA 1 v106 v107)) fun v108 =>
 ok (gsel v102 true (oLoad h15 none v108)) fun v109 =>
 (True) ∧
 ok (gsel v102 true (some v9_k)) fun v110 =>
 ok (gsel v102 true (some v10_i)) fun v111 =>
 gcase v102 true (
 (((gsel v102 true (oLoad h15 none v108)) = some v109) ∧ ((gsel v102 true (oLoad h15 none v105)) = some v106) ∧ ((gsel v93 false (oLoad h15 none v98)) = some v99) ∧ ((oLoad h15 none v88) = some v89) ∧ ((oLoad h15 none v85) = some v86) ∧ True) ∧
 FnC X musterlow_markByte [v110, v111] h15 fun v112 h16 =>
 (True) ∧
 ok (gsel v102 true (binA .neq v109 v112)) fun v113 =>
 ok (gsel v93 false (oPick v102 v113 (.bool false))) fun v114 =>
 ok (oPick v93 (.bool true) v114) fun v115_1 =>
 (((gsel v102 true (oLoad h16 none v108)) = some v109) ∧ ((gsel v102 true (oLoad h16 none v105)) = some v106) ∧ True) ∧
 J7 v115_1 h16) (
 ok (gsel v102 true (binA .neq v109 und)) fun v113_1 =>
 ok (gsel v93 false (oPick v102 v113_1 (.bool false))) fun v114_1 =>
 ok (oPick v93 (.bool true) v114_1) fun v115_2 =>
 (((gsel v102 true (oLoad h15 none v108)) = some v109) ∧ ((gsel v102 true (oLoad h15 none v105)) = some v106) ∧ ((gsel v93 false (oLoad h15 none v98)) = some v99) ∧ ((oLoad h15 none v88) = some v89) ∧ ((oLoad h15 none v85) = some v86) ∧ True) ∧
 J7 v115_2 h15)
def vc_musterlow_ApartBytes_L6 (X : Nat → Option XDef) (Q : AVal → Heap → Prop) (I6 : Nat → AVal → Heap → Prop) (I5 : Nat → AVal → Heap → Prop) (n5 : Nat) (v13 : AVal) (v9_k : AVal) (v0_ls : AVal) : Prop :=
 ∀ n6 v10_i h13, I6 n6 v10_i h13 →
 ok (oIA 1 v13 v9_k) fun v77 =>
 ok (oLoad h13 none v77) fun v78 =>
 ok (oLen v78) fun v79 =>
 ok (binA .lss v10_i v79) fun v80 =>
 br v80 (
 ∃ J7 : AVal → Heap → Prop,
 vc_musterlow_ApartBytes_R7 X Q J7 I6 n6 v10_i ∧
 vc_musterlow_ApartBytes_A7 X J7 v13 v9_k v10_i v0_ls h13) (
 ok (binA .add v9_k (.int .i64 1)) fun v73 =>
 ∃ m5, m5 < n5 ∧ I5 m5 v73 h13)
def vc_musterlow_ApartBytes_L5 (X : Nat → Option XDef) (Q : AVal → Heap → Prop) (I5 : Nat → AVal → Heap → Prop) (v0_ls : AVal) (v13 : AVal) : Prop :=
 ∀ n5 v9_k h12, I5 n5 v9_k h12 →
 ok (oLen v0_ls) fun v70 =>
 ok (binA .lss v9_k v70) fun v71 =>
 br v71 (
 ∃ I6 : Nat → AVal → Heap → Prop, (∃ n6, I6 n6 (.int .i64 0) h12) ∧
 vc_musterlow_ApartBytes_L6 X Q I6 I5 n5 v13 v9_k v0_ls) (
 Q (.bool true) h12)
def vc_musterlow_ApartBytes_L3 (X : Nat → Option XDef) (Q : AVal → Heap → Prop) (I3 : Nat → AVal → Heap → Prop) (v0_ls : AVal) (v13 : AVal) : Prop :=
 ∀ n3 v6_k h6, I3 n3 v6_k h6 →
 ok (oLen v0_ls) fun v40 =>
 ok (binA .lss v6_k v40) fun v41 =>
 br v41 (
 ok (oIA 1 v0_ls v6_k) fun v46 =>
 ok (oLoad h6 none v46) fun v47 =>
 ∃ I4 : Nat → AVal → AVal → Heap → Prop, (∃ n4, I4 n4 v47 (.int .i64 0) h6) ∧
 vc_musterlow_ApartBytes_L4 X I4 I3 n3 v0_ls v6_k v13) (
 ∃ I5 : Nat → AVal → Heap → Prop, (∃ n5, I5 n5 (.int .i64 0) h6) ∧
 vc_musterlow_ApartBytes_L5 X Q I5 v0_ls v13)
def vc_musterlow_ApartBytes_L1 (X : Nat → Option XDef) (Q : AVal → Heap → Prop) (I1 : Nat → AVal → Heap → Prop) (v0_ls : AVal) (v13 : AVal) : Prop :=
 ∀ n1 v4_k h2, I1 n1 v4_k h2 →
 ok (oLen v0_ls) fun v16 =>
 ok (binA .lss v4_k v16) fun v17 =>
 br v17 (
 ∃ I2 : Nat → AVal → Heap → Prop, (∃ n2, I2 n2 (.int .i64 0) h2) ∧
 vc_musterlow_ApartBytes_L2 X I2 I1 n1 v0_ls v4_k) (
 ∃ I3 : Nat → AVal → Heap → Prop, (∃ n3, I3 n3 (.int .i64 0) h2) ∧
 vc_musterlow_ApartBytes_L3 X Q I3 v0_ls v13)
def vc_musterlow_ApartBytes (X : Nat → Option XDef) (Q : AVal → Heap → Prop) (v0_ls : AVal) (h : Heap) : Prop :=
 ok (oLen v0_ls) fun v12 =>
 ok2 (oMSl h 1 [.nilSlice] v12 v12) fun v13 h1 =>
 ∃ I1 : Nat → AVal → Heap → Prop, (∃ n1, I1 n1 (.int .i64 0) h1) ∧
 vc_musterlow_ApartBytes_L1 X Q I1 v0_ls v13
def vc_musterlow_Made_R2 (X : Nat → Option XDef) (J2 : AVal → Heap → Prop) (I1 : Nat → AVal → AVal → Heap → Prop) (n1 : Nat) (v9 : AVal) (v7_i : AVal) : Prop :=
 ∀ v6_x_1 h3, J2 v6_x_1 h3 →
 ok (binA .shr v6_x_1 (.int .u64 40)) fun v28 =>
 ok (oConv .u8 v28) fun v29 =>
 ok (oIA 1 v9 v7_i) fun v30 =>
 ok2 (oStore h3 1 v30 v29) fun _ h4 =>
 ok (binA .add v7_i (.int .i64 1)) fun v18 =>
 ∃ m1, m1 < n1 ∧ I1 m1 v6_x_1 v18 h4
def vc_musterlow_Made_A2 (X : Nat → Option XDef) (J2 : AVal → Heap → Prop) (v7_i : AVal) (v6_x : AVal) (h2 : Heap) : Prop :=
 ok (binA .rem v7_i (.int .i64 8)) fun v20 =>
 ok (binA .eql v20 (.int .i64 0)) fun v21 =>
 br v21 (
 ok (binA .mul v6_x (.int .u64 2862933555777941757)) fun v23 =>
 ok (binA .add v23 (.int .u64 3037000493)) fun v24 =>
 J2 v24 h2) (
 J2 v6_x h2)
def vc_musterlow_Made_L1 (X : Nat → Option XDef) (Q : AVal → Heap → Prop) (I1 : Nat → AVal → AVal → Heap → Prop) (v1_n : AVal) (v9 : AVal) : Prop :=
 ∀ n1 v6_x v7_i h2, I1 n1 v6_x v7_i h2 →
 ok (binA .lss v7_i v1_n) fun v16 =>
 br v16 (
 ∃ J2 : AVal → Heap → Prop,
 vc_musterlow_Made_R2 X J2 I1 n1 v9 v7_i ∧
 vc_musterlow_Made_A2 X J2 v7_i v6_x h2) (
 Q v9 h2)
def vc_musterlow_Made (X : Nat → Option XDef) (Q : AVal → Heap → Prop) (v0_seed v1_n : AVal) (h : Heap) : Prop :=
 ok2 (oMSl h 1 [(.int .u8 0)] v1_n v1_n) fun v9 h1 =>
 ok (oConv .u64 v0_seed) fun v11 =>
 ok (binA .mul v11 (.int .u64 2862933555777941757)) fun v12 =>
 ok (binA .add v12 (.int .u64 3037000493)) fun v13 =>
 ∃ I1 : Nat → AVal → AVal → Heap → Prop, (∃ n1, I1 n1 v13 (.int .i64 0) h1) ∧
 vc_musterlow_Made_L1 X Q I1 v1_n v9
def vc_net_Net_none (X : Nat → Option XDef) (Q : AVal → Heap → Prop) (v0_n : AVal) (h : Heap) : Prop :=
 ok (oEqN 1 false v0_n .nilPtr) fun v4 =>
 ok (gsel v4 false (some v0_n)) fun v6 =>
 ok (gsel v4 false (oNil v6)) fun v7 =>
 ok (gsel v4 false (oFA 0 v7)) fun v8 =>
 ok (gsel v4 false (oLoad h none v8)) fun v9 =>
 ok (gsel v4 false (oEqN 3 false v9 .nilMap)) fun v10 =>
 ok (oPick v4 (.bool true) v10) fun v11 =>
 Q v11 h
def vc_maps_Keys_map_int_api_Packet_int_api_Packet (X : Nat → Option XDef) (Q : AVal → Heap → Prop) (v0_m : AVal) (h : Heap) : Prop :=
 ok2 (oBox h v0_m) fun v1_m h1 =>
 Q (.func (.func maps_Keys_map_int_api_Packet_int_api_Packet_1) [] [v1_m]) h1
def vc_slices_Clone_L_byte_byte (X : Nat → Option XDef) (Q : AVal → Heap → Prop) (v0_s : AVal) (h : Heap) : Prop :=
 ok (oEqN 2 false v0_s .nilSlice) fun v4 =>
 br v4 (
 Q .nilSlice h) (
 ok2 (oBSl h 0 1 [(.int .u8 0)] []) fun v5 h1 =>
 ok2 (appendA h1 1 1 v5 v0_s) fun v7 h2 =>
 Q v7 h2)
def vc_net_Net_put (X : Nat → Option XDef) (Q : AVal → Heap → Prop) (v0_n v1_p : AVal) (h : Heap) : Prop :=
 ok2 (oBox h v1_p) fun v3_p h1 =>
 ok (oNil v0_n) fun v7 =>
 ok (oFA 0 v7) fun v8 =>
 ok (oLoad h1 none v8) fun v9 =>
 ok (oLenM h1 v9) fun v10 =>
 ok (binA .geq v10 (.int .i64 256)) fun v11 =>
 br v11 (
 Q (.tup [(.int .i64 0), (.int .i64 5)]) h1) (
 ok (oNil v0_n) fun v13 =>
 ok (oFA 1 v13) fun v14 =>
 ok (oLoad h1 none v14) fun v15 =>
 ok (binA .add v15 (.int .i64 1)) fun v16 =>
 ok (oNil v0_n) fun v17 =>
 ok (oFA 1 v17) fun v18 =>
 ok2 (oStore h1 1 v18 v16) fun _ h2 =>
 ok (oNil v0_n) fun v20 =>
 ok (oFA 1 v20) fun v21 =>
 ok (oLoad h2 none v21) fun v22 =>
 (True) ∧
 ok (oFA 3 v3_p) fun v23 =>
 ok (oLoad h2 none v23) fun v24 =>
 (True) ∧
 ok (oFA 0 v3_p) fun v26 =>
 (((oLoad h2 none v23) = some v24) ∧ ((oLoad h2 none v21) = some v22) ∧ True) ∧
 FnC X slices_Clone_L_byte_byte [v24] h2 fun v25 h3 =>
 (True) ∧
 (((oLoad h3 none v21) = some v22) ∧ True) ∧
 ok2 (oStore h3 1 v26 v22) fun _ h4 =>
 (True) ∧
 ok (oFA 3 v3_p) fun v27 =>
 (True) ∧
 ok2 (oStore h4 1 v27 v25) fun _ h5 =>
 (True) ∧
 (True) ∧
 ok (oNil v0_n) fun v29 =>
 ok (oFA 0 v29) fun v30 =>
 ok (oLoad h5 none v30) fun v31 =>
 (True) ∧
 ok (oNil v0_n) fun v33 =>
 ok (oFA 1 v33) fun v34 =>
 ok (oLoad h5 none v34) fun v35 =>
 (True) ∧
 ok (oLoad h5 (some 4) v3_p) fun v36 =>
 (True) ∧
 (((oLoad h5 (some 4) v3_p) = some v36) ∧ ((oLoad h5 none v34) = some v35) ∧ ((oLoad h5 none v30) = some v31) ∧ True) ∧
 ok2 (oMUpd h5 false v31 v35 v36) fun _ h6 =>
 (True) ∧
 (True) ∧
 ok (oNil v0_n) fun v38 =>
 ok (oFA 1 v38) fun v39 =>
 ok (oLoad h6 none v39) fun v40 =>
 Q (.tup [v40, (.int .i64 0)]) h6)
def vc_net_Net_find (X : Nat → Option XDef) (Q : AVal → Heap → Prop) (v0_n v1_number : AVal) (h : Heap) : Prop :=
 ok2 (oAlloc h [(.int .i64 0), (.int .i64 0), (.int .i64 0), .nilSlice]) fun v4 h1 =>
 FnC X net_Net_none [v0_n] h1 fun v9 h2 =>
 br v9 (
 ok (oBuild [(.int .i64 0), (.int .i64 0), (.int .i64 0), .nilSlice] []) fun v10 =>
 ok2 (oStore h2 4 v4 v10) fun _ h3 =>
 ok (oLoad h3 (some 4) v4) fun v4_1 =>
 Q (.tup [v4_1, (.int .i64 1)]) h3) (
 ok (oNil v0_n) fun v13 =>
 ok (oFA 0 v13) fun v14 =>
 ok (oLoad h2 none v14) fun v15 =>
 ok (oLook h2 false (.agg [(.int .i64 0), (.int .i64 0), (.int .i64 0), .nilSlice]) true v15 v1_number) fun v17 =>
 ok (oExt 0 v17) fun v18 =>
 ok (oExt 1 v17) fun v19 =>
 ok2 (oAlloc h2 [(.int .i64 0), (.int .i64 0), (.int .i64 0), .nilSlice]) fun v6_p h4 =>
 ok2 (oStore h4 4 v6_p v18) fun _ h5 =>
 ok (unA .not v19) fun v21 =>
 br v21 (
 ok (oBuild [(.int .i64 0), (.int .i64 0), (.int .i64 0), .nilSlice] []) fun v22 =>
 ok2 (oStore h5 4 v4 v22) fun _ h6 =>
 ok (oLoad h6 (some 4) v4) fun v4_2 =>
 Q (.tup [v4_2, (.int .i64 80)]) h6) (
 ok (oLoad h5 (some 4) v6_p) fun v23 =>
 ok2 (oStore h5 4 v4 v23) fun _ h7 =>
 ok (oLoad h7 (some 4) v4) fun v4_3 =>
 Q (.tup [v4_3, (.int .i64 0)]) h7))
def vc_musterlow_markByte (X : Nat → Option XDef) (Q : AVal → Heap → Prop) (v0_k v1_i : AVal) (h : Heap) : Prop :=
 ok (binA .add v0_k (.int .i64 7)) fun v6 =>
 ok (binA .mul (.int .i64 1000003) v6) fun v7 =>
 ok (binA .add v7 v1_i) fun v9 =>
 ok (oConv .u64 v9) fun v10 =>
 ok (binA .mul v10 (.int .u64 11400714819323198485)) fun v11 =>
 ok (binA .shr v11 (.int .u64 56)) fun v12 =>
 ok (oConv .u8 v12) fun v13 =>
 Q v13 h
end Go.Proofs.Ytlfmiplojpcklaa.Net
