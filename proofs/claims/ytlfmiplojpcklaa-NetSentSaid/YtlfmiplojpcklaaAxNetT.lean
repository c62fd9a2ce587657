/- What suffices, function by function. -/
import Derived.Test.YtlfmiplojpcklaaAxNetK
namespace Go.Proofs.Ytlfmiplojpcklaa.Net
open Go.Ax Go.Proofs
theorem x_musterlaw08_NetSent : X musterlaw08_NetSent = some (.body (eraseF ac_musterlaw08_NetSent)) := by kernel_rfl
theorem vce_musterlaw08_NetSent {Q : AVal → Heap → Prop} {a0 : AVal} {h : Heap} : FnW X ac_musterlaw08_NetSent [a0] h Q = vc_musterlaw08_NetSent X Q a0 h := by kernel_rfl
theorem fn_musterlaw08_NetSent {Q : AVal → Heap → Prop} {a0 : AVal} {h : Heap} (H : vc_musterlaw08_NetSent X Q a0 h) : FnC X musterlaw08_NetSent [a0] h Q :=
  Fn_of_W (n := 1) x_musterlaw08_NetSent rfl (by kernel_rfl) (by kernel_rfl) rfl (by decide) (Eq.mpr vce_musterlaw08_NetSent H)
theorem x_musterlaw08_NetSpares : X musterlaw08_NetSpares = some (.body (eraseF ac_musterlaw08_NetSpares)) := by kernel_rfl
theorem vce_musterlaw08_NetSpares {Q : AVal → Heap → Prop} {a0 : AVal} {h : Heap} : FnW X ac_musterlaw08_NetSpares [a0] h Q = vc_musterlaw08_NetSpares X Q a0 h := by kernel_rfl
theorem fn_musterlaw08_NetSpares {Q : AVal → Heap → Prop} {a0 : AVal} {h : Heap} (H : vc_musterlaw08_NetSpares X Q a0 h) : FnC X musterlaw08_NetSpares [a0] h Q :=
  Fn_of_W (n := 1) x_musterlaw08_NetSpares rfl (by kernel_rfl) (by kernel_rfl) rfl (by decide) (Eq.mpr vce_musterlaw08_NetSpares H)
theorem x_net_New : X net_New = some (.body (eraseF ac_net_New)) := by kernel_rfl
theorem vce_net_New {Q : AVal → Heap → Prop} {h : Heap} : FnW X ac_net_New [] h Q = vc_net_New X Q  h := by kernel_rfl
theorem fn_net_New {Q : AVal → Heap → Prop} {h : Heap} (H : vc_net_New X Q  h) : FnC X net_New [] h Q :=
  Fn_of_W (n := 0) x_net_New rfl (by kernel_rfl) (by kernel_rfl) rfl (by decide) (Eq.mpr vce_net_New H)
theorem x_musterlaw08_NetSent_1 : X musterlaw08_NetSent_1 = some (.body (eraseF ac_musterlaw08_NetSent_1)) := by kernel_rfl
theorem vce_musterlaw08_NetSent_1 {Q : AVal → Heap → Prop} {a0 a1 a2 a3 : AVal} {h : Heap} : FnW X ac_musterlaw08_NetSent_1 [a0, a1, a2, a3] h Q = vc_musterlaw08_NetSent_1 X Q a0 a1 a2 a3 h := by kernel_rfl
theorem fn_musterlaw08_NetSent_1 {Q : AVal → Heap → Prop} {a0 a1 a2 a3 : AVal} {h : Heap} (H : vc_musterlaw08_NetSent_1 X Q a0 a1 a2 a3 h) : FnC X musterlaw08_NetSent_1 [a0, a1, a2, a3] h Q :=
  Fn_of_W (n := 4) x_musterlaw08_NetSent_1 rfl (by kernel_rfl) (by kernel_rfl) rfl (by decide) (Eq.mpr vce_musterlaw08_NetSent_1 H)
theorem x_musterlow_SameBytes : X musterlow_SameBytes = some (.body (eraseF ac_musterlow_SameBytes)) := by kernel_rfl
theorem vce_musterlow_SameBytes {Q : AVal → Heap → Prop} {a0 a1 : AVal} {h : Heap} : FnW X ac_musterlow_SameBytes [a0, a1] h Q = vc_musterlow_SameBytes X Q a0 a1 h := by kernel_rfl
theorem fn_musterlow_SameBytes {Q : AVal → Heap → Prop} {a0 a1 : AVal} {h : Heap} (H : vc_musterlow_SameBytes X Q a0 a1 h) : FnC X musterlow_SameBytes [a0, a1] h Q :=
  Fn_of_W (n := 2) x_musterlow_SameBytes rfl (by kernel_rfl) (by kernel_rfl) rfl (by decide) (Eq.mpr vce_musterlow_SameBytes H)
theorem x_musterlaw08_body : X musterlaw08_body = some (.body (eraseF ac_musterlaw08_body)) := by kernel_rfl
theorem vce_musterlaw08_body {Q : AVal → Heap → Prop} {a0 : AVal} {h : Heap} : FnW X ac_musterlaw08_body [a0] h Q = vc_musterlaw08_body X Q a0 h := by kernel_rfl
theorem fn_musterlaw08_body {Q : AVal → Heap → Prop} {a0 : AVal} {h : Heap} (H : vc_musterlaw08_body X Q a0 h) : FnC X musterlaw08_body [a0] h Q :=
  Fn_of_W (n := 1) x_musterlaw08_body rfl (by kernel_rfl) (by kernel_rfl) rfl (by decide) (Eq.mpr vce_musterlaw08_body H)
theorem x_musterlow_Pick : X musterlow_Pick = some (.body (eraseF ac_musterlow_Pick)) := by kernel_rfl
theorem vce_musterlow_Pick {Q : AVal → Heap → Prop} {a0 a1 : AVal} {h : Heap} : FnW X ac_musterlow_Pick [a0, a1] h Q = vc_musterlow_Pick X Q a0 a1 h := by kernel_rfl
theorem fn_musterlow_Pick {Q : AVal → Heap → Prop} {a0 a1 : AVal} {h : Heap} (H : vc_musterlow_Pick X Q a0 a1 h) : FnC X musterlow_Pick [a0, a1] h Q :=
  Fn_of_W (n := 2) x_musterlow_Pick rfl (by kernel_rfl) (by kernel_rfl) rfl (by decide) (Eq.mpr vce_musterlow_Pick H)
theorem x_net_Net_List : X net_Net_List = some (.body (eraseF ac_net_Net_List)) := by kernel_rfl
theorem vce_net_Net_List {Q : AVal → Heap → Prop} {a0 : AVal} {h : Heap} : FnW X ac_net_Net_List [a0] h Q = vc_net_Net_List X Q a0 h := by kernel_rfl
theorem fn_net_Net_List {Q : AVal → Heap → Prop} {a0 : AVal} {h : Heap} (H : vc_net_Net_List X Q a0 h) : FnC X net_Net_List [a0] h Q :=
  Fn_of_W (n := 1) x_net_Net_List rfl (by kernel_rfl) (by kernel_rfl) rfl (by decide) (Eq.mpr vce_net_Net_List H)
theorem x_net_Net_Send : X net_Net_Send = some (.body (eraseF ac_net_Net_Send)) := by kernel_rfl
theorem vce_net_Net_Send {Q : AVal → Heap → Prop} {a0 a1 a2 a3 : AVal} {h : Heap} : FnW X ac_net_Net_Send [a0, a1, a2, a3] h Q = vc_net_Net_Send X Q a0 a1 a2 a3 h := by kernel_rfl
theorem fn_net_Net_Send {Q : AVal → Heap → Prop} {a0 a1 a2 a3 : AVal} {h : Heap} (H : vc_net_Net_Send X Q a0 a1 a2 a3 h) : FnC X net_Net_Send [a0, a1, a2, a3] h Q :=
  Fn_of_W (n := 4) x_net_Net_Send rfl (by kernel_rfl) (by kernel_rfl) rfl (by decide) (Eq.mpr vce_net_Net_Send H)
theorem x_net_Net_Deliver : X net_Net_Deliver = some (.body (eraseF ac_net_Net_Deliver)) := by kernel_rfl
theorem vce_net_Net_Deliver {Q : AVal → Heap → Prop} {a0 a1 : AVal} {h : Heap} : FnW X ac_net_Net_Deliver [a0, a1] h Q = vc_net_Net_Deliver X Q a0 a1 h := by kernel_rfl
theorem fn_net_Net_Deliver {Q : AVal → Heap → Prop} {a0 a1 : AVal} {h : Heap} (H : vc_net_Net_Deliver X Q a0 a1 h) : FnC X net_Net_Deliver [a0, a1] h Q :=
  Fn_of_W (n := 2) x_net_Net_Deliver rfl (by kernel_rfl) (by kernel_rfl) rfl (by decide) (Eq.mpr vce_net_Net_Deliver H)
theorem x_net_Net_Drop : X net_Net_Drop = some (.body (eraseF ac_net_Net_Drop)) := by kernel_rfl
theorem vce_net_Net_Drop {Q : AVal → Heap → Prop} {a0 a1 : AVal} {h : Heap} : FnW X ac_net_Net_Drop [a0, a1] h Q = vc_net_Net_Drop X Q a0 a1 h := by kernel_rfl
theorem fn_net_Net_Drop {Q : AVal → Heap → Prop} {a0 a1 : AVal} {h : Heap} (H : vc_net_Net_Drop X Q a0 a1 h) : FnC X net_Net_Drop [a0, a1] h Q :=
  Fn_of_W (n := 2) x_net_Net_Drop rfl (by kernel_rfl) (by kernel_rfl) rfl (by decide) (Eq.mpr vce_net_Net_Drop H)
theorem x_net_Net_Double : X net_Net_Double = some (.body (eraseF ac_net_Net_Double)) := by kernel_rfl
theorem vce_net_Net_Double {Q : AVal → Heap → Prop} {a0 a1 : AVal} {h : Heap} : FnW X ac_net_Net_Double [a0, a1] h Q = vc_net_Net_Double X Q a0 a1 h := by kernel_rfl
theorem fn_net_Net_Double {Q : AVal → Heap → Prop} {a0 a1 : AVal} {h : Heap} (H : vc_net_Net_Double X Q a0 a1 h) : FnC X net_Net_Double [a0, a1] h Q :=
  Fn_of_W (n := 2) x_net_Net_Double rfl (by kernel_rfl) (by kernel_rfl) rfl (by decide) (Eq.mpr vce_net_Net_Double H)
theorem x_musterlaw08_awake : X musterlaw08_awake = some (.body (eraseF ac_musterlaw08_awake)) := by kernel_rfl
theorem vce_musterlaw08_awake {Q : AVal → Heap → Prop} {h : Heap} : FnW X ac_musterlaw08_awake [] h Q = vc_musterlaw08_awake X Q  h := by kernel_rfl
theorem fn_musterlaw08_awake {Q : AVal → Heap → Prop} {h : Heap} (H : vc_musterlaw08_awake X Q  h) : FnC X musterlaw08_awake [] h Q :=
  Fn_of_W (n := 0) x_musterlaw08_awake rfl (by kernel_rfl) (by kernel_rfl) rfl (by decide) (Eq.mpr vce_musterlaw08_awake H)
theorem x_musterlow_CopyBytes : X musterlow_CopyBytes = some (.body (eraseF ac_musterlow_CopyBytes)) := by kernel_rfl
theorem vce_musterlow_CopyBytes {Q : AVal → Heap → Prop} {a0 : AVal} {h : Heap} : FnW X ac_musterlow_CopyBytes [a0] h Q = vc_musterlow_CopyBytes X Q a0 h := by kernel_rfl
theorem fn_musterlow_CopyBytes {Q : AVal → Heap → Prop} {a0 : AVal} {h : Heap} (H : vc_musterlow_CopyBytes X Q a0 h) : FnC X musterlow_CopyBytes [a0] h Q :=
  Fn_of_W (n := 1) x_musterlow_CopyBytes rfl (by kernel_rfl) (by kernel_rfl) rfl (by decide) (Eq.mpr vce_musterlow_CopyBytes H)
theorem x_musterlow_ApartBytes : X musterlow_ApartBytes = some (.body (eraseF ac_musterlow_ApartBytes)) := by kernel_rfl
theorem vce_musterlow_ApartBytes {Q : AVal → Heap → Prop} {a0 : AVal} {h : Heap} : FnW X ac_musterlow_ApartBytes [a0] h Q = vc_musterlow_ApartBytes X Q a0 h := by kernel_rfl
theorem fn_musterlow_ApartBytes {Q : AVal → Heap → Prop} {a0 : AVal} {h : Heap} (H : vc_musterlow_ApartBytes X Q a0 h) : FnC X musterlow_ApartBytes [a0] h Q :=
  Fn_of_W (n := 1) x_musterlow_ApartBytes rfl (by kernel_rfl) (by kernel_rfl) rfl (by decide) (Eq.mpr vce_musterlow_ApartBytes H)
theorem x_musterlow_Made : X musterlow_Made = some (.body (eraseF ac_musterlow_Made)) := by kernel_rfl
theorem vce_musterlow_Made {Q : AVal → Heap → Prop} {a0 a1 : AVal} {h : Heap} : FnW X ac_musterlow_Made [a0, a1] h Q = vc_musterlow_Made X Q a0 a1 h := by kernel_rfl
theorem fn_musterlow_Made {Q : AVal → Heap → Prop} {a0 a1 : AVal} {h : Heap} (H : vc_musterlow_Made X Q a0 a1 h) : FnC X musterlow_Made [a0, a1] h Q :=
  Fn_of_W (n := 2) x_musterlow_Made rfl (by kernel_rfl) (by kernel_rfl) rfl (by decide) (Eq.mpr vce_musterlow_Made H)
theorem x_net_Net_none : X net_Net_none = some (.body (eraseF ac_net_Net_none)) := by kernel_rfl
theorem vce_net_Net_none {Q : AVal → Heap → Prop} {a0 : AVal} {h : Heap} : FnW X ac_net_Net_none [a0] h Q = vc_net_Net_none X Q a0 h := by kernel_rfl
theorem fn_net_Net_none {Q : AVal → Heap → Prop} {a0 : AVal} {h : Heap} (H : vc_net_Net_none X Q a0 h) : FnC X net_Net_none [a0] h Q :=
  Fn_of_W (n := 1) x_net_Net_none rfl (by kernel_rfl) (by kernel_rfl) rfl (by decide) (Eq.mpr vce_net_Net_none H)
theorem x_maps_Keys_map_int_api_Packet_int_api_Packet : X maps_Keys_map_int_api_Packet_int_api_Packet = some (.body (eraseF ac_maps_Keys_map_int_api_Packet_int_api_Packet)) := by kernel_rfl
theorem vce_maps_Keys_map_int_api_Packet_int_api_Packet {Q : AVal → Heap → Prop} {a0 : AVal} {h : Heap} : FnW X ac_maps_Keys_map_int_api_Packet_int_api_Packet [a0] h Q = vc_maps_Keys_map_int_api_Packet_int_api_Packet X Q a0 h := by kernel_rfl
theorem fn_maps_Keys_map_int_api_Packet_int_api_Packet {Q : AVal → Heap → Prop} {a0 : AVal} {h : Heap} (H : vc_maps_Keys_map_int_api_Packet_int_api_Packet X Q a0 h) : FnC X maps_Keys_map_int_api_Packet_int_api_Packet [a0] h Q :=
  Fn_of_W (n := 1) x_maps_Keys_map_int_api_Packet_int_api_Packet rfl (by kernel_rfl) (by kernel_rfl) rfl (by decide) (Eq.mpr vce_maps_Keys_map_int_api_Packet_int_api_Packet H)
theorem x_slices_Clone_L_byte_byte : X slices_Clone_L_byte_byte = some (.body (eraseF ac_slices_Clone_L_byte_byte)) := by kernel_rfl
theorem vce_slices_Clone_L_byte_byte {Q : AVal → Heap → Prop} {a0 : AVal} {h : Heap} : FnW X ac_slices_Clone_L_byte_byte [a0] h Q = vc_slices_Clone_L_byte_byte X Q a0 h := by kernel_rfl
theorem fn_slices_Clone_L_byte_byte {Q : AVal → Heap → Prop} {a0 : AVal} {h : Heap} (H : vc_slices_Clone_L_byte_byte X Q a0 h) : FnC X slices_Clone_L_byte_byte [a0] h Q :=
  Fn_of_W (n := 1) x_slices_Clone_L_byte_byte rfl (by kernel_rfl) (by kernel_rfl) rfl (by decide) (Eq.mpr vce_slices_Clone_L_byte_byte H)
theorem x_net_Net_put : X net_Net_put = some (.body (eraseF ac_net_Net_put)) := by kernel_rfl
theorem vce_net_Net_put {Q : AVal → Heap → Prop} {a0 a1 : AVal} {h : Heap} : FnW X ac_net_Net_put [a0, a1] h Q = vc_net_Net_put X Q a0 a1 h := by kernel_rfl
theorem fn_net_Net_put {Q : AVal → Heap → Prop} {a0 a1 : AVal} {h : Heap} (H : vc_net_Net_put X Q a0 a1 h) : FnC X net_Net_put [a0, a1] h Q :=
  Fn_of_W (n := 2) x_net_Net_put rfl (by kernel_rfl) (by kernel_rfl) rfl (by decide) (Eq.mpr vce_net_Net_put H)
theorem x_net_Net_find : X net_Net_find = some (.body (eraseF ac_net_Net_find)) := by kernel_rfl
theorem vce_net_Net_find {Q : AVal → Heap → Prop} {a0 a1 : AVal} {h : Heap} : FnW X ac_net_Net_find [a0, a1] h Q = vc_net_Net_find X Q a0 a1 h := by kernel_rfl
theorem fn_net_Net_find {Q : AVal → Heap → Prop} {a0 a1 : AVal} {h : Heap} (H : vc_net_Net_find X Q a0 a1 h) : FnC X net_Net_find [a0, a1] h Q :=
  Fn_of_W (n := 2) x_net_Net_find rfl (by kernel_rfl) (by kernel_rfl) rfl (by decide) (Eq.mpr vce_net_Net_find H)
theorem x_musterlow_markByte : X musterlow_markByte = some (.body (eraseF ac_musterlow_markByte)) := by kernel_rfl
theorem vce_musterlow_markByte {Q : AVal → Heap → Prop} {a0 a1 : AVal} {h : Heap} : FnW X ac_musterlow_markByte [a0, a1] h Q = vc_musterlow_markByte X Q a0 a1 h := by kernel_rfl
theorem fn_musterlow_markByte {Q : AVal → Heap → Prop} {a0 a1 : AVal} {h : Heap} (H : vc_musterlow_markByte X Q a0 a1 h) : FnC X musterlow_markByte [a0, a1] h Q :=
  Fn_of_W (n := 2) x_musterlow_markByte rfl (by kernel_rfl) (by kernel_rfl) rfl (by decide) (Eq.mpr vce_musterlow_markByte H)
end Go.Proofs.Ytlfmiplojpcklaa.Net
